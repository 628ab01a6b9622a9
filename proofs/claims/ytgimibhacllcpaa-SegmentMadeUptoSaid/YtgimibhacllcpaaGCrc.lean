/- Written by gen.py: functions of the program as Lean functions, and that the code comes to them. -/
import Derived.Test.YtgimibhacllcpaaAbsxc
set_option linter.unusedVariables false
set_option linter.unusedSimpArgs false
set_option maxRecDepth 100000
set_option maxHeartbeats 4000000
namespace Go.Proofs.Abs
open Go

/-- courant/couranthelp.Own[byte] -/
def C21 (N : Nat → Nat) : AFunc := { n := 33, params := 2, res := [.tmp 4], body :=
 (.seq (.region false [⟨(some 4), .mv (.k .nils), none, []⟩])
  (.seq (.region false [⟨(some 8), .mv (.t 0), none, []⟩,
    ⟨(some 9), .len (.t 8), none, [0]⟩,
    ⟨(some 10), .bin .add (.t 9) (.k (.d (.int .i64 3))), none, [1]⟩,
    ⟨(some 11), .mksl (.k (.d (.int .i64 0))) (.t 10) 1 1 [(.int .u8 0)], none, [2]⟩,
    ⟨(some 5), .mv (.t 11), none, [3, 0, 1, 2]⟩])
   (.seq (.region false [⟨(some 12), .mv (.t 5), none, []⟩,
     ⟨(some 13), .mv (.t 0), none, []⟩,
     ⟨(some 14), .app (.t 12) (.t 13) 1 1 [(.int .u8 0)], none, [0, 1]⟩,
     ⟨(some 5), .mv (.t 14), none, [2, 0, 1]⟩])
    (.seq (.region false [⟨(some 15), .mv (.t 5), none, []⟩,
      ⟨(some 16), .mv (.t 0), none, []⟩,
      ⟨(some 17), .len (.t 16), none, [1]⟩,
      ⟨(some 18), .bin .add (.t 17) (.k (.d (.int .i64 3))), none, [2]⟩,
      ⟨(some 19), .slc (.t 15) none (some (.t 18)) none 1, none, [0, 3]⟩,
      ⟨(some 6), .mv (.t 19), none, [4, 0, 1, 2, 3]⟩])
     (.seq (.seq (.region false [⟨(some 20), .mv (.t 0), none, []⟩,
        ⟨(some 21), .len (.t 20), none, [0]⟩,
        ⟨(some 7), .mv (.t 21), none, [1, 0]⟩])
       (.block 0 (.loop (.seq (.seq (.region false [⟨(some 22), .mv (.t 7), none, []⟩,
            ⟨(some 23), .mv (.t 6), none, []⟩,
            ⟨(some 24), .len (.t 23), none, [1]⟩,
            ⟨(some 25), .bin .lss (.t 22) (.t 24), none, [0, 2]⟩])
           (.cond (.t 25) (.skip)
            (.exit 0)))
          (.seq (.block 1 (.region false [⟨(some 28), .mv (.t 6), none, []⟩,
             ⟨(some 29), .mv (.t 7), none, []⟩,
             ⟨(some 30), .mv (.t 1), none, []⟩,
             ⟨(some 31), .iaddr (.t 28) (.t 29) 1, none, [0, 1, 2]⟩,
             ⟨none, .store (.t 31) (.t 30) 1, none, [3, 2, 0, 1]⟩]))
           (.region false [⟨(some 26), .mv (.t 7), none, []⟩,
            ⟨(some 27), .bin .add (.t 26) (.k (.d (.int .i64 1))), none, [0]⟩,
            ⟨(some 7), .mv (.t 27), none, [1, 0]⟩]))))))
      (.seq (.region false [⟨(some 32), .mv (.t 5), none, []⟩,
        ⟨(some 4), .mv (.t 32), none, [0]⟩])
       .ret)))))) }
def HC21 (P : Program) (N : Nat → Nat) : Prop := HasF P (N 21) (C21 N)
def f21_l36 (a0 : (List UInt8)) (a1 : UInt8) : Nat → Int → (List UInt8) → Option (LR2 (List UInt8) Unit (List UInt8))
  | 0, _, _ => none
  | k + 1, y36_1, y36_2 => cond (decide (y36_1 < ((((IntKind.i64.wrap (((a0.length : Nat) : Int) + (3 : Int)))).toNat : Nat) : Int))) (gd (0 ≤ y36_1 ∧ y36_1 < ((((IntKind.i64.wrap (((a0.length : Nat) : Int) + (3 : Int)))).toNat : Nat) : Int)) (gd ((y36_1).toNat < y36_2.length) (f21_l36 a0 a1 k (IntKind.i64.wrap (y36_1 + (1 : Int))) (List.set y36_2 (y36_1).toNat a1)))) (some (.b0 y36_2))
def f21 (k : Nat) (a0 : (List UInt8)) (a1 : UInt8) : Option (List UInt8) := gd (0 ≤ (0 : Int) ∧ (0 : Int) ≤ (IntKind.i64.wrap (((a0.length : Nat) : Int) + (3 : Int))) ∧ (IntKind.i64.wrap (((a0.length : Nat) : Int) + (3 : Int))) * 1 ≤ 281474976710656) (gd (((0 : Int)).toNat + a0.length ≤ ((IntKind.i64.wrap (((a0.length : Nat) : Int) + (3 : Int)))).toNat ∧ ((IntKind.i64.wrap (((a0.length : Nat) : Int) + (3 : Int)))).toNat ≤ (List.replicate ((IntKind.i64.wrap (((a0.length : Nat) : Int) + (3 : Int)))).toNat (default : UInt8)).length) (gd (0 ≤ (IntKind.i64.wrap (((a0.length : Nat) : Int) + (3 : Int))) ∧ (IntKind.i64.wrap (((a0.length : Nat) : Int) + (3 : Int))) ≤ ((((IntKind.i64.wrap (((a0.length : Nat) : Int) + (3 : Int)))).toNat : Nat) : Int)) ((f21_l36 a0 a1 k ((a0.length : Nat) : Int) (List.take (((0 : Int)).toNat) (List.replicate ((IntKind.i64.wrap (((a0.length : Nat) : Int) + (3 : Int)))).toNat (default : UInt8)) ++ a0 ++ List.drop (((0 : Int)).toNat + a0.length) (List.replicate ((IntKind.i64.wrap (((a0.length : Nat) : Int) + (3 : Int)))).toNat (default : UInt8)))).bind fun o36 => match o36 with | .b0 x36_1 => gd (((((0 : Int)).toNat + a0.length) ≤ x36_1.length ∧ ((IntKind.i64.wrap (((a0.length : Nat) : Int) + (3 : Int)))).toNat = x36_1.length)) (some x36_1) | _ => none)))
theorem F21 {P : Program} {N : Nat → Nat} (hmix : P.follows .mixedOrders = true) (hc : HC21 P N) {k : Nat} {a0 : (List UInt8)} {a1 : UInt8} {r : (List UInt8)} (h : f21 k a0 a1 = some r) :
    ACalls P (N 21) [(.d (.sl (List.map byteD a0))), (.d (.int .u8 ((a1.toNat : Nat) : Int)))] [] (.win (List.map byteD r) (((0 : Int)).toNat + a0.length)) [] := by
  refine acalls_canon (F := C21 N) hc 0 0 rfl ?_
  unfold f21 at h
  dsimp only [C21, startL]
  refine AWc.seq ?_
  refine AWc.rg hmix rfl rfl ?_
  refine RegV.p0 rfl rfl rfl ?_
  refine RegV.nil0 ?_
  refine AWc.seq ?_
  refine AWc.rg hmix rfl rfl ?_
  refine RegV.p0 rfl rfl rfl ?_
  refine RegV.len (xs := a0) (e := byteD) rfl rfl rfl rfl ?_
  refine RegV.p0 (v := (.d (.int .i64 (IntKind.i64.wrap (((a0.length : Nat) : Int) + (3 : Int)))))) rfl rfl rfl ?_
  obtain ⟨b11, h⟩ := gd_some h
  refine RegV.mkS (e := byteD) (a0 := default) rfl rfl rfl byteD_ok rfl rfl b11 rfl rfl ?_
  refine RegV.p0 rfl rfl rfl ?_
  refine RegV.nil0 ?_
  refine AWc.seq ?_
  refine AWc.rg hmix rfl rfl ?_
  refine RegV.p0 rfl rfl rfl ?_
  refine RegV.p0 rfl rfl rfl ?_
  obtain ⟨b18, h⟩ := gd_some h
  refine RegV.apS (xs := (List.replicate ((IntKind.i64.wrap (((a0.length : Nat) : Int) + (3 : Int)))).toNat (default : UInt8))) (ys := a0) (e := byteD) (H' := [(0, (cellsO byteD (List.take (((0 : Int)).toNat) (List.replicate ((IntKind.i64.wrap (((a0.length : Nat) : Int) + (3 : Int)))).toNat (default : UInt8)) ++ a0 ++ List.drop (((0 : Int)).toNat + a0.length) (List.replicate ((IntKind.i64.wrap (((a0.length : Nat) : Int) + (3 : Int)))).toNat (default : UInt8)))))]) rfl rfl rfl rfl byteD_ok rfl rfl b18 rfl rfl rfl rfl ?_
  refine RegV.p0 rfl rfl rfl ?_
  refine RegV.nil0 ?_
  refine AWc.seq ?_
  refine AWc.rg hmix rfl rfl ?_
  refine RegV.p0 rfl rfl rfl ?_
  refine RegV.p0 rfl rfl rfl ?_
  refine RegV.len (xs := a0) (e := byteD) rfl rfl rfl rfl ?_
  refine RegV.p0 (v := (.d (.int .i64 (IntKind.i64.wrap (((a0.length : Nat) : Int) + (3 : Int)))))) rfl rfl rfl ?_
  obtain ⟨b27, h⟩ := gd_some h
  refine RegV.slH (hi := (IntKind.i64.wrap (((a0.length : Nat) : Int) + (3 : Int)))) rfl rfl rfl b27 rfl ?_
  refine RegV.p0 rfl rfl rfl ?_
  refine RegV.nil0 ?_
  refine AWc.seq ?_
  refine AWc.seq ?_
  refine AWc.rg hmix rfl rfl ?_
  refine RegV.p0 rfl rfl rfl ?_
  refine RegV.len (xs := a0) (e := byteD) rfl rfl rfl rfl ?_
  refine RegV.p0 rfl rfl rfl ?_
  refine RegV.nil0 ?_
  obtain ⟨o36, h36, h⟩ := bind_some h
  refine AWc.block ?_
  refine AWc.loopK (N := 33) 1 (fun (x : (Int × (List UInt8))) => [(1, (.d (.int .u8 ((a1.toNat : Nat) : Int)))), (5, (.sl 0 0 (((0 : Int)).toNat + a0.length) (((IntKind.i64.wrap (((a0.length : Nat) : Int) + (3 : Int)))).toNat) 1)), (6, (.sl 0 0 (((IntKind.i64.wrap (((a0.length : Nat) : Int) + (3 : Int)))).toNat) (((IntKind.i64.wrap (((a0.length : Nat) : Int) + (3 : Int)))).toNat) 1)), (7, (.d (.int .i64 x.1)))]) (fun x => [(0, (cellsO byteD x.2))]) (fun k x => f21_l36 a0 a1 k x.1 x.2 = some o36) k (((a0.length : Nat) : Int), (List.take (((0 : Int)).toNat) (List.replicate ((IntKind.i64.wrap (((a0.length : Nat) : Int) + (3 : Int)))).toNat (default : UInt8)) ++ a0 ++ List.drop (((0 : Int)).toNat + a0.length) (List.replicate ((IntKind.i64.wrap (((a0.length : Nat) : Int) + (3 : Int)))).toNat (default : UInt8)))) rfl_le (fun x hx => by cases hx) h36 ⟨rfl, [], [], rfl, rfl, ⟨⟨_, rfl, (.refl _)⟩, rfl, ⟨⟨_, rfl, (.refl _)⟩, rfl, ⟨⟨_, rfl, (.refl _)⟩, rfl, ⟨⟨_, rfl, (.refl _)⟩, rfl, trivial⟩⟩⟩⟩, ⟨⟨_, rfl, (.refl _)⟩, rfl, rfl, trivial⟩⟩ ?_
  clear h36
  intro k
  rintro ⟨y36_1, y36_2⟩ h36
  dsimp only at h36 ⊢
  rw [f21_l36] at h36
  refine AWc.seq ?_
  refine AWc.seq ?_
  refine AWc.rg hmix rfl rfl ?_
  refine RegV.p0 rfl rfl rfl ?_
  refine RegV.p0 rfl rfl rfl ?_
  refine RegV.p0 (v := (.d (.int .i64 ((((IntKind.i64.wrap (((a0.length : Nat) : Int) + (3 : Int)))).toNat : Nat) : Int)))) rfl rfl rfl ?_
  refine RegV.p0 (v := (.d (.bool (decide (y36_1 < ((((IntKind.i64.wrap (((a0.length : Nat) : Int) + (3 : Int)))).toNat : Nat) : Int)))))) rfl rfl rfl ?_
  refine RegV.nil0 ?_
  refine AWc.cond rfl (fun c46 => ?_) (fun c46 => ?_)
  · have h36 := cond_pos c46 h36
    refine AWc.skip ?_
    refine AWc.seq ?_
    refine AWc.block ?_
    refine AWc.rg hmix rfl rfl ?_
    refine RegV.p0 rfl rfl rfl ?_
    refine RegV.p0 rfl rfl rfl ?_
    refine RegV.p0 rfl rfl rfl ?_
    obtain ⟨b56, h36⟩ := gd_some h36
    refine RegV.iaS0 (z := 1) rfl rfl rfl b56 rfl ?_
    obtain ⟨b57, h36⟩ := gd_some h36
    refine RegV.stS (e := byteD) (xs := y36_2) (i := (y36_1).toNat) (v := a1) (H' := [(0, (cellsO byteD (List.set y36_2 (y36_1).toNat a1)))]) rfl rfl rfl rfl byteD_ok rfl b57 rfl rfl rfl ?_
    refine RegV.nil0 ?_
    refine AWc.rg hmix rfl rfl ?_
    refine RegV.p0 rfl rfl rfl ?_
    refine RegV.p0 (v := (.d (.int .i64 (IntKind.i64.wrap (y36_1 + (1 : Int)))))) rfl rfl rfl ?_
    refine RegV.p0 rfl rfl rfl ?_
    refine RegV.nil0 ?_
    exact ⟨((IntKind.i64.wrap (y36_1 + (1 : Int))), (List.set y36_2 (y36_1).toNat a1)), h36, ⟨rfl, [], [], rfl, rfl, ⟨⟨_, rfl, (.refl _)⟩, rfl, ⟨⟨_, rfl, (.refl _)⟩, rfl, ⟨⟨_, rfl, (.refl _)⟩, rfl, ⟨⟨_, rfl, (.refl _)⟩, rfl, trivial⟩⟩⟩⟩, ⟨⟨_, rfl, (.refl _)⟩, rfl, rfl, trivial⟩⟩⟩
  · have h36 := cond_neg c46 h36
    cases h36
    dsimp only at h
    refine AWc.exit ?_
    refine inBlk_eq ?_
    refine AWc.seq ?_
    refine AWc.rg hmix rfl rfl ?_
    refine RegV.p0 rfl rfl rfl ?_
    refine RegV.p0 rfl rfl rfl ?_
    refine RegV.nil0 ?_
    obtain ⟨bs0, h⟩ := gd_some h
    refine AWc.seal (l0 := 0) (xs := y36_2) (l' := [(4, (.win (List.map byteD y36_2) (((0 : Int)).toNat + a0.length)))]) (H' := [(0, (.tok (y36_2.length * 1)))]) byteD_ok rfl ⟨⟨_, rfl, .win bs0⟩, trivial⟩ rfl ?_
    have hr := Option.some.inj h
    subst hr
    exact AWc.ret (canQ (N := 33) (k := 0) (l' := [(4, (.win (List.map byteD y36_2) (((0 : Int)).toNat + a0.length)))]) (H' := []) rfl ⟨rfl, [], [], rfl, rfl, ⟨⟨_, rfl, (.refl _)⟩, rfl, trivial⟩,  trivial⟩ (doneA (.inr rfl) rfl ⟨trivial, trivial⟩ (.refl _) hasNil))
/-- courant/crc.table -/
def C265 (N : Nat → Nat) : AFunc := { n := 25, params := 0, res := [.cell 0 256 true], body :=
 (.seq (.region false [⟨(some 0), .alloc (List.replicate 256 (.int .u32 0)), none, []⟩])
  (.seq (.region false [⟨(some 1), .alloc (List.replicate 256 (.int .u32 0)), none, []⟩])
   (.seq (.seq (.region false [⟨(some 4), .mv (.k (.d (.int .i64 0))), none, []⟩])
     (.block 0 (.loop (.seq (.region false [⟨(some 5), .bin .lss (.t 4) (.k (.d (.int .i64 256))), none, []⟩])
        (.seq (.cond (.t 5) (.skip)
          (.exit 0))
         (.seq (.block 1 (.seq (.region false [⟨(some 6), .mv (.t 4), none, []⟩,
             ⟨(some 2), .mv (.t 6), none, [0]⟩])
            (.seq (.region false [⟨(some 7), .mv (.t 2), none, []⟩,
              ⟨(some 8), .cvi .u32 (.t 7), none, [0]⟩,
              ⟨(some 3), .mv (.t 8), none, [1, 0]⟩])
             (.seq (.seq (.region false [⟨(some 9), .mv (.k (.d (.int .i64 0))), none, []⟩])
               (.block 2 (.loop (.seq (.region false [⟨(some 10), .bin .lss (.t 9) (.k (.d (.int .i64 8))), none, []⟩])
                  (.seq (.cond (.t 10) (.skip)
                    (.exit 2))
                   (.seq (.block 3 (.seq (.region false [⟨(some 11), .mv (.t 3), none, []⟩,
                       ⟨(some 12), .bin .and (.t 11) (.k (.d (.int .u32 1))), none, [0]⟩,
                       ⟨(some 13), .bin .neq (.t 12) (.k (.d (.int .u32 0))), none, [1]⟩])
                      (.cond (.t 13) (.region false [⟨(some 14), .mv (.t 3), none, []⟩,
                        ⟨(some 15), .bin .shr (.t 14) (.k (.d (.int .u64 1))), none, [0]⟩,
                        ⟨(some 16), .bin .xor (.t 15) (.k (.d (.int .u32 2197175160))), none, [1]⟩,
                        ⟨(some 3), .mv (.t 16), none, [2, 0, 1]⟩])
                       (.region false [⟨(some 17), .mv (.t 3), none, []⟩,
                        ⟨(some 18), .bin .shr (.t 17) (.k (.d (.int .u64 1))), none, [0]⟩,
                        ⟨(some 3), .mv (.t 18), none, [1, 0]⟩]))))
                    (.region false [⟨(some 19), .bin .add (.t 9) (.k (.d (.int .i64 1))), none, []⟩,
                     ⟨(some 9), .mv (.t 19), none, [0]⟩])))))))
              (.region false [⟨(some 20), .mv (.t 2), none, []⟩,
               ⟨(some 21), .mv (.t 3), none, []⟩,
               ⟨(some 22), .aaddr (.t 1) (.t 20) 256 1, none, [0, 1]⟩,
               ⟨none, .store (.t 22) (.t 21) 1, none, [2, 1, 0]⟩])))))
          (.region false [⟨(some 23), .bin .add (.t 4) (.k (.d (.int .i64 1))), none, []⟩,
           ⟨(some 4), .mv (.t 23), none, [0]⟩])))))))
    (.seq (.region false [⟨(some 24), .load (.t 1) 256 true, none, []⟩,
      ⟨none, .store (.t 0) (.t 24) 256, none, [0]⟩])
     .ret)))) }
def HC265 (P : Program) (N : Nat → Nat) : Prop := HasF P (N 265) (C265 N)
def f265_j76 (L : Int → (List Int) → Option (LR2 (List Int) Unit (List Int))) (k : Nat) (y14_1 : Int) (y14_2 : (List Int)) (j76_1 : Int) : Option (LR2 (List Int) Unit (List Int)) := gd (0 ≤ y14_1 ∧ y14_1 < 256) (gd ((y14_1).toNat < y14_2.length) (L (IntKind.i64.wrap (y14_1 + (1 : Int))) (List.set y14_2 (y14_1).toNat j76_1)))
def f265_l42 : Nat → Int → Int → Option (LR2 Int Unit (List Int))
  | 0, _, _ => none
  | k + 1, y42_1, y42_2 => cond (decide (y42_2 < (8 : Int))) (cond (decide ((bitsA .and .u32 y42_1 (1 : Int)) ≠ (0 : Int))) (f265_l42 k (bitsA .xor .u32 (Int.fdiv y42_1 (2 ^ (min ((1 : Int)).toNat IntKind.u32.bits))) (2197175160 : Int)) (IntKind.i64.wrap (y42_2 + (1 : Int)))) (f265_l42 k (Int.fdiv y42_1 (2 ^ (min ((1 : Int)).toNat IntKind.u32.bits))) (IntKind.i64.wrap (y42_2 + (1 : Int))))) (some (.b0 y42_1))
def f265_l14 : Nat → Int → (List Int) → Option (LR2 (List Int) Unit (List Int))
  | 0, _, _ => none
  | k + 1, y14_1, y14_2 => cond (decide (y14_1 < (256 : Int))) ((f265_l42 k (IntKind.u32.wrap y14_1) (0 : Int)).bind fun o42 => match o42 with | .b0 x42_1 => f265_j76 (f265_l14 k) k y14_1 y14_2 x42_1 | _ => none) (some (.b0 y14_2))
def f265 (k : Nat) : Option (List Int) := (f265_l14 k (0 : Int) (List.replicate 256 (default : Int))).bind fun o14 => match o14 with | .b0 x14_1 => gd (x14_1.length * 1 = 256) (gd ((List.replicate 256 (default : Int)).length * 1 = 256 ∧ x14_1.length * 1 = 256) (gd (x14_1.length * 1 = 256) (some x14_1))) | _ => none
theorem F265 {P : Program} {N : Nat → Nat} (hmix : P.follows .mixedOrders = true) (hc : HC265 P N) {k : Nat} {r : (List Int)} (h : f265 k = some r) :
    ACalls P (N 265) [] [] (.d (.agg (cellsD (D.int .u32) r))) [] := by
  refine acalls_canon (F := C265 N) hc 0 0 rfl ?_
  unfold f265 at h
  dsimp only [C265, startL]
  refine AWc.seq ?_
  refine AWc.rg hmix rfl rfl ?_
  refine RegV.newA (e := (D.int .u32)) (xs := (List.replicate 256 (default : Int))) rfl (by kernel_rfl) rfl rfl ?_
  refine RegV.nil0 ?_
  refine AWc.seq ?_
  refine AWc.rg hmix rfl rfl ?_
  refine RegV.newA (e := (D.int .u32)) (xs := (List.replicate 256 (default : Int))) rfl (by kernel_rfl) rfl rfl ?_
  refine RegV.nil0 ?_
  refine AWc.seq ?_
  refine AWc.seq ?_
  refine AWc.rg hmix rfl rfl ?_
  refine RegV.p0 rfl rfl rfl ?_
  refine RegV.nil0 ?_
  obtain ⟨o14, h14, h⟩ := bind_some h
  refine AWc.block ?_
  refine AWc.loopK (N := 25) 2 (fun (x : (Int × (List Int))) => [(0, (.ptr 0 0)), (1, (.ptr 1 0)), (4, (.d (.int .i64 x.1)))]) (fun x => [(0, (cellsO (D.int .u32) (List.replicate 256 (default : Int)))), (1, (cellsO (D.int .u32) x.2))]) (fun k x => f265_l14 k x.1 x.2 = some o14) k ((0 : Int), (List.replicate 256 (default : Int))) rfl_le (fun x hx => by cases hx) h14 ⟨rfl, [], [], rfl, rfl, ⟨⟨_, rfl, (.refl _)⟩, rfl, ⟨⟨_, rfl, (.refl _)⟩, rfl, ⟨⟨_, rfl, (.refl _)⟩, rfl, trivial⟩⟩⟩, ⟨⟨_, rfl, (.refl _)⟩, rfl, rfl, ⟨⟨_, rfl, (.refl _)⟩, rfl, rfl, trivial⟩⟩⟩ ?_
  clear h14
  intro k
  rintro ⟨y14_1, y14_2⟩ h14
  dsimp only at h14 ⊢
  rw [f265_l14] at h14
  refine AWc.seq ?_
  refine AWc.rg hmix rfl rfl ?_
  refine RegV.p0 (v := (.d (.bool (decide (y14_1 < (256 : Int)))))) rfl rfl rfl ?_
  refine RegV.nil0 ?_
  refine AWc.seq ?_
  refine AWc.cond rfl (fun c21 => ?_) (fun c21 => ?_)
  · have h14 := cond_pos c21 h14
    refine AWc.skip ?_
    refine AWc.seq ?_
    refine AWc.block ?_
    refine AWc.seq ?_
    refine AWc.rg hmix rfl rfl ?_
    refine RegV.p0 rfl rfl rfl ?_
    refine RegV.p0 rfl rfl rfl ?_
    refine RegV.nil0 ?_
    refine AWc.seq ?_
    refine AWc.rg hmix rfl rfl ?_
    refine RegV.p0 rfl rfl rfl ?_
    refine RegV.p0 (v := (.d (.int .u32 (IntKind.u32.wrap y14_1)))) rfl rfl rfl ?_
    refine RegV.p0 rfl rfl rfl ?_
    refine RegV.nil0 ?_
    refine AWc.seqS (N := 25) 2 (fun (z : Int) => [(0, (.ptr 0 0)), (1, (.ptr 1 0)), (2, (.d (.int .i64 y14_1))), (3, (.d (.int .u32 z))), (4, (.d (.int .i64 y14_1)))]) (fun z => [(0, (cellsO (D.int .u32) (List.replicate 256 (default : Int)))), (1, (cellsO (D.int .u32) y14_2))]) (fun z => f265_j76 (f265_l14 k) k y14_1 y14_2 z = some o14) rfl_le ?_ ?_
    · refine AWc.seq ?_
      refine AWc.rg hmix rfl rfl ?_
      refine RegV.p0 rfl rfl rfl ?_
      refine RegV.nil0 ?_
      obtain ⟨o42, h42, h14⟩ := bind_some h14
      refine AWc.block ?_
      refine AWc.loopK (N := 25) 2 (fun (x : (Int × Int)) => [(0, (.ptr 0 0)), (1, (.ptr 1 0)), (2, (.d (.int .i64 y14_1))), (3, (.d (.int .u32 x.1))), (4, (.d (.int .i64 y14_1))), (9, (.d (.int .i64 x.2)))]) (fun x => [(0, (cellsO (D.int .u32) (List.replicate 256 (default : Int)))), (1, (cellsO (D.int .u32) y14_2))]) (fun k x => f265_l42 k x.1 x.2 = some o42) k ((IntKind.u32.wrap y14_1), (0 : Int)) rfl_le (fun x hx => by cases hx) h42 ⟨rfl, [], [], rfl, rfl, ⟨⟨_, rfl, (.refl _)⟩, rfl, ⟨⟨_, rfl, (.refl _)⟩, rfl, ⟨⟨_, rfl, (.refl _)⟩, rfl, ⟨⟨_, rfl, (.refl _)⟩, rfl, ⟨⟨_, rfl, (.refl _)⟩, rfl, ⟨⟨_, rfl, (.refl _)⟩, rfl, trivial⟩⟩⟩⟩⟩⟩, ⟨⟨_, rfl, (.refl _)⟩, rfl, rfl, ⟨⟨_, rfl, (.refl _)⟩, rfl, rfl, trivial⟩⟩⟩ ?_
      clear h42
      intro k
      rintro ⟨y42_1, y42_2⟩ h42
      dsimp only at h42 ⊢
      rw [f265_l42] at h42
      refine AWc.seq ?_
      refine AWc.rg hmix rfl rfl ?_
      refine RegV.p0 (v := (.d (.bool (decide (y42_2 < (8 : Int)))))) rfl rfl rfl ?_
      refine RegV.nil0 ?_
      refine AWc.seq ?_
      refine AWc.cond rfl (fun c49 => ?_) (fun c49 => ?_)
      · have h42 := cond_pos c49 h42
        refine AWc.skip ?_
        refine AWc.seq ?_
        refine AWc.block ?_
        refine AWc.seq ?_
        refine AWc.rg hmix rfl rfl ?_
        refine RegV.p0 rfl rfl rfl ?_
        refine RegV.p0 (v := (.d (.int .u32 (bitsA .and .u32 y42_1 (1 : Int))))) rfl rfl rfl ?_
        refine RegV.p0 (v := (.d (.bool (decide ((bitsA .and .u32 y42_1 (1 : Int)) ≠ (0 : Int)))))) rfl rfl rfl ?_
        refine RegV.nil0 ?_
        refine AWc.cond rfl (fun c60 => ?_) (fun c60 => ?_)
        · have h42 := cond_pos c60 h42
          refine AWc.rg hmix rfl rfl ?_
          refine RegV.p0 rfl rfl rfl ?_
          refine RegV.p1 (v := (.d (.int .u32 (Int.fdiv y42_1 (2 ^ (min ((1 : Int)).toNat IntKind.u32.bits)))))) rfl rfl (by decide) rfl rfl ?_
          refine RegV.p0 (v := (.d (.int .u32 (bitsA .xor .u32 (Int.fdiv y42_1 (2 ^ (min ((1 : Int)).toNat IntKind.u32.bits))) (2197175160 : Int))))) rfl rfl rfl ?_
          refine RegV.p0 rfl rfl rfl ?_
          refine RegV.nil0 ?_
          refine AWc.rg hmix rfl rfl ?_
          refine RegV.p0 (v := (.d (.int .i64 (IntKind.i64.wrap (y42_2 + (1 : Int)))))) rfl rfl rfl ?_
          refine RegV.p0 rfl rfl rfl ?_
          refine RegV.nil0 ?_
          exact ⟨((bitsA .xor .u32 (Int.fdiv y42_1 (2 ^ (min ((1 : Int)).toNat IntKind.u32.bits))) (2197175160 : Int)), (IntKind.i64.wrap (y42_2 + (1 : Int)))), h42, ⟨rfl, [], [], rfl, rfl, ⟨⟨_, rfl, (.refl _)⟩, rfl, ⟨⟨_, rfl, (.refl _)⟩, rfl, ⟨⟨_, rfl, (.refl _)⟩, rfl, ⟨⟨_, rfl, (.refl _)⟩, rfl, ⟨⟨_, rfl, (.refl _)⟩, rfl, ⟨⟨_, rfl, (.refl _)⟩, rfl, trivial⟩⟩⟩⟩⟩⟩, ⟨⟨_, rfl, (.refl _)⟩, rfl, rfl, ⟨⟨_, rfl, (.refl _)⟩, rfl, rfl, trivial⟩⟩⟩⟩
        · have h42 := cond_neg c60 h42
          refine AWc.rg hmix rfl rfl ?_
          refine RegV.p0 rfl rfl rfl ?_
          refine RegV.p1 (v := (.d (.int .u32 (Int.fdiv y42_1 (2 ^ (min ((1 : Int)).toNat IntKind.u32.bits)))))) rfl rfl (by decide) rfl rfl ?_
          refine RegV.p0 rfl rfl rfl ?_
          refine RegV.nil0 ?_
          refine AWc.rg hmix rfl rfl ?_
          refine RegV.p0 (v := (.d (.int .i64 (IntKind.i64.wrap (y42_2 + (1 : Int)))))) rfl rfl rfl ?_
          refine RegV.p0 rfl rfl rfl ?_
          refine RegV.nil0 ?_
          exact ⟨((Int.fdiv y42_1 (2 ^ (min ((1 : Int)).toNat IntKind.u32.bits))), (IntKind.i64.wrap (y42_2 + (1 : Int)))), h42, ⟨rfl, [], [], rfl, rfl, ⟨⟨_, rfl, (.refl _)⟩, rfl, ⟨⟨_, rfl, (.refl _)⟩, rfl, ⟨⟨_, rfl, (.refl _)⟩, rfl, ⟨⟨_, rfl, (.refl _)⟩, rfl, ⟨⟨_, rfl, (.refl _)⟩, rfl, ⟨⟨_, rfl, (.refl _)⟩, rfl, trivial⟩⟩⟩⟩⟩⟩, ⟨⟨_, rfl, (.refl _)⟩, rfl, rfl, ⟨⟨_, rfl, (.refl _)⟩, rfl, rfl, trivial⟩⟩⟩⟩
      · have h42 := cond_neg c49 h42
        cases h42
        dsimp only at h14
        refine AWc.exit ?_
        refine inBlk_eq ?_
        exact ⟨y42_1, h14, ⟨rfl, [], [], rfl, rfl, ⟨⟨_, rfl, (.refl _)⟩, rfl, ⟨⟨_, rfl, (.refl _)⟩, rfl, ⟨⟨_, rfl, (.refl _)⟩, rfl, ⟨⟨_, rfl, (.refl _)⟩, rfl, ⟨⟨_, rfl, (.refl _)⟩, rfl, trivial⟩⟩⟩⟩⟩, ⟨⟨_, rfl, (.refl _)⟩, rfl, rfl, ⟨⟨_, rfl, (.refl _)⟩, rfl, rfl, trivial⟩⟩⟩⟩
    · intro j76_1 h14
      unfold f265_j76 at h14
      refine AWc.rg hmix rfl rfl ?_
      refine RegV.p0 rfl rfl rfl ?_
      refine RegV.p0 rfl rfl rfl ?_
      obtain ⟨b80, h14⟩ := gd_some h14
      refine RegV.aad rfl rfl rfl b80 rfl ?_
      obtain ⟨b81, h14⟩ := gd_some h14
      refine RegV.stS (e := (D.int .u32)) (xs := y14_2) (i := (y14_1).toNat) (v := j76_1) (H' := [(1, (cellsO (D.int .u32) (List.set y14_2 (y14_1).toNat j76_1))), (0, (cellsO (D.int .u32) (List.replicate 256 (default : Int))))]) rfl rfl rfl rfl (int_ok _) rfl b81 rfl rfl rfl ?_
      refine RegV.nil0 ?_
      refine AWc.rg hmix rfl rfl ?_
      refine RegV.p0 (v := (.d (.int .i64 (IntKind.i64.wrap (y14_1 + (1 : Int)))))) rfl rfl rfl ?_
      refine RegV.p0 rfl rfl rfl ?_
      refine RegV.nil0 ?_
      exact ⟨((IntKind.i64.wrap (y14_1 + (1 : Int))), (List.set y14_2 (y14_1).toNat j76_1)), h14, ⟨rfl, [], [], rfl, rfl, ⟨⟨_, rfl, (.refl _)⟩, rfl, ⟨⟨_, rfl, (.refl _)⟩, rfl, ⟨⟨_, rfl, (.refl _)⟩, rfl, trivial⟩⟩⟩, ⟨⟨_, rfl, (.refl _)⟩, rfl, rfl, ⟨⟨_, rfl, (.refl _)⟩, rfl, rfl, trivial⟩⟩⟩⟩
  · have h14 := cond_neg c21 h14
    cases h14
    dsimp only at h
    refine AWc.exit ?_
    refine inBlk_eq ?_
    refine AWc.seq ?_
    refine AWc.rg hmix rfl rfl ?_
    obtain ⟨b89, h⟩ := gd_some h
    refine RegV.ldA (e := (D.int .u32)) (xs := y14_2) (H' := [(1, (cellsO (D.int .u32) y14_2)), (0, (cellsO (D.int .u32) (List.replicate 256 (default : Int))))]) rfl rfl (int_ok _) rfl b89 rfl rfl rfl rfl ?_
    obtain ⟨b90, h⟩ := gd_some h
    refine RegV.stA (e := (D.int .u32)) (xs := (List.replicate 256 (default : Int))) (ys := y14_2) (H' := [(0, (cellsO (D.int .u32) y14_2)), (1, (cellsO (D.int .u32) y14_2))]) rfl rfl rfl (int_ok _) rfl b90 rfl rfl rfl ?_
    refine RegV.nil0 ?_
    obtain ⟨bR, h⟩ := gd_some h
    have hr := Option.some.inj h
    subst hr
    exact AWc.ret (canQ (N := 25) (k := 1) (l' := [(0, (.ptr 0 0))]) (H' := [(0, (cellsC (D.int .u32) y14_2))]) rfl ⟨rfl, [], [], rfl, rfl, ⟨⟨_, rfl, (.refl _)⟩, rfl, trivial⟩, ⟨⟨_, rfl, .rowC⟩, rfl, ltbC, trivial⟩⟩ (doneArr (.inr rfl) rfl (int_ok _) rfl bR hasNil))
/-- slices.Values[[]byte,byte] -/
def C266 (N : Nat → Nat) : AFunc := { n := 4, params := 1, res := [.tmp 2], body :=
 (.seq (.region false [⟨(some 1), .box (.t 0), none, []⟩,
   ⟨(some 2), .mv (.k (.d .nilf)), none, []⟩])
  (.seq (.region false [⟨(some 3), .mkfn (N 267) [(.t 1)], none, []⟩,
    ⟨(some 2), .mv (.t 3), none, [0]⟩])
   .ret)) }
def HC266 (P : Program) (N : Nat → Nat) : Prop := HasF P (N 266) (C266 N)
def f266 (k : Nat) (a0 : (List UInt8)) : Option Unit := some ()
theorem F266 {P : Program} {N : Nat → Nat} (hmix : P.follows .mixedOrders = true) (hc : HC266 P N) {k : Nat} {a0 : (List UInt8)} {r : Unit} (h : f266 k a0 = some r) :
    ACalls P (N 266) [(.d (.sl (List.map byteD a0)))] [] (.fn (N 267) [(.ptr 0 0)]) [(0, (.cells [(.d (.sl (List.map byteD a0)))]))] := by
  refine acalls_canon (F := C266 N) hc 0 1 rfl ?_
  unfold f266 at h
  dsimp only [C266, startL]
  refine AWc.seq ?_
  refine AWc.rg hmix rfl rfl ?_
  refine RegV.evS (own := false) (v := (.ptr 0 0)) (H' := [(0, (.cells [(.d (.sl (List.map byteD a0)))]))]) (c' := 1) rfl rfl trivial rfl rfl rfl rfl rfl rfl ?_
  refine RegV.p0 rfl rfl rfl ?_
  refine RegV.nil0 ?_
  refine AWc.seq ?_
  refine AWc.rg hmix rfl rfl ?_
  refine RegV.p0 (v := (.fn (N 267) [(.ptr 0 0)])) rfl rfl rfl ?_
  refine RegV.p0 rfl rfl rfl ?_
  refine RegV.nil0 ?_
  have hr := Option.some.inj h
  subst hr
  exact AWc.ret (canQ (N := 4) (k := 1) (l' := [(2, (.fn (N 267) [(.ptr 0 0)]))]) (H' := [(0, (.cells [(.d (.sl (List.map byteD a0)))]))]) rfl ⟨rfl, [], [], rfl, rfl, ⟨⟨_, rfl, (.refl _)⟩, rfl, trivial⟩, ⟨⟨_, rfl, (.refl _)⟩, rfl, rfl, trivial⟩⟩ (doneA (.inr rfl) rfl ⟨trivial, trivial⟩ (.refl _) (hasCons rfl hasNil)))
def L264_0a (N : Nat → Nat) : ACode :=
 (.region false [⟨(some 7), .mv (.t 13), none, []⟩])
def L264_0b (N : Nat → Nat) : ACode :=
 (.block 1 (.region true [⟨(some 14), .load (.t 6) 1 false, none, []⟩,
   ⟨(some 15), .bin .shr (.t 14) (.k (.d (.int .u64 8))), none, [0]⟩,
   ⟨(some 16), .load (.t 6) 1 false, none, []⟩,
   ⟨(some 17), .cvi .u8 (.t 16), none, [2]⟩,
   ⟨(some 18), .mv (.t 7), none, []⟩,
   ⟨(some 19), .bin .xor (.t 17) (.t 18), none, [3, 4]⟩,
   ⟨(some 20), .aaddr (.t 5) (.t 19) 256 1, none, [5]⟩,
   ⟨(some 21), .load (.t 20) 1 false, none, [6]⟩,
   ⟨(some 22), .bin .xor (.t 15) (.t 21), none, [1, 7]⟩,
   ⟨none, .store (.t 6) (.t 22) 1, none, [8, 0, 1, 2, 3, 4, 5, 6, 7]⟩]))
/-- courant/crc.Add -/
def C264 (N : Nat → Nat) : AFunc := { n := 25, params := 2, res := [.tmp 4], body :=
 (.seq (.region false [⟨(some 4), .mv (.k (.d (.int .u32 0))), none, []⟩])
  (.seq (.region false [⟨(some 8), .call (.k (.d (.fn (N 265)))) [], none, []⟩,
    ⟨(some 5), .alloc (List.replicate 256 (.int .u32 0)), none, []⟩,
    ⟨none, .store (.t 5) (.t 8) 256, none, [1, 0]⟩])
   (.seq (.region false [⟨(some 9), .mv (.t 0), none, []⟩,
     ⟨(some 10), .bin .xor (.t 9) (.k (.d (.int .u32 4294967295))), none, [0]⟩,
     ⟨(some 6), .alloc [(.int .u32 0)], none, []⟩,
     ⟨none, .store (.t 6) (.t 10) 1, none, [2, 1, 0]⟩])
    (.seq (.seq (.region false [⟨(some 11), .mv (.t 1), none, []⟩,
       ⟨(some 12), .call (.k (.d (.fn (N 266)))) [(.t 11)], none, [0]⟩])
      (.block 0 (.rangeFunc (.t 12) [13] (L264_0a N) (L264_0b N))))
     (.seq (.region false [⟨(some 23), .load (.t 6) 1 false, none, []⟩,
       ⟨(some 24), .bin .xor (.t 23) (.k (.d (.int .u32 4294967295))), none, [0]⟩,
       ⟨(some 4), .mv (.t 24), none, [1, 0]⟩])
      .ret))))) }
def HCb264_25 (P : Program) (N : Nat → Nat) : Prop := True
def b264_25 (k : Nat) (a0 : (List Int)) (a1 : Int) (a2 : UInt8) : Option Unit := gd (0 ≤ (bitsA .xor .u8 (IntKind.u8.wrap a1) ((a2.toNat : Nat) : Int)) ∧ (bitsA .xor .u8 (IntKind.u8.wrap a1) ((a2.toNat : Nat) : Int)) < 256) (gd (((bitsA .xor .u8 (IntKind.u8.wrap a1) ((a2.toNat : Nat) : Int))).toNat < a0.length) (some ()))
theorem B264_25 {P : Program} {N : Nat → Nat} (hmix : P.follows .mixedOrders = true) (hc : HCb264_25 P N) {asg0 bd0 : Code} (ha0 : compCode P asg0 = L264_0a N) (hb0 : compCode P bd0 = L264_0b N) {k : Nat} {a0 : (List Int)} {a1 : Int} {a2 : UInt8} {r : Unit} (h : b264_25 k a0 a1 a2 = some r) :
    ARound P 0 [(.d (.int .u8 ((a2.toNat : Nat) : Int)))] [(0, (.lp 25 [(5, (.ptr 1 0)), (6, (.ptr 2 0))] [13] asg0 bd0 .ready none)), (1, (cellsO (D.int .u32) a0)), (2, (.cells [(.d (.int .u32 a1))]))] (.d (.bool true)) [(0, (.lp 25 [(5, (.ptr 1 0)), (6, (.ptr 2 0))] [13] asg0 bd0 .ready none)), (1, (cellsO (D.int .u32) a0)), (2, (.cells [(.d (.int .u32 (bitsA .xor .u32 (Int.fdiv a1 (2 ^ (min ((8 : Int)).toNat IntKind.u32.bits))) (List.getD a0 ((bitsA .xor .u8 (IntKind.u8.wrap a1) ((a2.toNat : Nat) : Int))).toNat default))))]))] := by
  refine around_gen 3 3 ha0 hb0 rfl rfl (fun ro => ?_)
  unfold b264_25 at h
  dsimp only [L264_0a, L264_0b, putArgs]
  refine AWc.rg hmix rfl rfl ?_
  refine RegV.p0 rfl rfl rfl ?_
  refine RegV.nil0 ?_
  refine asgDone rfl rfl ?_
  refine AWc.block ?_
  refine AWc.rg hmix rfl rfl ?_
  refine RegV.ld (v := (.d (.int .u32 a1))) (H' := [(2, (.cells [(.d (.int .u32 a1))])), (0, (.lp 25 [(5, (.ptr 1 0)), (6, (.ptr 2 0))] [13] asg0 bd0 .busy none)), (1, (cellsO (D.int .u32) a0))]) rfl rfl trivial rfl rfl rfl rfl rfl ?_
  refine RegV.p1 (v := (.d (.int .u32 (Int.fdiv a1 (2 ^ (min ((8 : Int)).toNat IntKind.u32.bits)))))) rfl rfl (by decide) rfl rfl ?_
  refine RegV.ld (v := (.d (.int .u32 a1))) (H' := [(2, (.cells [(.d (.int .u32 a1))])), (0, (.lp 25 [(5, (.ptr 1 0)), (6, (.ptr 2 0))] [13] asg0 bd0 .busy none)), (1, (cellsO (D.int .u32) a0))]) rfl rfl trivial rfl rfl rfl rfl rfl ?_
  refine RegV.p0 (v := (.d (.int .u8 (IntKind.u8.wrap a1)))) rfl rfl rfl ?_
  refine RegV.p0 rfl rfl rfl ?_
  refine RegV.p0 (v := (.d (.int .u8 (bitsA .xor .u8 (IntKind.u8.wrap a1) ((a2.toNat : Nat) : Int))))) rfl rfl rfl ?_
  obtain ⟨b39, h⟩ := gd_some h
  refine RegV.aad rfl rfl rfl b39 rfl ?_
  obtain ⟨b40, h⟩ := gd_some h
  refine RegV.ldS (e := (D.int .u32)) (xs := a0) (i := ((bitsA .xor .u8 (IntKind.u8.wrap a1) ((a2.toNat : Nat) : Int))).toNat) (H' := [(1, (cellsO (D.int .u32) a0)), (2, (.cells [(.d (.int .u32 a1))])), (0, (.lp 25 [(5, (.ptr 1 0)), (6, (.ptr 2 0))] [13] asg0 bd0 .busy none))]) rfl rfl (int_ok _) rfl b40 rfl rfl rfl rfl ?_
  refine RegV.p0 (v := (.d (.int .u32 (bitsA .xor .u32 (Int.fdiv a1 (2 ^ (min ((8 : Int)).toNat IntKind.u32.bits))) (List.getD a0 ((bitsA .xor .u8 (IntKind.u8.wrap a1) ((a2.toNat : Nat) : Int))).toNat default))))) rfl rfl rfl ?_
  refine RegV.evN (own := false) (H' := [(2, (.cells [(.d (.int .u32 (bitsA .xor .u32 (Int.fdiv a1 (2 ^ (min ((8 : Int)).toNat IntKind.u32.bits))) (List.getD a0 ((bitsA .xor .u8 (IntKind.u8.wrap a1) ((a2.toNat : Nat) : Int))).toNat default))))])), (1, (cellsO (D.int .u32) a0)), (0, (.lp 25 [(5, (.ptr 1 0)), (6, (.ptr 2 0))] [13] asg0 bd0 .busy none))]) (c' := 3) rfl rfl (by exact ⟨rfl, Nat.le_of_ble_eq_true rfl, rfl⟩) rfl rfl rfl rfl ?_
  refine RegV.nil1 (by kernel_rfl) ?_
  have hr := Option.some.inj h
  subst hr
  exact (canQ (N := 25) (k := 3) (l' := []) (H' := [(0, (.lp 25 [(5, (.ptr 1 0)), (6, (.ptr 2 0))] [13] asg0 bd0 .busy none)), (1, (cellsO (D.int .u32) a0)), (2, (.cells [(.d (.int .u32 (bitsA .xor .u32 (Int.fdiv a1 (2 ^ (min ((8 : Int)).toNat IntKind.u32.bits))) (List.getD a0 ((bitsA .xor .u8 (IntKind.u8.wrap a1) ((a2.toNat : Nat) : Int))).toNat default))))]))]) rfl ⟨rfl, [], [], rfl, rfl,  trivial, ⟨⟨_, rfl, (.refl _)⟩, rfl, rfl, ⟨⟨_, rfl, (.refl _)⟩, rfl, rfl, ⟨⟨_, rfl, (.refl _)⟩, rfl, rfl, trivial⟩⟩⟩⟩ (roundD rfl rfl rfl rfl (hasCons rfl (hasCons rfl (hasCons rfl hasNil)))))
/-- slices.Values[[]byte,byte]$1 -/
def C267 (N : Nat → Nat) : AFunc := { n := 16, params := 2, res := [], body :=
 (.seq (.region false [⟨(some 5), .load (.t 1) 1 false, none, []⟩,
   ⟨(some 6), .len (.t 5), none, [0]⟩,
   ⟨(some 7), .mv (.k (.d (.int .i64 0))), none, []⟩])
  (.block 0 (.loop (.seq (.region false [⟨(some 8), .bin .lss (.t 7) (.t 6), none, []⟩])
     (.seq (.cond (.t 8) (.skip)
       (.exit 0))
      (.seq (.block 1 (.seq (.region false [⟨(some 9), .iaddr (.t 5) (.t 7) 1, none, []⟩,
          ⟨(some 10), .load (.t 9) 1 false, none, [0]⟩,
          ⟨(some 4), .mv (.t 10), none, [1, 0]⟩])
         (.seq (.region false [⟨(some 11), .mv (.t 0), none, []⟩,
           ⟨(some 12), .mv (.t 4), none, []⟩,
           ⟨(some 13), .call (.t 11) [(.t 12)], none, [0, 1]⟩,
           ⟨(some 14), .un .not (.t 13), none, [2]⟩])
          (.cond (.t 14) .ret
           (.skip)))))
       (.region false [⟨(some 15), .bin .add (.t 7) (.k (.d (.int .i64 1))), none, []⟩,
        ⟨(some 7), .mv (.t 15), none, [0]⟩]))))))) }
def HC267 (P : Program) (N : Nat → Nat) : Prop := HasF P (N 267) (C267 N) ∧ HCb264_25 P N
def f267_l7 (a2 : (List UInt8)) (a0 : (List Int)) : Nat → Int → Int → Option (LR2 Int Unit Int)
  | 0, _, _ => none
  | k + 1, y7_1, y7_2 => cond (decide (y7_1 < ((a2.length : Nat) : Int))) (gd (0 ≤ y7_1 ∧ y7_1 < ((a2.length : Nat) : Int)) ((b264_25 k a0 y7_2 (rd a2 y7_1)).bind fun r30 => f267_l7 a2 a0 k (IntKind.i64.wrap (y7_1 + (1 : Int))) (bitsA .xor .u32 (Int.fdiv y7_2 (2 ^ (min ((8 : Int)).toNat IntKind.u32.bits))) (List.getD a0 ((bitsA .xor .u8 (IntKind.u8.wrap y7_2) (((rd a2 y7_1).toNat : Nat) : Int))).toNat default)))) (some (.b0 y7_2))
def f267 (k : Nat) (a0 : (List Int)) (a1 : Int) (a2 : (List UInt8)) : Option Int := (f267_l7 a2 a0 k (0 : Int) a1).bind fun o7 => match o7 with | .b0 x7_1 => some x7_1 | _ => none
theorem F267 {P : Program} {N : Nat → Nat} (hmix : P.follows .mixedOrders = true) (hc : HC267 P N) {asg0 bd0 : Code} (ha0 : compCode P asg0 = L264_0a N) (hb0 : compCode P bd0 = L264_0b N) {k : Nat} {a0 : (List Int)} {a1 : Int} {a2 : (List UInt8)} {r : Int} (h : f267 k a0 a1 a2 = some r) :
    ACalls P (N 267) [(.lf 0), (.ptr 3 0)] [(0, (.lp 25 [(5, (.ptr 1 0)), (6, (.ptr 2 0))] [13] asg0 bd0 .ready none)), (1, (cellsO (D.int .u32) a0)), (2, (.cells [(.d (.int .u32 a1))])), (3, (.cells [(.d (.sl (List.map byteD a2)))]))] (.tup []) [(0, (.lp 25 [(5, (.ptr 1 0)), (6, (.ptr 2 0))] [13] asg0 bd0 .ready none)), (1, (cellsO (D.int .u32) a0)), (2, (.cells [(.d (.int .u32 r))])), (3, (.cells [(.d (.sl (List.map byteD a2)))]))] := by
  refine acalls_canon (F := C267 N) hc.1 4 4 rfl ?_
  unfold f267 at h
  dsimp only [C267, startL]
  refine AWc.seq ?_
  refine AWc.rg hmix rfl rfl ?_
  refine RegV.ld (v := (.d (.sl (List.map byteD a2)))) (H' := [(3, (.cells [(.d (.sl (List.map byteD a2)))])), (0, (.lp 25 [(5, (.ptr 1 0)), (6, (.ptr 2 0))] [13] asg0 bd0 .ready none)), (1, (cellsO (D.int .u32) a0)), (2, (.cells [(.d (.int .u32 a1))]))]) rfl rfl trivial rfl rfl rfl rfl rfl ?_
  refine RegV.len (xs := a2) (e := byteD) rfl rfl rfl rfl ?_
  refine RegV.p0 rfl rfl rfl ?_
  refine RegV.nil0 ?_
  obtain ⟨o7, h7, h⟩ := bind_some h
  refine AWc.block ?_
  refine AWc.loopK (N := 16) 4 (fun (x : (Int × Int)) => [(0, (.lf 0)), (5, (.d (.sl (List.map byteD a2)))), (6, (.d (.int .i64 ((a2.length : Nat) : Int)))), (7, (.d (.int .i64 x.1)))]) (fun x => [(0, (.lp 25 [(5, (.ptr 1 0)), (6, (.ptr 2 0))] [13] asg0 bd0 .ready none)), (1, (cellsO (D.int .u32) a0)), (2, (.cells [(.d (.int .u32 x.2))])), (3, (.cells [(.d (.sl (List.map byteD a2)))]))]) (fun k x => f267_l7 a2 a0 k x.1 x.2 = some o7) k ((0 : Int), a1) rfl_le (fun x hx => by cases hx) h7 ⟨rfl, [], [], rfl, rfl, ⟨⟨_, rfl, (.refl _)⟩, rfl, ⟨⟨_, rfl, (.refl _)⟩, rfl, ⟨⟨_, rfl, (.refl _)⟩, rfl, ⟨⟨_, rfl, (.refl _)⟩, rfl, trivial⟩⟩⟩⟩, ⟨⟨_, rfl, (.refl _)⟩, rfl, rfl, ⟨⟨_, rfl, (.refl _)⟩, rfl, rfl, ⟨⟨_, rfl, (.refl _)⟩, rfl, rfl, ⟨⟨_, rfl, (.refl _)⟩, rfl, rfl, trivial⟩⟩⟩⟩⟩ ?_
  clear h7
  intro k
  rintro ⟨y7_1, y7_2⟩ h7
  dsimp only at h7 ⊢
  rw [f267_l7] at h7
  refine AWc.seq ?_
  refine AWc.rg hmix rfl rfl ?_
  refine RegV.p0 (v := (.d (.bool (decide (y7_1 < ((a2.length : Nat) : Int)))))) rfl rfl rfl ?_
  refine RegV.nil0 ?_
  refine AWc.seq ?_
  refine AWc.cond rfl (fun c14 => ?_) (fun c14 => ?_)
  · have h7 := cond_pos c14 h7
    refine AWc.skip ?_
    refine AWc.seq ?_
    refine AWc.block ?_
    refine AWc.seq ?_
    refine AWc.rg hmix rfl rfl ?_
    obtain ⟨b22, h7⟩ := gd_some h7
    refine RegV.iad (xs := a2) (e := byteD) rfl rfl rfl rfl (fun _ => rfl) b22 rfl ?_
    refine RegV.p0 (v := (.d (.int .u8 (((rd a2 y7_1).toNat : Nat) : Int)))) rfl rfl rfl ?_
    refine RegV.p0 rfl rfl rfl ?_
    refine RegV.nil0 ?_
    refine AWc.seq ?_
    refine AWc.rg hmix rfl rfl ?_
    refine RegV.p0 rfl rfl rfl ?_
    refine RegV.p0 rfl rfl rfl ?_
    obtain ⟨r30, e30, h7⟩ := bind_some h7
    refine RegV.yield (H' := [(0, (.lp 25 [(5, (.ptr 1 0)), (6, (.ptr 2 0))] [13] asg0 bd0 .ready none)), (1, (cellsO (D.int .u32) a0)), (2, (.cells [(.d (.int .u32 (bitsA .xor .u32 (Int.fdiv y7_2 (2 ^ (min ((8 : Int)).toNat IntKind.u32.bits))) (List.getD a0 ((bitsA .xor .u8 (IntKind.u8.wrap y7_2) (((rd a2 y7_1).toNat : Nat) : Int))).toNat default))))])), (3, (.cells [(.d (.sl (List.map byteD a2)))]))]) (c' := 4) (show ARound P 0 [(.d (.int .u8 (((rd a2 y7_1).toNat : Nat) : Int)))] [(0, (.lp 25 [(5, (.ptr 1 0)), (6, (.ptr 2 0))] [13] asg0 bd0 .ready none)), (1, (cellsO (D.int .u32) a0)), (2, (.cells [(.d (.int .u32 y7_2))]))] (.d (.bool true)) [(0, (.lp 25 [(5, (.ptr 1 0)), (6, (.ptr 2 0))] [13] asg0 bd0 .ready none)), (1, (cellsO (D.int .u32) a0)), (2, (.cells [(.d (.int .u32 (bitsA .xor .u32 (Int.fdiv y7_2 (2 ^ (min ((8 : Int)).toNat IntKind.u32.bits))) (List.getD a0 ((bitsA .xor .u8 (IntKind.u8.wrap y7_2) (((rd a2 y7_1).toNat : Nat) : Int))).toNat default))))]))] from ARound.use (B264_25 hmix hc.2 ha0 hb0 e30) [(0, 0), (1, 1), (2, 2)] 3 rfl) rfl rfl rfl (.cons (.refl _) .nil) rfl (hasCons rfl (hasCons rfl (hasCons rfl hasNil))) rfl rfl rfl rfl ?_
    refine RegV.p0 (v := (.d (.bool false))) rfl rfl rfl ?_
    refine RegV.nil0 ?_
    refine AWc.cond rfl (fun hc => by cases hc) (fun _ => ?_)
    refine AWc.skip ?_
    refine AWc.rg hmix rfl rfl ?_
    refine RegV.p0 (v := (.d (.int .i64 (IntKind.i64.wrap (y7_1 + (1 : Int)))))) rfl rfl rfl ?_
    refine RegV.p0 rfl rfl rfl ?_
    refine RegV.nil0 ?_
    exact ⟨((IntKind.i64.wrap (y7_1 + (1 : Int))), (bitsA .xor .u32 (Int.fdiv y7_2 (2 ^ (min ((8 : Int)).toNat IntKind.u32.bits))) (List.getD a0 ((bitsA .xor .u8 (IntKind.u8.wrap y7_2) (((rd a2 y7_1).toNat : Nat) : Int))).toNat default))), h7, ⟨rfl, [], [], rfl, rfl, ⟨⟨_, rfl, (.refl _)⟩, rfl, ⟨⟨_, rfl, (.refl _)⟩, rfl, ⟨⟨_, rfl, (.refl _)⟩, rfl, ⟨⟨_, rfl, (.refl _)⟩, rfl, trivial⟩⟩⟩⟩, ⟨⟨_, rfl, (.refl _)⟩, rfl, rfl, ⟨⟨_, rfl, (.refl _)⟩, rfl, rfl, ⟨⟨_, rfl, (.refl _)⟩, rfl, rfl, ⟨⟨_, rfl, (.refl _)⟩, rfl, rfl, trivial⟩⟩⟩⟩⟩⟩
  · have h7 := cond_neg c14 h7
    cases h7
    dsimp only at h
    refine AWc.exit ?_
    refine inBlk_eq ?_
    have hr := Option.some.inj h
    subst hr
    exact canQ (N := 16) (k := 4) (l' := []) (H' := [(0, (.lp 25 [(5, (.ptr 1 0)), (6, (.ptr 2 0))] [13] asg0 bd0 .ready none)), (1, (cellsO (D.int .u32) a0)), (2, (.cells [(.d (.int .u32 y7_2))])), (3, (.cells [(.d (.sl (List.map byteD a2)))]))]) rfl ⟨rfl, [], [], rfl, rfl,  trivial, ⟨⟨_, rfl, (.refl _)⟩, rfl, rfl, ⟨⟨_, rfl, (.refl _)⟩, rfl, rfl, ⟨⟨_, rfl, (.refl _)⟩, rfl, rfl, ⟨⟨_, rfl, (.refl _)⟩, rfl, rfl, trivial⟩⟩⟩⟩⟩ (doneA (.inl rfl) rfl trivial (.refl _) (hasCons rfl (hasCons rfl (hasCons rfl (hasCons rfl hasNil)))))
def HC264 (P : Program) (N : Nat → Nat) : Prop := HasF P (N 264) (C264 N) ∧ HC265 P N ∧ HC266 P N ∧ HC267 P N
def f264 (k : Nat) (a0 : Int) (a1 : (List UInt8)) : Option Int := (f265 k).bind fun r8 => gd ((List.replicate 256 (default : Int)).length * 1 = 256 ∧ r8.length * 1 = 256) ((f266 k a1).bind fun r23 => (f267 k r8 (bitsA .xor .u32 a0 (4294967295 : Int)) a1).bind fun rf25 => some (bitsA .xor .u32 rf25 (4294967295 : Int)))
theorem F264 {P : Program} {N : Nat → Nat} (hmix : P.follows .mixedOrders = true) (hc : HC264 P N) {k : Nat} {a0 : Int} {a1 : (List UInt8)} {r : Int} (h : f264 k a0 a1 = some r) :
    ACalls P (N 264) [(.d (.int .u32 a0)), (.d (.sl (List.map byteD a1)))] [] (.d (.int .u32 r)) [] := by
  refine acalls_canon (F := C264 N) hc.1 0 0 rfl ?_
  unfold f264 at h
  dsimp only [C264, startL]
  refine AWc.seq ?_
  refine AWc.rg hmix rfl rfl ?_
  refine RegV.p0 rfl rfl rfl ?_
  refine RegV.nil0 ?_
  refine AWc.seq ?_
  refine AWc.rg hmix rfl rfl ?_
  obtain ⟨r8, e8, h⟩ := bind_some h
  refine RegV.call0 (F265 hmix hc.2.1 e8) rfl rfl rfl rfl .nil rfl ?_
  refine RegV.newA (e := (D.int .u32)) (xs := (List.replicate 256 (default : Int))) rfl (by kernel_rfl) rfl rfl ?_
  obtain ⟨b10, h⟩ := gd_some h
  refine RegV.stA (e := (D.int .u32)) (xs := (List.replicate 256 (default : Int))) (ys := r8) (H' := [(0, (cellsO (D.int .u32) r8))]) rfl rfl rfl (int_ok _) rfl b10 rfl rfl rfl ?_
  refine RegV.nil0 ?_
  refine AWc.seq ?_
  refine AWc.rg hmix rfl rfl ?_
  refine RegV.p0 rfl rfl rfl ?_
  refine RegV.p0 (v := (.d (.int .u32 (bitsA .xor .u32 a0 (4294967295 : Int))))) rfl rfl rfl ?_
  refine RegV.evS (own := false) (v := (.ptr 1 0)) (H' := [(1, (.cells [(.d (.int .u32 (0 : Int)))])), (0, (cellsO (D.int .u32) r8))]) (c' := 2) rfl rfl trivial rfl rfl rfl rfl rfl rfl ?_
  refine RegV.evN (own := false) (H' := [(1, (.cells [(.d (.int .u32 (bitsA .xor .u32 a0 (4294967295 : Int))))])), (0, (cellsO (D.int .u32) r8))]) (c' := 2) rfl rfl (by exact ⟨rfl, Nat.le_of_ble_eq_true rfl, rfl⟩) rfl rfl rfl rfl ?_
  refine RegV.nil0 ?_
  refine AWc.seq ?_
  refine AWc.seq ?_
  refine AWc.rg hmix rfl rfl ?_
  refine RegV.p0 rfl rfl rfl ?_
  obtain ⟨r23, e23, h⟩ := bind_some h
  refine RegV.callS (q := false) (H' := [(2, (.cells [(.d (.sl (List.map byteD a1)))])), (1, (.cells [(.d (.int .u32 (bitsA .xor .u32 a0 (4294967295 : Int))))])), (0, (cellsO (D.int .u32) r8))]) (c' := 3) (show ACalls P (N 266) [(.d (.sl (List.map byteD a1)))] [] (.fn (N 267) [(.ptr 2 0)]) [(2, (.cells [(.d (.sl (List.map byteD a1)))]))] from ACalls.use (F266 hmix hc.2.2.1 e23) [(0, 2)] 1 rfl) rfl rfl rfl rfl (.cons (.refl _) .nil) (.refl _) (fun h => by cases h) rfl hasNil rfl rfl rfl rfl ?_
  refine RegV.nil0 ?_
  refine AWc.block ?_
  refine AWc.rangeFunc [(5, (.ptr 0 0)), (6, (.ptr 1 0))] rfl rfl rfl rfl ⟨rfl, rfl, trivial⟩ (fun asgU25 bdU25 haU25 hbU25 => ?_)
  obtain ⟨rf25, ef25, h⟩ := bind_some h
  refine rfN (H' := [(0, (cellsO (D.int .u32) r8)), (1, (.cells [(.d (.int .u32 rf25))])), (2, (.cells [(.d (.sl (List.map byteD a1)))]))]) (c' := 4) (show ACalls P (N 267) [(.lf 3), (.ptr 2 0)] [(3, (.lp 25 [(5, (.ptr 0 0)), (6, (.ptr 1 0))] [13] asgU25 bdU25 .ready none)), (0, (cellsO (D.int .u32) r8)), (1, (.cells [(.d (.int .u32 (bitsA .xor .u32 a0 (4294967295 : Int))))])), (2, (.cells [(.d (.sl (List.map byteD a1)))]))] (.tup []) [(3, (.lp 25 [(5, (.ptr 0 0)), (6, (.ptr 1 0))] [13] asgU25 bdU25 .ready none)), (0, (cellsO (D.int .u32) r8)), (1, (.cells [(.d (.int .u32 rf25))])), (2, (.cells [(.d (.sl (List.map byteD a1)))]))] from ACalls.use (F267 hmix hc.2.2.2 haU25 hbU25 ef25) [(0, 3), (1, 0), (2, 1), (3, 2)] 4 rfl) (.cons (.refl _) (.cons (.refl _) .nil)) (hasCons rfl (hasCons rfl (hasCons rfl (hasCons rfl hasNil)))) rfl rfl rfl rfl rfl ?_
  refine AWc.seq ?_
  refine AWc.rg hmix rfl rfl ?_
  refine RegV.ld (v := (.d (.int .u32 rf25))) (H' := [(1, (.cells [(.d (.int .u32 rf25))])), (0, (cellsO (D.int .u32) r8)), (2, (.cells [(.d (.sl (List.map byteD a1)))]))]) rfl rfl trivial rfl rfl rfl rfl rfl ?_
  refine RegV.p0 (v := (.d (.int .u32 (bitsA .xor .u32 rf25 (4294967295 : Int))))) rfl rfl rfl ?_
  refine RegV.p0 rfl rfl rfl ?_
  refine RegV.nil0 ?_
  have hr := Option.some.inj h
  subst hr
  exact AWc.ret (canQ (N := 25) (k := 0) (l' := [(4, (.d (.int .u32 (bitsA .xor .u32 rf25 (4294967295 : Int)))))]) (H' := []) rfl ⟨rfl, [], [], rfl, rfl, ⟨⟨_, rfl, (.refl _)⟩, rfl, trivial⟩,  trivial⟩ (doneA (.inr rfl) rfl ⟨trivial, trivial⟩ (.refl _) hasNil))
/-- courant/crc.Sum -/
def C263 (N : Nat → Nat) : AFunc := { n := 5, params := 1, res := [.tmp 2], body :=
 (.seq (.region false [⟨(some 2), .mv (.k (.d (.int .u32 0))), none, []⟩])
  (.seq (.region false [⟨(some 3), .mv (.t 0), none, []⟩,
    ⟨(some 4), .call (.k (.d (.fn (N 264)))) [(.k (.d (.int .u32 0))), (.t 3)], none, [0]⟩,
    ⟨(some 2), .mv (.t 4), none, [1, 0]⟩])
   .ret)) }
def HC263 (P : Program) (N : Nat → Nat) : Prop := HasF P (N 263) (C263 N) ∧ HC264 P N
def f263 (k : Nat) (a0 : (List UInt8)) : Option Int := (f264 k (0 : Int) a0).bind fun r9 => some r9
theorem F263 {P : Program} {N : Nat → Nat} (hmix : P.follows .mixedOrders = true) (hc : HC263 P N) {k : Nat} {a0 : (List UInt8)} {r : Int} (h : f263 k a0 = some r) :
    ACalls P (N 263) [(.d (.sl (List.map byteD a0)))] [] (.d (.int .u32 r)) [] := by
  refine acalls_canon (F := C263 N) hc.1 0 0 rfl ?_
  unfold f263 at h
  dsimp only [C263, startL]
  refine AWc.seq ?_
  refine AWc.rg hmix rfl rfl ?_
  refine RegV.p0 rfl rfl rfl ?_
  refine RegV.nil0 ?_
  refine AWc.seq ?_
  refine AWc.rg hmix rfl rfl ?_
  refine RegV.p0 rfl rfl rfl ?_
  obtain ⟨r9, e9, h⟩ := bind_some h
  refine RegV.call0 (F264 hmix hc.2 e9) rfl rfl rfl rfl (.cons (.refl _) (.cons (.refl _) .nil)) rfl ?_
  refine RegV.p0 rfl rfl rfl ?_
  refine RegV.nil0 ?_
  have hr := Option.some.inj h
  subst hr
  exact AWc.ret (canQ (N := 5) (k := 0) (l' := [(2, (.d (.int .u32 r9)))]) (H' := []) rfl ⟨rfl, [], [], rfl, rfl, ⟨⟨_, rfl, (.refl _)⟩, rfl, trivial⟩,  trivial⟩ (doneA (.inr rfl) rfl ⟨trivial, trivial⟩ (.refl _) hasNil))
/-- courant/courantlaw17.awake -/
def C217 (N : Nat → Nat) : AFunc := { n := 5, params := 0, res := [.tmp 0], body :=
 (.seq (.region false [⟨(some 0), .mv (.k (.d (.bool false))), none, []⟩])
  (.seq (.region false [⟨(some 1), .bslice 9 1 [(.int .u8 0)] [(0, (.k (.d (.int .u8 49)))), (1, (.k (.d (.int .u8 50)))), (2, (.k (.d (.int .u8 51)))), (3, (.k (.d (.int .u8 52)))), (4, (.k (.d (.int .u8 53)))), (5, (.k (.d (.int .u8 54)))), (6, (.k (.d (.int .u8 55)))), (7, (.k (.d (.int .u8 56)))), (8, (.k (.d (.int .u8 57))))], none, []⟩,
    ⟨(some 2), .bs2bs (.t 1), none, [0]⟩,
    ⟨(some 3), .call (.k (.d (.fn (N 263)))) [(.t 2)], none, [1]⟩,
    ⟨(some 4), .bin .eql (.t 3) (.k (.d (.int .u32 3808858755))), none, [2]⟩,
    ⟨(some 0), .mv (.t 4), none, [3, 2, 0, 1]⟩])
   .ret)) }
def HC217 (P : Program) (N : Nat → Nat) : Prop := HasF P (N 217) (C217 N) ∧ HC263 P N
def f217 (k : Nat) : Option Bool := (f263 k ([(49 : UInt8), (50 : UInt8), (51 : UInt8), (52 : UInt8), (53 : UInt8), (54 : UInt8), (55 : UInt8), (56 : UInt8), (57 : UInt8)] : List UInt8)).bind fun r10 => some (decide (r10 = (3808858755 : Int)))
theorem F217 {P : Program} {N : Nat → Nat} (hmix : P.follows .mixedOrders = true) (hc : HC217 P N) {k : Nat} {r : Bool} (h : f217 k = some r) :
    ACalls P (N 217) [] [] (.d (.bool r)) [] := by
  refine acalls_canon (F := C217 N) hc.1 0 0 rfl ?_
  unfold f217 at h
  dsimp only [C217, startL]
  refine AWc.seq ?_
  refine AWc.rg hmix rfl rfl ?_
  refine RegV.p0 rfl rfl rfl ?_
  refine RegV.nil0 ?_
  refine AWc.seq ?_
  refine AWc.rg hmix rfl rfl ?_
  refine RegV.evS (own := true) (v := (.sl 0 0 (9) (9) 1)) (H' := [(0, (.cells [(.d (.int .u8 (49 : Int))), (.d (.int .u8 (50 : Int))), (.d (.int .u8 (51 : Int))), (.d (.int .u8 (52 : Int))), (.d (.int .u8 (53 : Int))), (.d (.int .u8 (54 : Int))), (.d (.int .u8 (55 : Int))), (.d (.int .u8 (56 : Int))), (.d (.int .u8 (57 : Int)))]))]) (c' := 1) rfl rfl (by exact ⟨rfl, Nat.le_of_ble_eq_true rfl, by simp [cellsAV, D.cells]⟩) rfl rfl rfl rfl rfl rfl ?_
  refine RegV.evS (own := false) (v := .d (.sl [.int .u8 (49 : Int), .int .u8 (50 : Int), .int .u8 (51 : Int), .int .u8 (52 : Int), .int .u8 (53 : Int), .int .u8 (54 : Int), .int .u8 (55 : Int), .int .u8 (56 : Int), .int .u8 (57 : Int)])) (v' := (.d (.sl (List.map byteD ([(49 : UInt8), (50 : UInt8), (51 : UInt8), (52 : UInt8), (53 : UInt8), (54 : UInt8), (55 : UInt8), (56 : UInt8), (57 : UInt8)] : List UInt8))))) (H' := []) (c' := 1) rfl rfl (by exact ⟨rfl, Nat.le_refl _⟩) rfl rfl rfl rfl rfl rfl ?_
  obtain ⟨r10, e10, h⟩ := bind_some h
  refine RegV.call0 (F263 hmix hc.2 e10) rfl rfl rfl rfl (.cons (.refl _) .nil) rfl ?_
  refine RegV.p0 (v := (.d (.bool (decide (r10 = (3808858755 : Int)))))) rfl rfl rfl ?_
  refine RegV.p0 rfl rfl rfl ?_
  refine RegV.nil0 ?_
  have hr := Option.some.inj h
  subst hr
  exact AWc.ret (canQ (N := 5) (k := 0) (l' := [(0, (.d (.bool (decide (r10 = (3808858755 : Int))))))]) (H' := []) rfl ⟨rfl, [], [], rfl, rfl, ⟨⟨_, rfl, (.refl _)⟩, rfl, trivial⟩,  trivial⟩ (doneA (.inr rfl) rfl ⟨trivial, trivial⟩ (.refl _) hasNil))
/-- courant/courantref17.Add -/
def C269 (N : Nat → Nat) : AFunc := { n := 40, params := 2, res := [.tmp 4], body :=
 (.seq (.region false [⟨(some 4), .mv (.k (.d (.int .u32 0))), none, []⟩])
  (.seq (.region false [⟨(some 9), .mv (.t 0), none, []⟩,
    ⟨(some 10), .un .xor (.t 9), none, [0]⟩,
    ⟨(some 5), .mv (.t 10), none, [1, 0]⟩])
   (.seq (.seq (.region false [⟨(some 6), .mv (.k (.d (.int .i64 0))), none, []⟩])
     (.block 0 (.loop (.seq (.seq (.region false [⟨(some 11), .mv (.t 6), none, []⟩,
          ⟨(some 12), .mv (.t 1), none, []⟩,
          ⟨(some 13), .len (.t 12), none, [1]⟩,
          ⟨(some 14), .bin .lss (.t 11) (.t 13), none, [0, 2]⟩])
         (.cond (.t 14) (.skip)
          (.exit 0)))
        (.seq (.block 1 (.seq (.region false [⟨(some 7), .mv (.k (.d (.int .i64 0))), none, []⟩])
           (.block 2 (.loop (.seq (.seq (.region false [⟨(some 17), .mv (.t 7), none, []⟩,
                ⟨(some 18), .bin .lss (.t 17) (.k (.d (.int .i64 8))), none, [0]⟩])
               (.cond (.t 18) (.skip)
                (.exit 2)))
              (.seq (.block 3 (.seq (.region false [⟨(some 21), .mv (.t 5), none, []⟩,
                  ⟨(some 22), .mv (.t 1), none, []⟩,
                  ⟨(some 23), .mv (.t 6), none, []⟩,
                  ⟨(some 24), .iaddr (.t 22) (.t 23) 1, none, [1, 2]⟩,
                  ⟨(some 25), .load (.t 24) 1 false, none, [3]⟩,
                  ⟨(some 26), .mv (.t 7), none, []⟩,
                  ⟨(some 27), .cvi .u64 (.t 26), none, [5]⟩,
                  ⟨(some 28), .bin .shr (.t 25) (.t 27), none, [4, 6]⟩,
                  ⟨(some 29), .cvi .u32 (.t 28), none, [7]⟩,
                  ⟨(some 30), .bin .xor (.t 21) (.t 29), none, [0, 8]⟩,
                  ⟨(some 31), .bin .and (.t 30) (.k (.d (.int .u32 1))), none, [9]⟩,
                  ⟨(some 32), .bin .eql (.t 31) (.k (.d (.int .u32 1))), none, [10]⟩,
                  ⟨(some 8), .mv (.t 32), none, [11, 0, 1, 2, 3, 4, 5, 6, 7, 8, 9, 10]⟩])
                 (.seq (.region false [⟨(some 33), .mv (.t 5), none, []⟩,
                   ⟨(some 34), .bin .shr (.t 33) (.k (.d (.int .u64 1))), none, [0]⟩,
                   ⟨(some 5), .mv (.t 34), none, [1, 0]⟩])
                  (.seq (.region false [⟨(some 35), .mv (.t 8), none, []⟩])
                   (.cond (.t 35) (.region false [⟨(some 36), .mv (.t 5), none, []⟩,
                     ⟨(some 37), .bin .xor (.t 36) (.k (.d (.int .u32 2197175160))), none, [0]⟩,
                     ⟨(some 5), .mv (.t 37), none, [1, 0]⟩])
                    (.skip))))))
               (.region false [⟨(some 19), .mv (.t 7), none, []⟩,
                ⟨(some 20), .bin .add (.t 19) (.k (.d (.int .i64 1))), none, [0]⟩,
                ⟨(some 7), .mv (.t 20), none, [1, 0]⟩])))))))
         (.region false [⟨(some 15), .mv (.t 6), none, []⟩,
          ⟨(some 16), .bin .add (.t 15) (.k (.d (.int .i64 1))), none, [0]⟩,
          ⟨(some 6), .mv (.t 16), none, [1, 0]⟩]))))))
    (.seq (.region false [⟨(some 38), .mv (.t 5), none, []⟩,
      ⟨(some 39), .un .xor (.t 38), none, [0]⟩,
      ⟨(some 4), .mv (.t 39), none, [1, 0]⟩])
     .ret)))) }
def HC269 (P : Program) (N : Nat → Nat) : Prop := HasF P (N 269) (C269 N)
def f269_j91 (k : Nat) (j91_1 : Int) : Option Int := some (bitsA .xor .u32 (if IntKind.u32.signed then -1 else IntKind.u32.max) j91_1)
def f269_l35 (y16_2 : Int) (a1 : (List UInt8)) : Nat → Int → Int → Option (LR2 Int Unit Int)
  | 0, _, _ => none
  | k + 1, y35_1, y35_2 => cond (decide (y35_2 < (8 : Int))) (gd (0 ≤ y16_2 ∧ y16_2 < ((a1.length : Nat) : Int)) (gd (0 ≤ (IntKind.u64.wrap y35_2)) (cond (decide ((bitsA .and .u32 (bitsA .xor .u32 y35_1 (IntKind.u32.wrap (Int.fdiv (((rd a1 y16_2).toNat : Nat) : Int) (2 ^ (min ((IntKind.u64.wrap y35_2)).toNat IntKind.u8.bits))))) (1 : Int)) = (1 : Int))) (f269_l35 y16_2 a1 k (bitsA .xor .u32 (Int.fdiv y35_1 (2 ^ (min ((1 : Int)).toNat IntKind.u32.bits))) (2197175160 : Int)) (IntKind.i64.wrap (y35_2 + (1 : Int)))) (f269_l35 y16_2 a1 k (Int.fdiv y35_1 (2 ^ (min ((1 : Int)).toNat IntKind.u32.bits))) (IntKind.i64.wrap (y35_2 + (1 : Int))))))) (some (.b0 y35_1))
def f269_l16 (a1 : (List UInt8)) : Nat → Int → Int → Option (LR2 Int Unit Int)
  | 0, _, _ => none
  | k + 1, y16_1, y16_2 => cond (decide (y16_2 < ((a1.length : Nat) : Int))) ((f269_l35 y16_2 a1 k y16_1 (0 : Int)).bind fun o35 => match o35 with | .b0 x35_1 => f269_l16 a1 k x35_1 (IntKind.i64.wrap (y16_2 + (1 : Int))) | _ => none) (some (.b0 y16_1))
def f269 (k : Nat) (a0 : Int) (a1 : (List UInt8)) : Option Int := (f269_l16 a1 k (bitsA .xor .u32 (if IntKind.u32.signed then -1 else IntKind.u32.max) a0) (0 : Int)).bind fun o16 => match o16 with | .b0 x16_1 => f269_j91 k x16_1 | _ => none
theorem F269 {P : Program} {N : Nat → Nat} (hmix : P.follows .mixedOrders = true) (hc : HC269 P N) {k : Nat} {a0 : Int} {a1 : (List UInt8)} {r : Int} (h : f269 k a0 a1 = some r) :
    ACalls P (N 269) [(.d (.int .u32 a0)), (.d (.sl (List.map byteD a1)))] [] (.d (.int .u32 r)) [] := by
  refine acalls_canon (F := C269 N) hc 0 0 rfl ?_
  unfold f269 at h
  dsimp only [C269, startL]
  refine AWc.seq ?_
  refine AWc.rg hmix rfl rfl ?_
  refine RegV.p0 rfl rfl rfl ?_
  refine RegV.nil0 ?_
  refine AWc.seq ?_
  refine AWc.rg hmix rfl rfl ?_
  refine RegV.p0 rfl rfl rfl ?_
  refine RegV.p0 (v := (.d (.int .u32 (bitsA .xor .u32 (if IntKind.u32.signed then -1 else IntKind.u32.max) a0)))) rfl rfl rfl ?_
  refine RegV.p0 rfl rfl rfl ?_
  refine RegV.nil0 ?_
  refine AWc.seqS (N := 40) 0 (fun (z : Int) => [(5, (.d (.int .u32 z)))]) (fun z => []) (fun z => f269_j91 k z = some r) rfl_le ?_ ?_
  · refine AWc.seq ?_
    refine AWc.rg hmix rfl rfl ?_
    refine RegV.p0 rfl rfl rfl ?_
    refine RegV.nil0 ?_
    obtain ⟨o16, h16, h⟩ := bind_some h
    refine AWc.block ?_
    refine AWc.loopK (N := 40) 0 (fun (x : (Int × Int)) => [(1, (.d (.sl (List.map byteD a1)))), (5, (.d (.int .u32 x.1))), (6, (.d (.int .i64 x.2)))]) (fun x => []) (fun k x => f269_l16 a1 k x.1 x.2 = some o16) k ((bitsA .xor .u32 (if IntKind.u32.signed then -1 else IntKind.u32.max) a0), (0 : Int)) rfl_le (fun x hx => by cases hx) h16 ⟨rfl, [], [], rfl, rfl, ⟨⟨_, rfl, (.refl _)⟩, rfl, ⟨⟨_, rfl, (.refl _)⟩, rfl, ⟨⟨_, rfl, (.refl _)⟩, rfl, trivial⟩⟩⟩,  trivial⟩ ?_
    clear h16
    intro k
    rintro ⟨y16_1, y16_2⟩ h16
    dsimp only at h16 ⊢
    rw [f269_l16] at h16
    refine AWc.seq ?_
    refine AWc.seq ?_
    refine AWc.rg hmix rfl rfl ?_
    refine RegV.p0 rfl rfl rfl ?_
    refine RegV.p0 rfl rfl rfl ?_
    refine RegV.len (xs := a1) (e := byteD) rfl rfl rfl rfl ?_
    refine RegV.p0 (v := (.d (.bool (decide (y16_2 < ((a1.length : Nat) : Int)))))) rfl rfl rfl ?_
    refine RegV.nil0 ?_
    refine AWc.cond rfl (fun c26 => ?_) (fun c26 => ?_)
    · have h16 := cond_pos c26 h16
      refine AWc.skip ?_
      refine AWc.seq ?_
      refine AWc.block ?_
      refine AWc.seq ?_
      refine AWc.rg hmix rfl rfl ?_
      refine RegV.p0 rfl rfl rfl ?_
      refine RegV.nil0 ?_
      obtain ⟨o35, h35, h16⟩ := bind_some h16
      refine AWc.block ?_
      refine AWc.loopK (N := 40) 0 (fun (x : (Int × Int)) => [(1, (.d (.sl (List.map byteD a1)))), (5, (.d (.int .u32 x.1))), (6, (.d (.int .i64 y16_2))), (7, (.d (.int .i64 x.2)))]) (fun x => []) (fun k x => f269_l35 y16_2 a1 k x.1 x.2 = some o35) k (y16_1, (0 : Int)) rfl_le (fun x hx => by cases hx) h35 ⟨rfl, [], [], rfl, rfl, ⟨⟨_, rfl, (.refl _)⟩, rfl, ⟨⟨_, rfl, (.refl _)⟩, rfl, ⟨⟨_, rfl, (.refl _)⟩, rfl, ⟨⟨_, rfl, (.refl _)⟩, rfl, trivial⟩⟩⟩⟩,  trivial⟩ ?_
      clear h35
      intro k
      rintro ⟨y35_1, y35_2⟩ h35
      dsimp only at h35 ⊢
      rw [f269_l35] at h35
      refine AWc.seq ?_
      refine AWc.seq ?_
      refine AWc.rg hmix rfl rfl ?_
      refine RegV.p0 rfl rfl rfl ?_
      refine RegV.p0 (v := (.d (.bool (decide (y35_2 < (8 : Int)))))) rfl rfl rfl ?_
      refine RegV.nil0 ?_
      refine AWc.cond rfl (fun c43 => ?_) (fun c43 => ?_)
      · have h35 := cond_pos c43 h35
        refine AWc.skip ?_
        refine AWc.seq ?_
        refine AWc.block ?_
        refine AWc.seq ?_
        refine AWc.rg hmix rfl rfl ?_
        refine RegV.p0 rfl rfl rfl ?_
        refine RegV.p0 rfl rfl rfl ?_
        refine RegV.p0 rfl rfl rfl ?_
        obtain ⟨b54, h35⟩ := gd_some h35
        refine RegV.iad (xs := a1) (e := byteD) rfl rfl rfl rfl (fun _ => rfl) b54 rfl ?_
        refine RegV.p0 (v := (.d (.int .u8 (((rd a1 y16_2).toNat : Nat) : Int)))) rfl rfl rfl ?_
        refine RegV.p0 rfl rfl rfl ?_
        refine RegV.p0 (v := (.d (.int .u64 (IntKind.u64.wrap y35_2)))) rfl rfl rfl ?_
        obtain ⟨b58, h35⟩ := gd_some h35
        refine RegV.p1 (v := (.d (.int .u8 (Int.fdiv (((rd a1 y16_2).toNat : Nat) : Int) (2 ^ (min ((IntKind.u64.wrap y35_2)).toNat IntKind.u8.bits)))))) rfl rfl b58 rfl rfl ?_
        refine RegV.p0 (v := (.d (.int .u32 (IntKind.u32.wrap (Int.fdiv (((rd a1 y16_2).toNat : Nat) : Int) (2 ^ (min ((IntKind.u64.wrap y35_2)).toNat IntKind.u8.bits))))))) rfl rfl rfl ?_
        refine RegV.p0 (v := (.d (.int .u32 (bitsA .xor .u32 y35_1 (IntKind.u32.wrap (Int.fdiv (((rd a1 y16_2).toNat : Nat) : Int) (2 ^ (min ((IntKind.u64.wrap y35_2)).toNat IntKind.u8.bits)))))))) rfl rfl rfl ?_
        refine RegV.p0 (v := (.d (.int .u32 (bitsA .and .u32 (bitsA .xor .u32 y35_1 (IntKind.u32.wrap (Int.fdiv (((rd a1 y16_2).toNat : Nat) : Int) (2 ^ (min ((IntKind.u64.wrap y35_2)).toNat IntKind.u8.bits))))) (1 : Int))))) rfl rfl rfl ?_
        refine RegV.p0 (v := (.d (.bool (decide ((bitsA .and .u32 (bitsA .xor .u32 y35_1 (IntKind.u32.wrap (Int.fdiv (((rd a1 y16_2).toNat : Nat) : Int) (2 ^ (min ((IntKind.u64.wrap y35_2)).toNat IntKind.u8.bits))))) (1 : Int)) = (1 : Int)))))) rfl rfl rfl ?_
        refine RegV.p0 rfl rfl rfl ?_
        refine RegV.nil0 ?_
        refine AWc.seq ?_
        refine AWc.rg hmix rfl rfl ?_
        refine RegV.p0 rfl rfl rfl ?_
        refine RegV.p1 (v := (.d (.int .u32 (Int.fdiv y35_1 (2 ^ (min ((1 : Int)).toNat IntKind.u32.bits)))))) rfl rfl (by decide) rfl rfl ?_
        refine RegV.p0 rfl rfl rfl ?_
        refine RegV.nil0 ?_
        refine AWc.seq ?_
        refine AWc.rg hmix rfl rfl ?_
        refine RegV.p0 rfl rfl rfl ?_
        refine RegV.nil0 ?_
        refine AWc.cond rfl (fun c74 => ?_) (fun c74 => ?_)
        · have h35 := cond_pos c74 h35
          refine AWc.rg hmix rfl rfl ?_
          refine RegV.p0 rfl rfl rfl ?_
          refine RegV.p0 (v := (.d (.int .u32 (bitsA .xor .u32 (Int.fdiv y35_1 (2 ^ (min ((1 : Int)).toNat IntKind.u32.bits))) (2197175160 : Int))))) rfl rfl rfl ?_
          refine RegV.p0 rfl rfl rfl ?_
          refine RegV.nil0 ?_
          refine AWc.rg hmix rfl rfl ?_
          refine RegV.p0 rfl rfl rfl ?_
          refine RegV.p0 (v := (.d (.int .i64 (IntKind.i64.wrap (y35_2 + (1 : Int)))))) rfl rfl rfl ?_
          refine RegV.p0 rfl rfl rfl ?_
          refine RegV.nil0 ?_
          exact ⟨((bitsA .xor .u32 (Int.fdiv y35_1 (2 ^ (min ((1 : Int)).toNat IntKind.u32.bits))) (2197175160 : Int)), (IntKind.i64.wrap (y35_2 + (1 : Int)))), h35, ⟨rfl, [], [], rfl, rfl, ⟨⟨_, rfl, (.refl _)⟩, rfl, ⟨⟨_, rfl, (.refl _)⟩, rfl, ⟨⟨_, rfl, (.refl _)⟩, rfl, ⟨⟨_, rfl, (.refl _)⟩, rfl, trivial⟩⟩⟩⟩,  trivial⟩⟩
        · have h35 := cond_neg c74 h35
          refine AWc.skip ?_
          refine AWc.rg hmix rfl rfl ?_
          refine RegV.p0 rfl rfl rfl ?_
          refine RegV.p0 (v := (.d (.int .i64 (IntKind.i64.wrap (y35_2 + (1 : Int)))))) rfl rfl rfl ?_
          refine RegV.p0 rfl rfl rfl ?_
          refine RegV.nil0 ?_
          exact ⟨((Int.fdiv y35_1 (2 ^ (min ((1 : Int)).toNat IntKind.u32.bits))), (IntKind.i64.wrap (y35_2 + (1 : Int)))), h35, ⟨rfl, [], [], rfl, rfl, ⟨⟨_, rfl, (.refl _)⟩, rfl, ⟨⟨_, rfl, (.refl _)⟩, rfl, ⟨⟨_, rfl, (.refl _)⟩, rfl, ⟨⟨_, rfl, (.refl _)⟩, rfl, trivial⟩⟩⟩⟩,  trivial⟩⟩
      · have h35 := cond_neg c43 h35
        cases h35
        dsimp only at h16
        refine AWc.exit ?_
        refine inBlk_eq ?_
        refine AWc.rg hmix rfl rfl ?_
        refine RegV.p0 rfl rfl rfl ?_
        refine RegV.p0 (v := (.d (.int .i64 (IntKind.i64.wrap (y16_2 + (1 : Int)))))) rfl rfl rfl ?_
        refine RegV.p0 rfl rfl rfl ?_
        refine RegV.nil0 ?_
        exact ⟨(y35_1, (IntKind.i64.wrap (y16_2 + (1 : Int)))), h16, ⟨rfl, [], [], rfl, rfl, ⟨⟨_, rfl, (.refl _)⟩, rfl, ⟨⟨_, rfl, (.refl _)⟩, rfl, ⟨⟨_, rfl, (.refl _)⟩, rfl, trivial⟩⟩⟩,  trivial⟩⟩
    · have h16 := cond_neg c26 h16
      cases h16
      dsimp only at h
      refine AWc.exit ?_
      refine inBlk_eq ?_
      exact ⟨y16_1, h, ⟨rfl, [], [], rfl, rfl, ⟨⟨_, rfl, (.refl _)⟩, rfl, trivial⟩,  trivial⟩⟩
  · intro j91_1 h
    unfold f269_j91 at h
    refine AWc.seq ?_
    refine AWc.rg hmix rfl rfl ?_
    refine RegV.p0 rfl rfl rfl ?_
    refine RegV.p0 (v := (.d (.int .u32 (bitsA .xor .u32 (if IntKind.u32.signed then -1 else IntKind.u32.max) j91_1)))) rfl rfl rfl ?_
    refine RegV.p0 rfl rfl rfl ?_
    refine RegV.nil0 ?_
    have hr := Option.some.inj h
    subst hr
    exact AWc.ret (canQ (N := 40) (k := 0) (l' := [(4, (.d (.int .u32 (bitsA .xor .u32 (if IntKind.u32.signed then -1 else IntKind.u32.max) j91_1))))]) (H' := []) rfl ⟨rfl, [], [], rfl, rfl, ⟨⟨_, rfl, (.refl _)⟩, rfl, trivial⟩,  trivial⟩ (doneA (.inr rfl) rfl ⟨trivial, trivial⟩ (.refl _) hasNil))
/-- courant/courantref17.Sum -/
def C268 (N : Nat → Nat) : AFunc := { n := 5, params := 1, res := [.tmp 2], body :=
 (.seq (.region false [⟨(some 2), .mv (.k (.d (.int .u32 0))), none, []⟩])
  (.seq (.region false [⟨(some 3), .mv (.t 0), none, []⟩,
    ⟨(some 4), .call (.k (.d (.fn (N 269)))) [(.k (.d (.int .u32 0))), (.t 3)], none, [0]⟩,
    ⟨(some 2), .mv (.t 4), none, [1, 0]⟩])
   .ret)) }
def HC268 (P : Program) (N : Nat → Nat) : Prop := HasF P (N 268) (C268 N) ∧ HC269 P N
def f268 (k : Nat) (a0 : (List UInt8)) : Option Int := (f269 k (0 : Int) a0).bind fun r9 => some r9
theorem F268 {P : Program} {N : Nat → Nat} (hmix : P.follows .mixedOrders = true) (hc : HC268 P N) {k : Nat} {a0 : (List UInt8)} {r : Int} (h : f268 k a0 = some r) :
    ACalls P (N 268) [(.d (.sl (List.map byteD a0)))] [] (.d (.int .u32 r)) [] := by
  refine acalls_canon (F := C268 N) hc.1 0 0 rfl ?_
  unfold f268 at h
  dsimp only [C268, startL]
  refine AWc.seq ?_
  refine AWc.rg hmix rfl rfl ?_
  refine RegV.p0 rfl rfl rfl ?_
  refine RegV.nil0 ?_
  refine AWc.seq ?_
  refine AWc.rg hmix rfl rfl ?_
  refine RegV.p0 rfl rfl rfl ?_
  obtain ⟨r9, e9, h⟩ := bind_some h
  refine RegV.call0 (F269 hmix hc.2 e9) rfl rfl rfl rfl (.cons (.refl _) (.cons (.refl _) .nil)) rfl ?_
  refine RegV.p0 rfl rfl rfl ?_
  refine RegV.nil0 ?_
  have hr := Option.some.inj h
  subst hr
  exact AWc.ret (canQ (N := 5) (k := 0) (l' := [(2, (.d (.int .u32 r9)))]) (H' := []) rfl ⟨rfl, [], [], rfl, rfl, ⟨⟨_, rfl, (.refl _)⟩, rfl, trivial⟩,  trivial⟩ (doneA (.inr rfl) rfl ⟨trivial, trivial⟩ (.refl _) hasNil))
/-- courant/couranthelp.Plain[byte]$1 -/
def C109 (N : Nat → Nat) : AFunc := { n := 8, params := 2, res := [.tmp 4], body :=
 (.seq (.region false [⟨(some 4), .mv (.k (.d (.bool false))), none, []⟩])
  (.seq (.region false [⟨(some 5), .mv (.t 0), none, []⟩,
    ⟨(some 6), .mv (.t 1), none, []⟩,
    ⟨(some 7), .bin .eql (.t 5) (.t 6), none, [0, 1]⟩,
    ⟨(some 4), .mv (.t 7), none, [2, 0, 1]⟩])
   .ret)) }
def HC109 (P : Program) (N : Nat → Nat) : Prop := HasF P (N 109) (C109 N)
def f109 (k : Nat) (a0 : UInt8) (a1 : UInt8) : Option Unit := some ()
theorem F109 {P : Program} {N : Nat → Nat} (hmix : P.follows .mixedOrders = true) (hc : HC109 P N) {k : Nat} {a0 : UInt8} {a1 : UInt8} {r : Unit} (h : f109 k a0 a1 = some r) :
    ACalls P (N 109) [(.d (.int .u8 ((a0.toNat : Nat) : Int))), (.d (.int .u8 ((a1.toNat : Nat) : Int)))] [] (.d (.bool (decide (((a0.toNat : Nat) : Int) = ((a1.toNat : Nat) : Int))))) [] := by
  refine acalls_canon (F := C109 N) hc 0 0 rfl ?_
  unfold f109 at h
  dsimp only [C109, startL]
  refine AWc.seq ?_
  refine AWc.rg hmix rfl rfl ?_
  refine RegV.p0 rfl rfl rfl ?_
  refine RegV.nil0 ?_
  refine AWc.seq ?_
  refine AWc.rg hmix rfl rfl ?_
  refine RegV.p0 rfl rfl rfl ?_
  refine RegV.p0 rfl rfl rfl ?_
  refine RegV.p0 (v := (.d (.bool (decide (((a0.toNat : Nat) : Int) = ((a1.toNat : Nat) : Int)))))) rfl rfl rfl ?_
  refine RegV.p0 rfl rfl rfl ?_
  refine RegV.nil0 ?_
  have hr := Option.some.inj h
  subst hr
  exact AWc.ret (canQ (N := 8) (k := 0) (l' := [(4, (.d (.bool (decide (((a0.toNat : Nat) : Int) = ((a1.toNat : Nat) : Int))))))]) (H' := []) rfl ⟨rfl, [], [], rfl, rfl, ⟨⟨_, rfl, (.refl _)⟩, rfl, trivial⟩,  trivial⟩ (doneA (.inr rfl) rfl ⟨trivial, trivial⟩ (.refl _) hasNil))
/-- courant/couranthelp.Same[byte] -/
def C108 (N : Nat → Nat) : AFunc := { n := 30, params := 3, res := [.tmp 6], body :=
 (.seq (.region false [⟨(some 6), .mv (.k (.d (.bool false))), none, []⟩])
  (.seq (.seq (.region false [⟨(some 8), .mv (.t 0), none, []⟩,
     ⟨(some 9), .len (.t 8), none, [0]⟩,
     ⟨(some 10), .mv (.t 1), none, []⟩,
     ⟨(some 11), .len (.t 10), none, [2]⟩,
     ⟨(some 12), .bin .neq (.t 9) (.t 11), none, [1, 3]⟩])
    (.cond (.t 12) (.seq (.region false [⟨(some 6), .mv (.k (.d (.bool false))), none, []⟩])
      .ret)
     (.skip)))
   (.seq (.seq (.region false [⟨(some 7), .mv (.k (.d (.int .i64 0))), none, []⟩])
     (.block 0 (.loop (.seq (.seq (.region false [⟨(some 13), .mv (.t 7), none, []⟩,
          ⟨(some 14), .mv (.t 0), none, []⟩,
          ⟨(some 15), .len (.t 14), none, [1]⟩,
          ⟨(some 16), .bin .lss (.t 13) (.t 15), none, [0, 2]⟩])
         (.cond (.t 16) (.skip)
          (.exit 0)))
        (.seq (.block 1 (.seq (.region true [⟨(some 19), .mv (.t 2), none, []⟩,
            ⟨(some 20), .mv (.t 0), none, []⟩,
            ⟨(some 21), .mv (.t 7), none, []⟩,
            ⟨(some 22), .iaddr (.t 20) (.t 21) 1, none, [1, 2]⟩,
            ⟨(some 23), .load (.t 22) 1 false, none, [3]⟩,
            ⟨(some 24), .mv (.t 1), none, []⟩,
            ⟨(some 25), .mv (.t 7), none, []⟩,
            ⟨(some 26), .iaddr (.t 24) (.t 25) 1, none, [5, 6]⟩,
            ⟨(some 27), .load (.t 26) 1 false, none, [7]⟩,
            ⟨(some 28), .call (.t 19) [(.t 23), (.t 27)], none, [0, 4, 8]⟩,
            ⟨(some 29), .un .not (.t 28), none, [9]⟩])
           (.cond (.t 29) (.seq (.region false [⟨(some 6), .mv (.k (.d (.bool false))), none, []⟩])
             .ret)
            (.skip))))
         (.region false [⟨(some 17), .mv (.t 7), none, []⟩,
          ⟨(some 18), .bin .add (.t 17) (.k (.d (.int .i64 1))), none, [0]⟩,
          ⟨(some 7), .mv (.t 18), none, [1, 0]⟩]))))))
    (.seq (.region false [⟨(some 6), .mv (.k (.d (.bool true))), none, []⟩])
     .ret)))) }
def HC108 (P : Program) (N : Nat → Nat) : Prop := HasF P (N 108) (C108 N) ∧ HC109 P N
def f108_l26 (a0 : (List UInt8)) (a1 : (List UInt8)) : Nat → Int → Option (LR2 Unit Unit Bool)
  | 0, _ => none
  | k + 1, y26_1 => cond (decide (y26_1 < ((a0.length : Nat) : Int))) (gd (0 ≤ y26_1 ∧ y26_1 < ((a0.length : Nat) : Int)) (gd (0 ≤ y26_1 ∧ y26_1 < ((a1.length : Nat) : Int)) ((f109 k (rd a0 y26_1) (rd a1 y26_1)).bind fun r53 => cond (!(decide ((((rd a0 y26_1).toNat : Nat) : Int) = (((rd a1 y26_1).toNat : Nat) : Int)))) (some (.r false)) (f108_l26 a0 a1 k (IntKind.i64.wrap (y26_1 + (1 : Int))))))) (some (.b0 ()))
def f108 (k : Nat) (a0 : (List UInt8)) (a1 : (List UInt8)) : Option Bool := cond (decide (((a0.length : Nat) : Int) ≠ ((a1.length : Nat) : Int))) (some false) ((f108_l26 a0 a1 k (0 : Int)).bind fun o26 => match o26 with | .b0 () => some true | .r x => some x | _ => none)
theorem F108 {P : Program} {N : Nat → Nat} (hmix : P.follows .mixedOrders = true) (hc : HC108 P N) {k : Nat} {a0 : (List UInt8)} {a1 : (List UInt8)} {r : Bool} (h : f108 k a0 a1 = some r) :
    ACalls P (N 108) [(.d (.sl (List.map byteD a0))), (.d (.sl (List.map byteD a1))), (.d (.fn (N 109)))] [] (.d (.bool r)) [] := by
  refine acalls_canon (F := C108 N) hc.1 0 0 rfl ?_
  unfold f108 at h
  dsimp only [C108, startL]
  refine AWc.seq ?_
  refine AWc.rg hmix rfl rfl ?_
  refine RegV.p0 rfl rfl rfl ?_
  refine RegV.nil0 ?_
  refine AWc.seq ?_
  refine AWc.seq ?_
  refine AWc.rg hmix rfl rfl ?_
  refine RegV.p0 rfl rfl rfl ?_
  refine RegV.len (xs := a0) (e := byteD) rfl rfl rfl rfl ?_
  refine RegV.p0 rfl rfl rfl ?_
  refine RegV.len (xs := a1) (e := byteD) rfl rfl rfl rfl ?_
  refine RegV.p0 (v := (.d (.bool (decide (((a0.length : Nat) : Int) ≠ ((a1.length : Nat) : Int)))))) rfl rfl rfl ?_
  refine RegV.nil0 ?_
  refine AWc.cond rfl (fun c14 => ?_) (fun c14 => ?_)
  · have h := cond_pos c14 h
    refine AWc.seq ?_
    refine AWc.rg hmix rfl rfl ?_
    refine RegV.p0 rfl rfl rfl ?_
    refine RegV.nil0 ?_
    have hr := Option.some.inj h
    subst hr
    exact AWc.ret (canQ (N := 30) (k := 0) (l' := [(6, (.d (.bool false)))]) (H' := []) rfl ⟨rfl, [], [], rfl, rfl, ⟨⟨_, rfl, (.refl _)⟩, rfl, trivial⟩,  trivial⟩ (doneA (.inr rfl) rfl ⟨trivial, trivial⟩ (.refl _) hasNil))
  · have h := cond_neg c14 h
    refine AWc.skip ?_
    refine AWc.seq ?_
    refine AWc.seq ?_
    refine AWc.rg hmix rfl rfl ?_
    refine RegV.p0 rfl rfl rfl ?_
    refine RegV.nil0 ?_
    obtain ⟨o26, h26, h⟩ := bind_some h
    refine AWc.block ?_
    refine AWc.loopK (N := 30) 0 (fun (x : Int) => [(0, (.d (.sl (List.map byteD a0)))), (1, (.d (.sl (List.map byteD a1)))), (2, (.d (.fn (N 109)))), (7, (.d (.int .i64 x)))]) (fun x => []) (fun k x => f108_l26 a0 a1 k x = some o26) k (0 : Int) rfl_le (fun x hx => by cases hx) h26 ⟨rfl, [], [], rfl, rfl, ⟨⟨_, rfl, (.refl _)⟩, rfl, ⟨⟨_, rfl, (.refl _)⟩, rfl, ⟨⟨_, rfl, (.refl _)⟩, rfl, ⟨⟨_, rfl, (.refl _)⟩, rfl, trivial⟩⟩⟩⟩,  trivial⟩ ?_
    clear h26
    intro k
    intro y26_1 h26
    rw [f108_l26] at h26
    refine AWc.seq ?_
    refine AWc.seq ?_
    refine AWc.rg hmix rfl rfl ?_
    refine RegV.p0 rfl rfl rfl ?_
    refine RegV.p0 rfl rfl rfl ?_
    refine RegV.len (xs := a0) (e := byteD) rfl rfl rfl rfl ?_
    refine RegV.p0 (v := (.d (.bool (decide (y26_1 < ((a0.length : Nat) : Int)))))) rfl rfl rfl ?_
    refine RegV.nil0 ?_
    refine AWc.cond rfl (fun c36 => ?_) (fun c36 => ?_)
    · have h26 := cond_pos c36 h26
      refine AWc.skip ?_
      refine AWc.seq ?_
      refine AWc.block ?_
      refine AWc.seq ?_
      refine AWc.rg hmix rfl rfl ?_
      refine RegV.p0 rfl rfl rfl ?_
      refine RegV.p0 rfl rfl rfl ?_
      refine RegV.p0 rfl rfl rfl ?_
      obtain ⟨b47, h26⟩ := gd_some h26
      refine RegV.iad (xs := a0) (e := byteD) rfl rfl rfl rfl (fun _ => rfl) b47 rfl ?_
      refine RegV.p0 (v := (.d (.int .u8 (((rd a0 y26_1).toNat : Nat) : Int)))) rfl rfl rfl ?_
      refine RegV.p0 rfl rfl rfl ?_
      refine RegV.p0 rfl rfl rfl ?_
      obtain ⟨b51, h26⟩ := gd_some h26
      refine RegV.iad (xs := a1) (e := byteD) rfl rfl rfl rfl (fun _ => rfl) b51 rfl ?_
      refine RegV.p0 (v := (.d (.int .u8 (((rd a1 y26_1).toNat : Nat) : Int)))) rfl rfl rfl ?_
      obtain ⟨r53, e53, h26⟩ := bind_some h26
      refine RegV.call0 (F109 hmix hc.2 e53) rfl rfl rfl rfl (.cons (.refl _) (.cons (.refl _) .nil)) rfl ?_
      refine RegV.p0 (v := (.d (.bool (!(decide ((((rd a0 y26_1).toNat : Nat) : Int) = (((rd a1 y26_1).toNat : Nat) : Int))))))) rfl rfl rfl ?_
      refine RegV.nil1 (by kernel_rfl) ?_
      refine AWc.cond rfl (fun c55 => ?_) (fun c55 => ?_)
      · have h26 := cond_pos c55 h26
        refine AWc.seq ?_
        refine AWc.rg hmix rfl rfl ?_
        refine RegV.p0 rfl rfl rfl ?_
        refine RegV.nil0 ?_
        cases h26
        dsimp only at h
        have hr := Option.some.inj h
        subst hr
        exact AWc.ret (canQ (N := 30) (k := 0) (l' := [(6, (.d (.bool false)))]) (H' := []) rfl ⟨rfl, [], [], rfl, rfl, ⟨⟨_, rfl, (.refl _)⟩, rfl, trivial⟩,  trivial⟩ (doneA (.inr rfl) rfl ⟨trivial, trivial⟩ (.refl _) hasNil))
      · have h26 := cond_neg c55 h26
        refine AWc.skip ?_
        refine AWc.rg hmix rfl rfl ?_
        refine RegV.p0 rfl rfl rfl ?_
        refine RegV.p0 (v := (.d (.int .i64 (IntKind.i64.wrap (y26_1 + (1 : Int)))))) rfl rfl rfl ?_
        refine RegV.p0 rfl rfl rfl ?_
        refine RegV.nil0 ?_
        exact ⟨(IntKind.i64.wrap (y26_1 + (1 : Int))), h26, ⟨rfl, [], [], rfl, rfl, ⟨⟨_, rfl, (.refl _)⟩, rfl, ⟨⟨_, rfl, (.refl _)⟩, rfl, ⟨⟨_, rfl, (.refl _)⟩, rfl, ⟨⟨_, rfl, (.refl _)⟩, rfl, trivial⟩⟩⟩⟩,  trivial⟩⟩
    · have h26 := cond_neg c36 h26
      cases h26
      dsimp only at h
      refine AWc.exit ?_
      refine inBlk_eq ?_
      refine AWc.seq ?_
      refine AWc.rg hmix rfl rfl ?_
      refine RegV.p0 rfl rfl rfl ?_
      refine RegV.nil0 ?_
      have hr := Option.some.inj h
      subst hr
      exact AWc.ret (canQ (N := 30) (k := 0) (l' := [(6, (.d (.bool true)))]) (H' := []) rfl ⟨rfl, [], [], rfl, rfl, ⟨⟨_, rfl, (.refl _)⟩, rfl, trivial⟩,  trivial⟩ (doneA (.inr rfl) rfl ⟨trivial, trivial⟩ (.refl _) hasNil))
/-- courant/couranthelp.Plain[byte] -/
def C83 (N : Nat → Nat) : AFunc := { n := 8, params := 2, res := [.tmp 4], body :=
 (.seq (.region false [⟨(some 4), .mv (.k (.d (.bool false))), none, []⟩])
  (.seq (.region false [⟨(some 5), .mv (.t 0), none, []⟩,
    ⟨(some 6), .mv (.t 1), none, []⟩,
    ⟨(some 7), .call (.k (.d (.fn (N 108)))) [(.t 5), (.t 6), (.k (.d (.fn (N 109))))], none, [0, 1]⟩,
    ⟨(some 4), .mv (.t 7), none, [2, 0, 1]⟩])
   .ret)) }
def HC83 (P : Program) (N : Nat → Nat) : Prop := HasF P (N 83) (C83 N) ∧ HC108 P N
def f83 (k : Nat) (a0 : (List UInt8)) (a1 : (List UInt8)) : Option Bool := (f108 k a0 a1).bind fun r10 => some r10
theorem F83 {P : Program} {N : Nat → Nat} (hmix : P.follows .mixedOrders = true) (hc : HC83 P N) {k : Nat} {a0 : (List UInt8)} {a1 : (List UInt8)} {r : Bool} (h : f83 k a0 a1 = some r) :
    ACalls P (N 83) [(.d (.sl (List.map byteD a0))), (.d (.sl (List.map byteD a1)))] [] (.d (.bool r)) [] := by
  refine acalls_canon (F := C83 N) hc.1 0 0 rfl ?_
  unfold f83 at h
  dsimp only [C83, startL]
  refine AWc.seq ?_
  refine AWc.rg hmix rfl rfl ?_
  refine RegV.p0 rfl rfl rfl ?_
  refine RegV.nil0 ?_
  refine AWc.seq ?_
  refine AWc.rg hmix rfl rfl ?_
  refine RegV.p0 rfl rfl rfl ?_
  refine RegV.p0 rfl rfl rfl ?_
  obtain ⟨r10, e10, h⟩ := bind_some h
  refine RegV.call0 (F108 hmix hc.2 e10) rfl rfl rfl rfl (.cons (.refl _) (.cons (.refl _) (.cons (.refl _) .nil))) rfl ?_
  refine RegV.p0 rfl rfl rfl ?_
  refine RegV.nil0 ?_
  have hr := Option.some.inj h
  subst hr
  exact AWc.ret (canQ (N := 8) (k := 0) (l' := [(4, (.d (.bool r10)))]) (H' := []) rfl ⟨rfl, [], [], rfl, rfl, ⟨⟨_, rfl, (.refl _)⟩, rfl, trivial⟩,  trivial⟩ (doneA (.inr rfl) rfl ⟨trivial, trivial⟩ (.refl _) hasNil))
/-- courant/couranthelp.Kept[byte] -/
def C29 (N : Nat → Nat) : AFunc := { n := 40, params := 3, res := [.tmp 6], body :=
 (.seq (.region false [⟨(some 6), .mv (.k (.d (.bool false))), none, []⟩])
  (.seq (.seq (.region false [⟨(some 9), .mv (.t 0), none, []⟩,
     ⟨(some 10), .mv (.t 1), none, []⟩,
     ⟨(some 11), .call (.k (.d (.fn (N 83)))) [(.t 9), (.t 10)], none, [0, 1]⟩,
     ⟨(some 12), .un .not (.t 11), none, [2]⟩,
     ⟨(some 13), .mv (.t 12), none, [3, 2]⟩,
     ⟨(some 14), .mv (.t 0), (some (13, false)), [4]⟩,
     ⟨(some 15), .cap (.t 14), (some (13, false)), [5, 4]⟩,
     ⟨(some 16), .mv (.t 1), (some (13, false)), [4]⟩,
     ⟨(some 17), .len (.t 16), (some (13, false)), [7, 4]⟩,
     ⟨(some 18), .bin .add (.t 17) (.k (.d (.int .i64 3))), (some (13, false)), [8, 4]⟩,
     ⟨(some 19), .bin .lss (.t 15) (.t 18), (some (13, false)), [6, 9, 4]⟩,
     ⟨(some 20), .pick (.t 13) (.k (.d (.bool true))) (.t 19), none, [4, 10]⟩])
    (.cond (.t 20) (.seq (.region false [⟨(some 6), .mv (.k (.d (.bool false))), none, []⟩])
      .ret)
     (.skip)))
   (.seq (.region false [⟨(some 21), .mv (.t 0), none, []⟩,
     ⟨(some 22), .mv (.t 1), none, []⟩,
     ⟨(some 23), .len (.t 22), none, [1]⟩,
     ⟨(some 24), .bin .add (.t 23) (.k (.d (.int .i64 3))), none, [2]⟩,
     ⟨(some 25), .slc (.t 21) none (some (.t 24)) none 1, none, [0, 3]⟩,
     ⟨(some 7), .mv (.t 25), none, [4, 0, 1, 2, 3]⟩])
    (.seq (.seq (.region false [⟨(some 26), .mv (.t 1), none, []⟩,
       ⟨(some 27), .len (.t 26), none, [0]⟩,
       ⟨(some 8), .mv (.t 27), none, [1, 0]⟩])
      (.block 0 (.loop (.seq (.seq (.region false [⟨(some 28), .mv (.t 8), none, []⟩,
           ⟨(some 29), .mv (.t 7), none, []⟩,
           ⟨(some 30), .len (.t 29), none, [1]⟩,
           ⟨(some 31), .bin .lss (.t 28) (.t 30), none, [0, 2]⟩])
          (.cond (.t 31) (.skip)
           (.exit 0)))
         (.seq (.block 1 (.seq (.region false [⟨(some 34), .mv (.t 7), none, []⟩,
             ⟨(some 35), .mv (.t 8), none, []⟩,
             ⟨(some 36), .iaddr (.t 34) (.t 35) 1, none, [0, 1]⟩,
             ⟨(some 37), .load (.t 36) 1 false, none, [2]⟩,
             ⟨(some 38), .mv (.t 2), none, []⟩,
             ⟨(some 39), .bin .neq (.t 37) (.t 38), none, [3, 4]⟩])
            (.cond (.t 39) (.seq (.region false [⟨(some 6), .mv (.k (.d (.bool false))), none, []⟩])
              .ret)
             (.skip))))
          (.region false [⟨(some 32), .mv (.t 8), none, []⟩,
           ⟨(some 33), .bin .add (.t 32) (.k (.d (.int .i64 1))), none, [0]⟩,
           ⟨(some 8), .mv (.t 33), none, [1, 0]⟩]))))))
     (.seq (.region false [⟨(some 6), .mv (.k (.d (.bool true))), none, []⟩])
      .ret))))) }
def HC29 (P : Program) (N : Nat → Nat) : Prop := HasF P (N 29) (C29 N) ∧ HC83 P N
def f29_l44 (a2 : (List UInt8)) (a0 : (List UInt8)) (a3 : UInt8) : Nat → Int → Option (LR2 Unit Unit Bool)
  | 0, _ => none
  | k + 1, y44_1 => cond (decide (y44_1 < (((List.take (((IntKind.i64.wrap (((a2.length : Nat) : Int) + (3 : Int)))).toNat) a0).length : Nat) : Int))) (gd (0 ≤ y44_1 ∧ y44_1 < (((List.take (((IntKind.i64.wrap (((a2.length : Nat) : Int) + (3 : Int)))).toNat) a0).length : Nat) : Int)) (cond (decide ((((rd (List.take (((IntKind.i64.wrap (((a2.length : Nat) : Int) + (3 : Int)))).toNat) a0) y44_1).toNat : Nat) : Int) ≠ ((a3.toNat : Nat) : Int))) (some (.r false)) (f29_l44 a2 a0 a3 k (IntKind.i64.wrap (y44_1 + (1 : Int)))))) (some (.b0 ()))
def f29 (k : Nat) (a0 : (List UInt8)) (a1 : Nat) (a2 : (List UInt8)) (a3 : UInt8) : Option Bool := (f83 k (List.take a1 a0) a2).bind fun r11 => cond (!r11) (some false) (cond (decide (((a0.length : Nat) : Int) < (IntKind.i64.wrap (((a2.length : Nat) : Int) + (3 : Int))))) (some false) (gd (0 ≤ (IntKind.i64.wrap (((a2.length : Nat) : Int) + (3 : Int))) ∧ (IntKind.i64.wrap (((a2.length : Nat) : Int) + (3 : Int))) ≤ ((a0.length : Nat) : Int)) ((f29_l44 a2 a0 a3 k ((a2.length : Nat) : Int)).bind fun o44 => match o44 with | .b0 () => some true | .r x => some x | _ => none)))
theorem F29 {P : Program} {N : Nat → Nat} (hmix : P.follows .mixedOrders = true) (hc : HC29 P N) {k : Nat} {a0 : (List UInt8)} {a1 : Nat} {a2 : (List UInt8)} {a3 : UInt8} {r : Bool} (h : f29 k a0 a1 a2 a3 = some r) :
    ACalls P (N 29) [(.win (List.map byteD a0) a1), (.d (.sl (List.map byteD a2))), (.d (.int .u8 ((a3.toNat : Nat) : Int)))] [] (.d (.bool r)) [] := by
  refine acalls_canon (F := C29 N) hc.1 0 0 rfl ?_
  unfold f29 at h
  dsimp only [C29, startL]
  refine AWc.seq ?_
  refine AWc.rg hmix rfl rfl ?_
  refine RegV.p0 rfl rfl rfl ?_
  refine RegV.nil0 ?_
  refine AWc.seq ?_
  refine AWc.seq ?_
  refine AWc.rg hmix rfl rfl ?_
  refine RegV.p0 rfl rfl rfl ?_
  refine RegV.p0 rfl rfl rfl ?_
  obtain ⟨r11, e11, h⟩ := bind_some h
  refine RegV.call0 (F83 hmix hc.2 e11) rfl rfl rfl rfl (.cons .win (.cons (.refl _) .nil)) rfl ?_
  refine RegV.p0 (v := (.d (.bool (!r11)))) rfl rfl rfl ?_
  refine RegV.p0 rfl rfl rfl ?_
  refine RegV.split (fun c13 => ?_) (fun c13 => ?_)
  · have h := cond_pos c13 h
    refine RegV.noS rfl rfl ?_
    refine RegV.noS rfl rfl ?_
    refine RegV.noS rfl rfl ?_
    refine RegV.noS rfl rfl ?_
    refine RegV.noS rfl rfl ?_
    refine RegV.noS rfl rfl ?_
    refine RegV.p0 rfl rfl rfl ?_
    refine RegV.nil0 ?_
    refine AWc.cond rfl (fun _ => ?_) (fun hc => by cases hc)
    refine AWc.seq ?_
    refine AWc.rg hmix rfl rfl ?_
    refine RegV.p0 rfl rfl rfl ?_
    refine RegV.nil0 ?_
    have hr := Option.some.inj h
    subst hr
    exact AWc.ret (canQ (N := 40) (k := 0) (l' := [(6, (.d (.bool false)))]) (H' := []) rfl ⟨rfl, [], [], rfl, rfl, ⟨⟨_, rfl, (.refl _)⟩, rfl, trivial⟩,  trivial⟩ (doneA (.inr rfl) rfl ⟨trivial, trivial⟩ (.refl _) hasNil))
  · have h := cond_neg c13 h
    refine RegV.p0 rfl rfl rfl ?_
    refine RegV.capW (ys := a0) (e := byteD) rfl rfl rfl ?_
    refine RegV.p0 rfl rfl rfl ?_
    refine RegV.len (xs := a2) (e := byteD) rfl rfl rfl rfl ?_
    refine RegV.p0 (v := (.d (.int .i64 (IntKind.i64.wrap (((a2.length : Nat) : Int) + (3 : Int)))))) rfl rfl rfl ?_
    refine RegV.p0 (v := (.d (.bool (decide (((a0.length : Nat) : Int) < (IntKind.i64.wrap (((a2.length : Nat) : Int) + (3 : Int)))))))) rfl rfl rfl ?_
    refine RegV.p0 rfl rfl rfl ?_
    refine RegV.nil0 ?_
    refine AWc.cond rfl (fun c21 => ?_) (fun c21 => ?_)
    · have h := cond_pos c21 h
      refine AWc.seq ?_
      refine AWc.rg hmix rfl rfl ?_
      refine RegV.p0 rfl rfl rfl ?_
      refine RegV.nil0 ?_
      have hr := Option.some.inj h
      subst hr
      exact AWc.ret (canQ (N := 40) (k := 0) (l' := [(6, (.d (.bool false)))]) (H' := []) rfl ⟨rfl, [], [], rfl, rfl, ⟨⟨_, rfl, (.refl _)⟩, rfl, trivial⟩,  trivial⟩ (doneA (.inr rfl) rfl ⟨trivial, trivial⟩ (.refl _) hasNil))
    · have h := cond_neg c21 h
      refine AWc.skip ?_
      refine AWc.seq ?_
      refine AWc.rg hmix rfl rfl ?_
      refine RegV.p0 rfl rfl rfl ?_
      refine RegV.p0 rfl rfl rfl ?_
      refine RegV.len (xs := a2) (e := byteD) rfl rfl rfl rfl ?_
      refine RegV.p0 (v := (.d (.int .i64 (IntKind.i64.wrap (((a2.length : Nat) : Int) + (3 : Int)))))) rfl rfl rfl ?_
      obtain ⟨b35, h⟩ := gd_some h
      refine RegV.slW (ys := a0) (e := byteD) (hi := (IntKind.i64.wrap (((a2.length : Nat) : Int) + (3 : Int)))) rfl rfl rfl b35 rfl ?_
      refine RegV.p0 rfl rfl rfl ?_
      refine RegV.nil0 ?_
      refine AWc.seq ?_
      refine AWc.seq ?_
      refine AWc.rg hmix rfl rfl ?_
      refine RegV.p0 rfl rfl rfl ?_
      refine RegV.len (xs := a2) (e := byteD) rfl rfl rfl rfl ?_
      refine RegV.p0 rfl rfl rfl ?_
      refine RegV.nil0 ?_
      obtain ⟨o44, h44, h⟩ := bind_some h
      refine AWc.block ?_
      refine AWc.loopK (N := 40) 0 (fun (x : Int) => [(2, (.d (.int .u8 ((a3.toNat : Nat) : Int)))), (7, (.win (List.map byteD a0) (((IntKind.i64.wrap (((a2.length : Nat) : Int) + (3 : Int)))).toNat))), (8, (.d (.int .i64 x)))]) (fun x => []) (fun k x => f29_l44 a2 a0 a3 k x = some o44) k ((a2.length : Nat) : Int) rfl_le (fun x hx => by cases hx) h44 ⟨rfl, [], [], rfl, rfl, ⟨⟨_, rfl, (.refl _)⟩, rfl, ⟨⟨_, rfl, (.refl _)⟩, rfl, ⟨⟨_, rfl, (.refl _)⟩, rfl, trivial⟩⟩⟩,  trivial⟩ ?_
      clear h44
      intro k
      intro y44_1 h44
      rw [f29_l44] at h44
      refine AWc.seq ?_
      refine AWc.seq ?_
      refine AWc.rg hmix rfl rfl ?_
      refine RegV.p0 rfl rfl rfl ?_
      refine RegV.p0 rfl rfl rfl ?_
      refine RegV.len (xs := (List.take (((IntKind.i64.wrap (((a2.length : Nat) : Int) + (3 : Int)))).toNat) a0)) (e := byteD) rfl rfl (toSlW _ _) rfl ?_
      refine RegV.p0 (v := (.d (.bool (decide (y44_1 < (((List.take (((IntKind.i64.wrap (((a2.length : Nat) : Int) + (3 : Int)))).toNat) a0).length : Nat) : Int)))))) rfl rfl rfl ?_
      refine RegV.nil0 ?_
      refine AWc.cond rfl (fun c54 => ?_) (fun c54 => ?_)
      · have h44 := cond_pos c54 h44
        refine AWc.skip ?_
        refine AWc.seq ?_
        refine AWc.block ?_
        refine AWc.seq ?_
        refine AWc.rg hmix rfl rfl ?_
        refine RegV.p0 rfl rfl rfl ?_
        refine RegV.p0 rfl rfl rfl ?_
        obtain ⟨b64, h44⟩ := gd_some h44
        refine RegV.iad (xs := (List.take (((IntKind.i64.wrap (((a2.length : Nat) : Int) + (3 : Int)))).toNat) a0)) (e := byteD) rfl rfl (toSlW _ _) rfl (fun _ => rfl) b64 rfl ?_
        refine RegV.p0 (v := (.d (.int .u8 (((rd (List.take (((IntKind.i64.wrap (((a2.length : Nat) : Int) + (3 : Int)))).toNat) a0) y44_1).toNat : Nat) : Int)))) rfl rfl rfl ?_
        refine RegV.p0 rfl rfl rfl ?_
        refine RegV.p0 (v := (.d (.bool (decide ((((rd (List.take (((IntKind.i64.wrap (((a2.length : Nat) : Int) + (3 : Int)))).toNat) a0) y44_1).toNat : Nat) : Int) ≠ ((a3.toNat : Nat) : Int)))))) rfl rfl rfl ?_
        refine RegV.nil0 ?_
        refine AWc.cond rfl (fun c68 => ?_) (fun c68 => ?_)
        · have h44 := cond_pos c68 h44
          refine AWc.seq ?_
          refine AWc.rg hmix rfl rfl ?_
          refine RegV.p0 rfl rfl rfl ?_
          refine RegV.nil0 ?_
          cases h44
          dsimp only at h
          have hr := Option.some.inj h
          subst hr
          exact AWc.ret (canQ (N := 40) (k := 0) (l' := [(6, (.d (.bool false)))]) (H' := []) rfl ⟨rfl, [], [], rfl, rfl, ⟨⟨_, rfl, (.refl _)⟩, rfl, trivial⟩,  trivial⟩ (doneA (.inr rfl) rfl ⟨trivial, trivial⟩ (.refl _) hasNil))
        · have h44 := cond_neg c68 h44
          refine AWc.skip ?_
          refine AWc.rg hmix rfl rfl ?_
          refine RegV.p0 rfl rfl rfl ?_
          refine RegV.p0 (v := (.d (.int .i64 (IntKind.i64.wrap (y44_1 + (1 : Int)))))) rfl rfl rfl ?_
          refine RegV.p0 rfl rfl rfl ?_
          refine RegV.nil0 ?_
          exact ⟨(IntKind.i64.wrap (y44_1 + (1 : Int))), h44, ⟨rfl, [], [], rfl, rfl, ⟨⟨_, rfl, (.refl _)⟩, rfl, ⟨⟨_, rfl, (.refl _)⟩, rfl, ⟨⟨_, rfl, (.refl _)⟩, rfl, trivial⟩⟩⟩,  trivial⟩⟩
      · have h44 := cond_neg c54 h44
        cases h44
        dsimp only at h
        refine AWc.exit ?_
        refine inBlk_eq ?_
        refine AWc.seq ?_
        refine AWc.rg hmix rfl rfl ?_
        refine RegV.p0 rfl rfl rfl ?_
        refine RegV.nil0 ?_
        have hr := Option.some.inj h
        subst hr
        exact AWc.ret (canQ (N := 40) (k := 0) (l' := [(6, (.d (.bool true)))]) (H' := []) rfl ⟨rfl, [], [], rfl, rfl, ⟨⟨_, rfl, (.refl _)⟩, rfl, trivial⟩,  trivial⟩ (doneA (.inr rfl) rfl ⟨trivial, trivial⟩ (.refl _) hasNil))
/-- courant/courantlaw17.CrcSums -/
def C216 (N : Nat → Nat) : AFunc := { n := 30, params := 2, res := [.tmp 4], body :=
 (.seq (.region false [⟨(some 4), .mv (.k (.d (.bool false))), none, []⟩])
  (.seq (.region false [⟨(some 6), .mv (.t 0), none, []⟩,
    ⟨(some 7), .call (.k (.d (.fn (N 21)))) [(.t 6), (.k (.d (.int .u8 71)))], none, [0]⟩,
    ⟨(some 5), .mv (.t 7), none, [1, 0]⟩])
   (.seq (.region false [⟨(some 8), .call (.k (.d (.fn (N 217)))) [], none, []⟩,
     ⟨(some 9), .mv (.t 8), none, [0]⟩,
     ⟨(some 10), .mv (.t 5), (some (9, true)), [1]⟩,
     ⟨(some 11), .call (.k (.d (.fn (N 263)))) [(.t 10)], (some (9, true)), [2, 1]⟩,
     ⟨(some 12), .mv (.t 0), (some (9, true)), [1]⟩,
     ⟨(some 13), .call (.k (.d (.fn (N 268)))) [(.t 12)], (some (9, true)), [4, 3, 1]⟩,
     ⟨(some 14), .bin .eql (.t 11) (.t 13), (some (9, true)), [3, 5, 1]⟩,
     ⟨(some 15), .pick (.t 9) (.t 14) (.k (.d (.bool false))), none, [1, 6]⟩,
     ⟨(some 16), .mv (.t 15), none, [7, 5]⟩,
     ⟨(some 17), .mv (.t 1), (some (16, true)), [8]⟩,
     ⟨(some 18), .mv (.t 5), (some (16, true)), [8]⟩,
     ⟨(some 19), .call (.k (.d (.fn (N 264)))) [(.t 17), (.t 18)], (some (16, true)), [9, 10, 8]⟩,
     ⟨(some 20), .mv (.t 1), (some (16, true)), [8]⟩,
     ⟨(some 21), .mv (.t 0), (some (16, true)), [8]⟩,
     ⟨(some 22), .call (.k (.d (.fn (N 269)))) [(.t 20), (.t 21)], (some (16, true)), [12, 13, 11, 8]⟩,
     ⟨(some 23), .bin .eql (.t 19) (.t 22), (some (16, true)), [11, 14, 8]⟩,
     ⟨(some 24), .pick (.t 16) (.t 23) (.k (.d (.bool false))), none, [8, 15]⟩,
     ⟨(some 25), .mv (.t 24), none, [16, 14]⟩,
     ⟨(some 26), .mv (.t 5), (some (25, true)), [17]⟩,
     ⟨(some 27), .mv (.t 0), (some (25, true)), [17]⟩,
     ⟨(some 28), .call (.k (.d (.fn (N 29)))) [(.t 26), (.t 27), (.k (.d (.int .u8 71)))], (some (25, true)), [18, 19, 17]⟩,
     ⟨(some 29), .pick (.t 25) (.t 28) (.k (.d (.bool false))), none, [17, 20]⟩,
     ⟨(some 4), .mv (.t 29), none, [21, 20, 0, 1, 2, 3, 4, 5, 6, 7, 8, 9, 10, 11, 12, 13, 14, 15, 16, 17, 18, 19]⟩])
    .ret))) }
def HC216 (P : Program) (N : Nat → Nat) : Prop := HasF P (N 216) (C216 N) ∧ HC21 P N ∧ HC217 P N ∧ HC263 P N ∧ HC268 P N ∧ HC264 P N ∧ HC269 P N ∧ HC29 P N
def f216 (k : Nat) (a0 : (List UInt8)) (a1 : Int) : Option Bool := (f21 k a0 (71 : UInt8)).bind fun r9 => (f217 k).bind fun r14 => cond r14 ((f263 k (List.take (((0 : Int)).toNat + a0.length) r9)).bind fun r17 => (f268 k a0).bind fun r19 => cond (decide (r17 = r19)) ((f264 k a1 (List.take (((0 : Int)).toNat + a0.length) r9)).bind fun r25 => (f269 k a1 a0).bind fun r28 => cond (decide (r25 = r28)) ((f29 k r9 (((0 : Int)).toNat + a0.length) a0 (71 : UInt8)).bind fun r34 => some r34) (some false)) (some false)) (some false)
theorem F216 {P : Program} {N : Nat → Nat} (hmix : P.follows .mixedOrders = true) (hc : HC216 P N) {k : Nat} {a0 : (List UInt8)} {a1 : Int} {r : Bool} (h : f216 k a0 a1 = some r) :
    ACalls P (N 216) [(.d (.sl (List.map byteD a0))), (.d (.int .u32 a1))] [] (.d (.bool r)) [] := by
  refine acalls_canon (F := C216 N) hc.1 0 0 rfl ?_
  unfold f216 at h
  dsimp only [C216, startL]
  refine AWc.seq ?_
  refine AWc.rg hmix rfl rfl ?_
  refine RegV.p0 rfl rfl rfl ?_
  refine RegV.nil0 ?_
  refine AWc.seq ?_
  refine AWc.rg hmix rfl rfl ?_
  refine RegV.p0 rfl rfl rfl ?_
  obtain ⟨r9, e9, h⟩ := bind_some h
  refine RegV.call0 (F21 hmix hc.2.1 e9) rfl rfl rfl rfl (.cons (.refl _) (.cons (.refl _) .nil)) rfl ?_
  refine RegV.p0 rfl rfl rfl ?_
  refine RegV.nil0 ?_
  refine AWc.seq ?_
  refine AWc.rg hmix rfl rfl ?_
  obtain ⟨r14, e14, h⟩ := bind_some h
  refine RegV.call0 (F217 hmix hc.2.2.1 e14) rfl rfl rfl rfl .nil rfl ?_
  refine RegV.p0 rfl rfl rfl ?_
  refine RegV.split (fun c15 => ?_) (fun c15 => ?_)
  · have h := cond_pos c15 h
    refine RegV.p0 rfl rfl rfl ?_
    obtain ⟨r17, e17, h⟩ := bind_some h
    refine RegV.call0 (F263 hmix hc.2.2.2.1 e17) rfl rfl rfl rfl (.cons .win .nil) rfl ?_
    refine RegV.p0 rfl rfl rfl ?_
    obtain ⟨r19, e19, h⟩ := bind_some h
    refine RegV.call0 (F268 hmix hc.2.2.2.2.1 e19) rfl rfl rfl rfl (.cons (.refl _) .nil) rfl ?_
    refine RegV.p0 (v := (.d (.bool (decide (r17 = r19))))) rfl rfl rfl ?_
    refine RegV.p0 rfl rfl rfl ?_
    refine RegV.p0 rfl rfl rfl ?_
    refine RegV.split (fun c22 => ?_) (fun c22 => ?_)
    · have h := cond_pos c22 h
      refine RegV.p0 rfl rfl rfl ?_
      refine RegV.p0 rfl rfl rfl ?_
      obtain ⟨r25, e25, h⟩ := bind_some h
      refine RegV.call0 (F264 hmix hc.2.2.2.2.2.1 e25) rfl rfl rfl rfl (.cons (.refl _) (.cons .win .nil)) rfl ?_
      refine RegV.p0 rfl rfl rfl ?_
      refine RegV.p0 rfl rfl rfl ?_
      obtain ⟨r28, e28, h⟩ := bind_some h
      refine RegV.call0 (F269 hmix hc.2.2.2.2.2.2.1 e28) rfl rfl rfl rfl (.cons (.refl _) (.cons (.refl _) .nil)) rfl ?_
      refine RegV.p0 (v := (.d (.bool (decide (r25 = r28))))) rfl rfl rfl ?_
      refine RegV.p0 rfl rfl rfl ?_
      refine RegV.p0 rfl rfl rfl ?_
      refine RegV.split (fun c31 => ?_) (fun c31 => ?_)
      · have h := cond_pos c31 h
        refine RegV.p0 rfl rfl rfl ?_
        refine RegV.p0 rfl rfl rfl ?_
        obtain ⟨r34, e34, h⟩ := bind_some h
        refine RegV.call0 (F29 hmix hc.2.2.2.2.2.2.2 e34) rfl rfl rfl rfl (.cons (.refl _) (.cons (.refl _) (.cons (.refl _) .nil))) rfl ?_
        refine RegV.p0 rfl rfl rfl ?_
        refine RegV.p0 rfl rfl rfl ?_
        refine RegV.nil0 ?_
        have hr := Option.some.inj h
        subst hr
        exact AWc.ret (canQ (N := 30) (k := 0) (l' := [(4, (.d (.bool r34)))]) (H' := []) rfl ⟨rfl, [], [], rfl, rfl, ⟨⟨_, rfl, (.refl _)⟩, rfl, trivial⟩,  trivial⟩ (doneA (.inr rfl) rfl ⟨trivial, trivial⟩ (.refl _) hasNil))
      · have h := cond_neg c31 h
        refine RegV.noS rfl rfl ?_
        refine RegV.noS rfl rfl ?_
        refine RegV.noS rfl rfl ?_
        refine RegV.p0 rfl rfl rfl ?_
        refine RegV.p0 rfl rfl rfl ?_
        refine RegV.nil0 ?_
        have hr := Option.some.inj h
        subst hr
        exact AWc.ret (canQ (N := 30) (k := 0) (l' := [(4, (.d (.bool false)))]) (H' := []) rfl ⟨rfl, [], [], rfl, rfl, ⟨⟨_, rfl, (.refl _)⟩, rfl, trivial⟩,  trivial⟩ (doneA (.inr rfl) rfl ⟨trivial, trivial⟩ (.refl _) hasNil))
    · have h := cond_neg c22 h
      refine RegV.noS rfl rfl ?_
      refine RegV.noS rfl rfl ?_
      refine RegV.noS rfl rfl ?_
      refine RegV.noS rfl rfl ?_
      refine RegV.noS rfl rfl ?_
      refine RegV.noS rfl rfl ?_
      refine RegV.noS rfl rfl ?_
      refine RegV.p0 rfl rfl rfl ?_
      refine RegV.p0 rfl rfl rfl ?_
      refine RegV.noS rfl rfl ?_
      refine RegV.noS rfl rfl ?_
      refine RegV.noS rfl rfl ?_
      refine RegV.p0 rfl rfl rfl ?_
      refine RegV.p0 rfl rfl rfl ?_
      refine RegV.nil0 ?_
      have hr := Option.some.inj h
      subst hr
      exact AWc.ret (canQ (N := 30) (k := 0) (l' := [(4, (.d (.bool false)))]) (H' := []) rfl ⟨rfl, [], [], rfl, rfl, ⟨⟨_, rfl, (.refl _)⟩, rfl, trivial⟩,  trivial⟩ (doneA (.inr rfl) rfl ⟨trivial, trivial⟩ (.refl _) hasNil))
  · have h := cond_neg c15 h
    refine RegV.noS rfl rfl ?_
    refine RegV.noS rfl rfl ?_
    refine RegV.noS rfl rfl ?_
    refine RegV.noS rfl rfl ?_
    refine RegV.noS rfl rfl ?_
    refine RegV.p0 rfl rfl rfl ?_
    refine RegV.p0 rfl rfl rfl ?_
    refine RegV.noS rfl rfl ?_
    refine RegV.noS rfl rfl ?_
    refine RegV.noS rfl rfl ?_
    refine RegV.noS rfl rfl ?_
    refine RegV.noS rfl rfl ?_
    refine RegV.noS rfl rfl ?_
    refine RegV.noS rfl rfl ?_
    refine RegV.p0 rfl rfl rfl ?_
    refine RegV.p0 rfl rfl rfl ?_
    refine RegV.noS rfl rfl ?_
    refine RegV.noS rfl rfl ?_
    refine RegV.noS rfl rfl ?_
    refine RegV.p0 rfl rfl rfl ?_
    refine RegV.p0 rfl rfl rfl ?_
    refine RegV.nil0 ?_
    have hr := Option.some.inj h
    subst hr
    exact AWc.ret (canQ (N := 30) (k := 0) (l' := [(4, (.d (.bool false)))]) (H' := []) rfl ⟨rfl, [], [], rfl, rfl, ⟨⟨_, rfl, (.refl _)⟩, rfl, trivial⟩,  trivial⟩ (doneA (.inr rfl) rfl ⟨trivial, trivial⟩ (.refl _) hasNil))
/-- courant/couranthelp.CopyBytes -/
def C97 (N : Nat → Nat) : AFunc := { n := 5, params := 1, res := [.tmp 2], body :=
 (.seq (.region false [⟨(some 2), .mv (.k .nils), none, []⟩])
  (.seq (.region false [⟨(some 3), .mv (.t 0), none, []⟩,
    ⟨(some 4), .app (.k .nils) (.t 3) 1 1 [(.int .u8 0)], none, [0]⟩,
    ⟨(some 2), .mv (.t 4), none, [1, 0]⟩])
   .ret)) }
def HC97 (P : Program) (N : Nat → Nat) : Prop := HasF P (N 97) (C97 N)
def f97 (k : Nat) (a0 : (List UInt8)) : Option Unit := gd (a0.length * 1 ≤ 281474976710656) (some ())
theorem F97 {P : Program} {N : Nat → Nat} (hmix : P.follows .mixedOrders = true) (hc : HC97 P N) {k : Nat} {a0 : (List UInt8)} {r : Unit} (h : f97 k a0 = some r) :
    ACalls P (N 97) [(.d (.sl (List.map byteD a0)))] [] (.ap 0 1 (List.map byteD a0)) [(0, (.tok ((List.map byteD a0).length * 1)))] := by
  refine acalls_canon (F := C97 N) hc 0 1 rfl ?_
  unfold f97 at h
  dsimp only [C97, startL]
  refine AWc.seq ?_
  refine AWc.rg hmix rfl rfl ?_
  refine RegV.p0 rfl rfl rfl ?_
  refine RegV.nil0 ?_
  refine AWc.seq ?_
  refine AWc.rg hmix rfl rfl ?_
  refine RegV.p0 rfl rfl rfl ?_
  obtain ⟨b9, h⟩ := gd_some h
  refine RegV.appN (ys := a0) (e := byteD) rfl rfl rfl (fun _ => rfl) rfl rfl b9 rfl rfl ?_
  refine RegV.p0 rfl rfl rfl ?_
  refine RegV.nil0 ?_
  have hr := Option.some.inj h
  subst hr
  exact AWc.ret (canQ (N := 5) (k := 1) (l' := [(2, (.ap 0 1 (List.map byteD a0)))]) (H' := [(0, (.tok ((List.map byteD a0).length * 1)))]) rfl ⟨rfl, [], [], rfl, rfl, ⟨⟨_, rfl, (.refl _)⟩, rfl, trivial⟩, ⟨⟨_, rfl, (.refl _)⟩, rfl, rfl, trivial⟩⟩ (doneA (.inr rfl) rfl ⟨trivial, trivial⟩ (.refl _) (hasCons rfl hasNil)))
/-- courant/courantlaw17.CrcParts -/
def C218 (N : Nat → Nat) : AFunc := { n := 26, params := 2, res := [.tmp 4], body :=
 (.seq (.region false [⟨(some 4), .mv (.k (.d (.bool false))), none, []⟩])
  (.seq (.region false [⟨(some 5), .call (.k (.d (.fn (N 217)))) [], none, []⟩,
    ⟨(some 6), .mv (.t 5), none, [0]⟩,
    ⟨(some 7), .mv (.t 0), (some (6, true)), [1]⟩,
    ⟨(some 8), .call (.k (.d (.fn (N 97)))) [(.t 7)], (some (6, true)), [2, 1]⟩,
    ⟨(some 9), .mv (.t 1), (some (6, true)), [1]⟩,
    ⟨(some 10), .app (.t 8) (.t 9) 1 1 [(.int .u8 0)], (some (6, true)), [3, 4, 1]⟩,
    ⟨(some 11), .call (.k (.d (.fn (N 263)))) [(.t 10)], (some (6, true)), [5, 1]⟩,
    ⟨(some 12), .mv (.t 0), (some (6, true)), [1]⟩,
    ⟨(some 13), .call (.k (.d (.fn (N 263)))) [(.t 12)], (some (6, true)), [7, 6, 1]⟩,
    ⟨(some 14), .mv (.t 1), (some (6, true)), [1]⟩,
    ⟨(some 15), .call (.k (.d (.fn (N 264)))) [(.t 13), (.t 14)], (some (6, true)), [8, 9, 1]⟩,
    ⟨(some 16), .bin .eql (.t 11) (.t 15), (some (6, true)), [6, 10, 1]⟩,
    ⟨(some 17), .pick (.t 6) (.t 16) (.k (.d (.bool false))), none, [1, 11]⟩,
    ⟨(some 18), .mv (.t 17), none, [12, 10]⟩,
    ⟨(some 19), .mv (.t 0), (some (18, true)), [13]⟩,
    ⟨(some 20), .call (.k (.d (.fn (N 263)))) [(.t 19)], (some (18, true)), [14, 13]⟩,
    ⟨(some 21), .call (.k (.d (.fn (N 264)))) [(.t 20), (.k .nils)], (some (18, true)), [15, 13]⟩,
    ⟨(some 22), .mv (.t 0), (some (18, true)), [13]⟩,
    ⟨(some 23), .call (.k (.d (.fn (N 263)))) [(.t 22)], (some (18, true)), [17, 16, 13]⟩,
    ⟨(some 24), .bin .eql (.t 21) (.t 23), (some (18, true)), [16, 18, 13]⟩,
    ⟨(some 25), .pick (.t 18) (.t 24) (.k (.d (.bool false))), none, [13, 19]⟩,
    ⟨(some 4), .mv (.t 25), none, [20, 18, 0, 1, 2, 3, 4, 5, 6, 7, 8, 9, 10, 11, 12, 13, 14, 15, 16, 17, 19]⟩])
   .ret)) }
def HC218 (P : Program) (N : Nat → Nat) : Prop := HasF P (N 218) (C218 N) ∧ HC217 P N ∧ HC97 P N ∧ HC263 P N ∧ HC264 P N
def f218 (k : Nat) (a0 : (List UInt8)) (a1 : (List UInt8)) : Option Bool := (f217 k).bind fun r8 => cond r8 ((f97 k a0).bind fun r11 => gd ((a0.length + a1.length) * 2 * 1 ≤ 281474976710656) ((f263 k (a0 ++ a1)).bind fun r14 => (f263 k a0).bind fun r16 => (f264 k r16 a1).bind fun r18 => cond (decide (r14 = r18)) ((f263 k a0).bind fun r23 => (f264 k r23 ([] : List UInt8)).bind fun r24 => (f263 k a0).bind fun r26 => some (decide (r24 = r26))) (some false))) (some false)
theorem F218 {P : Program} {N : Nat → Nat} (hmix : P.follows .mixedOrders = true) (hc : HC218 P N) {k : Nat} {a0 : (List UInt8)} {a1 : (List UInt8)} {r : Bool} (h : f218 k a0 a1 = some r) :
    ACalls P (N 218) [(.d (.sl (List.map byteD a0))), (.d (.sl (List.map byteD a1)))] [] (.d (.bool r)) [] := by
  refine acalls_canon (F := C218 N) hc.1 0 0 rfl ?_
  unfold f218 at h
  dsimp only [C218, startL]
  refine AWc.seq ?_
  refine AWc.rg hmix rfl rfl ?_
  refine RegV.p0 rfl rfl rfl ?_
  refine RegV.nil0 ?_
  refine AWc.seq ?_
  refine AWc.rg hmix rfl rfl ?_
  obtain ⟨r8, e8, h⟩ := bind_some h
  refine RegV.call0 (F217 hmix hc.2.1 e8) rfl rfl rfl rfl .nil rfl ?_
  refine RegV.p0 rfl rfl rfl ?_
  refine RegV.split (fun c9 => ?_) (fun c9 => ?_)
  · have h := cond_pos c9 h
    refine RegV.p0 rfl rfl rfl ?_
    obtain ⟨r11, e11, h⟩ := bind_some h
    refine RegV.callS (q := false) (H' := [(0, (.tok ((List.map byteD a0).length * 1)))]) (c' := 1) (show ACalls P (N 97) [(.d (.sl (List.map byteD a0)))] [] (.ap 0 1 (List.map byteD a0)) [(0, (.tok ((List.map byteD a0).length * 1)))] from ACalls.use (F97 hmix hc.2.2.1 e11) [(0, 0)] 1 rfl) rfl rfl rfl rfl (.cons (.refl _) .nil) (.refl _) (fun h => by cases h) rfl hasNil rfl rfl rfl rfl ?_
    refine RegV.p0 rfl rfl rfl ?_
    obtain ⟨b13, h⟩ := gd_some h
    refine RegV.appA (xs := a0) (ys := a1) (e := byteD) (H1 := []) rfl rfl rfl rfl (fun _ => rfl) rfl rfl b13 rfl rfl rfl ?_
    obtain ⟨r14, e14, h⟩ := bind_some h
    refine RegV.call0 (F263 hmix hc.2.2.2.1 e14) rfl rfl rfl rfl (.cons (.sl rfl) .nil) rfl ?_
    refine RegV.p0 rfl rfl rfl ?_
    obtain ⟨r16, e16, h⟩ := bind_some h
    refine RegV.call0 (F263 hmix hc.2.2.2.1 e16) rfl rfl rfl rfl (.cons (.refl _) .nil) rfl ?_
    refine RegV.p0 rfl rfl rfl ?_
    obtain ⟨r18, e18, h⟩ := bind_some h
    refine RegV.call0 (F264 hmix hc.2.2.2.2 e18) rfl rfl rfl rfl (.cons (.refl _) (.cons (.refl _) .nil)) rfl ?_
    refine RegV.p0 (v := (.d (.bool (decide (r14 = r18))))) rfl rfl rfl ?_
    refine RegV.p0 rfl rfl rfl ?_
    refine RegV.p0 rfl rfl rfl ?_
    refine RegV.split (fun c21 => ?_) (fun c21 => ?_)
    · have h := cond_pos c21 h
      refine RegV.p0 rfl rfl rfl ?_
      obtain ⟨r23, e23, h⟩ := bind_some h
      refine RegV.call0 (F263 hmix hc.2.2.2.1 e23) rfl rfl rfl rfl (.cons (.refl _) .nil) rfl ?_
      obtain ⟨r24, e24, h⟩ := bind_some h
      refine RegV.call0 (F264 hmix hc.2.2.2.2 e24) rfl rfl rfl rfl (.cons (.refl _) (.cons (.sl rfl) .nil)) rfl ?_
      refine RegV.p0 rfl rfl rfl ?_
      obtain ⟨r26, e26, h⟩ := bind_some h
      refine RegV.call0 (F263 hmix hc.2.2.2.1 e26) rfl rfl rfl rfl (.cons (.refl _) .nil) rfl ?_
      refine RegV.p0 (v := (.d (.bool (decide (r24 = r26))))) rfl rfl rfl ?_
      refine RegV.p0 rfl rfl rfl ?_
      refine RegV.p0 rfl rfl rfl ?_
      refine RegV.nil0 ?_
      have hr := Option.some.inj h
      subst hr
      exact AWc.ret (canQ (N := 26) (k := 0) (l' := [(4, (.d (.bool (decide (r24 = r26)))))]) (H' := []) rfl ⟨rfl, [], [], rfl, rfl, ⟨⟨_, rfl, (.refl _)⟩, rfl, trivial⟩,  trivial⟩ (doneA (.inr rfl) rfl ⟨trivial, trivial⟩ (.refl _) hasNil))
    · have h := cond_neg c21 h
      refine RegV.noS rfl rfl ?_
      refine RegV.noS rfl rfl ?_
      refine RegV.noS rfl rfl ?_
      refine RegV.noS rfl rfl ?_
      refine RegV.noS rfl rfl ?_
      refine RegV.noS rfl rfl ?_
      refine RegV.p0 rfl rfl rfl ?_
      refine RegV.p0 rfl rfl rfl ?_
      refine RegV.nil0 ?_
      have hr := Option.some.inj h
      subst hr
      exact AWc.ret (canQ (N := 26) (k := 0) (l' := [(4, (.d (.bool false)))]) (H' := []) rfl ⟨rfl, [], [], rfl, rfl, ⟨⟨_, rfl, (.refl _)⟩, rfl, trivial⟩,  trivial⟩ (doneA (.inr rfl) rfl ⟨trivial, trivial⟩ (.refl _) hasNil))
  · have h := cond_neg c9 h
    refine RegV.noS rfl rfl ?_
    refine RegV.noS rfl rfl ?_
    refine RegV.noS rfl rfl ?_
    refine RegV.noS rfl rfl ?_
    refine RegV.noS rfl rfl ?_
    refine RegV.noS rfl rfl ?_
    refine RegV.noS rfl rfl ?_
    refine RegV.noS rfl rfl ?_
    refine RegV.noS rfl rfl ?_
    refine RegV.noS rfl rfl ?_
    refine RegV.p0 rfl rfl rfl ?_
    refine RegV.p0 rfl rfl rfl ?_
    refine RegV.noS rfl rfl ?_
    refine RegV.noS rfl rfl ?_
    refine RegV.noS rfl rfl ?_
    refine RegV.noS rfl rfl ?_
    refine RegV.noS rfl rfl ?_
    refine RegV.noS rfl rfl ?_
    refine RegV.p0 rfl rfl rfl ?_
    refine RegV.p0 rfl rfl rfl ?_
    refine RegV.nil0 ?_
    have hr := Option.some.inj h
    subst hr
    exact AWc.ret (canQ (N := 26) (k := 0) (l' := [(4, (.d (.bool false)))]) (H' := []) rfl ⟨rfl, [], [], rfl, rfl, ⟨⟨_, rfl, (.refl _)⟩, rfl, trivial⟩,  trivial⟩ (doneA (.inr rfl) rfl ⟨trivial, trivial⟩ (.refl _) hasNil))
def HC97v2 (P : Program) (N : Nat → Nat) : Prop := HasF P (N 97) (C97 N)
def f97v2 (k : Nat) (a0 : (List UInt8)) : Option Unit := gd (a0.length * 1 ≤ 281474976710656) (some ())
theorem F97v2 {P : Program} {N : Nat → Nat} (hmix : P.follows .mixedOrders = true) (hc : HC97v2 P N) {k : Nat} {a0 : (List UInt8)} {r : Unit} (h : f97v2 k a0 = some r) :
    ACalls P (N 97) [(.d (.sl (List.map byteD a0)))] [] (.row 0 1 a0.length) [(0, (rowO byteD a0))] := by
  refine acalls_canon (F := C97 N) hc 0 1 rfl ?_
  unfold f97v2 at h
  dsimp only [C97, startL]
  refine AWc.seq ?_
  refine AWc.rg hmix rfl rfl ?_
  refine RegV.p0 rfl rfl rfl ?_
  refine RegV.nil0 ?_
  refine AWc.seq ?_
  refine AWc.rg hmix rfl rfl ?_
  refine RegV.p0 rfl rfl rfl ?_
  obtain ⟨b9, h⟩ := gd_some h
  refine RegV.appR (ys := a0) (e := byteD) rfl rfl rfl byteD_ok rfl rfl b9 rfl rfl ?_
  refine RegV.p0 rfl rfl rfl ?_
  refine RegV.nil0 ?_
  have hr := Option.some.inj h
  subst hr
  exact AWc.ret (canQ (N := 5) (k := 1) (l' := [(2, (.row 0 1 a0.length))]) (H' := [(0, (rowO byteD a0))]) rfl ⟨rfl, [], [], rfl, rfl, ⟨⟨_, rfl, (.refl _)⟩, rfl, trivial⟩, ⟨⟨_, rfl, (.refl _)⟩, rfl, rfl, trivial⟩⟩ (doneA (.inr rfl) rfl ⟨trivial, trivial⟩ (.refl _) (hasCons rfl hasNil)))
def HC266v2 (P : Program) (N : Nat → Nat) : Prop := HasF P (N 266) (C266 N)
def f266v2 (k : Nat) (a0 : (List UInt8)) (a1 : Nat) : Option Unit := some ()
theorem F266v2 {P : Program} {N : Nat → Nat} (hmix : P.follows .mixedOrders = true) (hc : HC266v2 P N) {k : Nat} {a0 : (List UInt8)} {a1 : Nat} {r : Unit} (h : f266v2 k a0 a1 = some r) :
    ACalls P (N 266) [(.row 0 1 a1)] [(0, (rowO byteD a0))] (.fn (N 267) [(.ptr 1 0)]) [(1, (.cells [(.row 0 1 a1)])), (0, (rowO byteD a0))] := by
  refine acalls_canon (F := C266 N) hc 1 2 rfl ?_
  unfold f266v2 at h
  dsimp only [C266, startL]
  refine AWc.seq ?_
  refine AWc.rg hmix rfl rfl ?_
  refine RegV.evS (own := false) (v := (.ptr 1 0)) (H' := [(1, (.cells [(.row 0 1 a1)])), (0, (rowO byteD a0))]) (c' := 2) rfl rfl trivial rfl rfl rfl rfl rfl rfl ?_
  refine RegV.p0 rfl rfl rfl ?_
  refine RegV.nil0 ?_
  refine AWc.seq ?_
  refine AWc.rg hmix rfl rfl ?_
  refine RegV.p0 (v := (.fn (N 267) [(.ptr 1 0)])) rfl rfl rfl ?_
  refine RegV.p0 rfl rfl rfl ?_
  refine RegV.nil0 ?_
  have hr := Option.some.inj h
  subst hr
  exact AWc.ret (canQ (N := 4) (k := 2) (l' := [(2, (.fn (N 267) [(.ptr 1 0)]))]) (H' := [(1, (.cells [(.row 0 1 a1)])), (0, (rowO byteD a0))]) rfl ⟨rfl, [], [], rfl, rfl, ⟨⟨_, rfl, (.refl _)⟩, rfl, trivial⟩, ⟨⟨_, rfl, (.refl _)⟩, rfl, rfl, ⟨⟨_, rfl, (.refl _)⟩, rfl, rfl, trivial⟩⟩⟩ (doneA (.inr rfl) rfl ⟨trivial, trivial⟩ (.refl _) (hasCons rfl (hasCons rfl hasNil))))
def HC267v2 (P : Program) (N : Nat → Nat) : Prop := HasF P (N 267) (C267 N) ∧ HCb264_25 P N
def f267v2_l7 (a3 : Nat) (a2 : (List UInt8)) (a0 : (List Int)) : Nat → Int → Int → Option (LR2 Int Unit Int)
  | 0, _, _ => none
  | k + 1, y7_1, y7_2 => cond (decide (y7_1 < ((a3 : Nat) : Int))) (gd (0 ≤ y7_1 ∧ y7_1 < ((a3 : Nat) : Int)) (gd ((y7_1).toNat < a2.length) ((b264_25 k a0 y7_2 (List.getD a2 (y7_1).toNat default)).bind fun r30 => f267v2_l7 a3 a2 a0 k (IntKind.i64.wrap (y7_1 + (1 : Int))) (bitsA .xor .u32 (Int.fdiv y7_2 (2 ^ (min ((8 : Int)).toNat IntKind.u32.bits))) (List.getD a0 ((bitsA .xor .u8 (IntKind.u8.wrap y7_2) (((List.getD a2 (y7_1).toNat default).toNat : Nat) : Int))).toNat default))))) (some (.b0 y7_2))
def f267v2 (k : Nat) (a0 : (List Int)) (a1 : Int) (a2 : (List UInt8)) (a3 : Nat) : Option Int := (f267v2_l7 a3 a2 a0 k (0 : Int) a1).bind fun o7 => match o7 with | .b0 x7_1 => some x7_1 | _ => none
theorem F267v2 {P : Program} {N : Nat → Nat} (hmix : P.follows .mixedOrders = true) (hc : HC267v2 P N) {asg0 bd0 : Code} (ha0 : compCode P asg0 = L264_0a N) (hb0 : compCode P bd0 = L264_0b N) {k : Nat} {a0 : (List Int)} {a1 : Int} {a2 : (List UInt8)} {a3 : Nat} {r : Int} (h : f267v2 k a0 a1 a2 a3 = some r) :
    ACalls P (N 267) [(.lf 0), (.ptr 3 0)] [(0, (.lp 25 [(5, (.ptr 1 0)), (6, (.ptr 2 0))] [13] asg0 bd0 .ready none)), (1, (cellsO (D.int .u32) a0)), (2, (.cells [(.d (.int .u32 a1))])), (3, (.cells [(.row 4 1 a3)])), (4, (rowO byteD a2))] (.tup []) [(0, (.lp 25 [(5, (.ptr 1 0)), (6, (.ptr 2 0))] [13] asg0 bd0 .ready none)), (1, (cellsO (D.int .u32) a0)), (2, (.cells [(.d (.int .u32 r))])), (3, (.cells [(.row 4 1 a3)])), (4, (rowO byteD a2))] := by
  refine acalls_canon (F := C267 N) hc.1 5 5 rfl ?_
  unfold f267v2 at h
  dsimp only [C267, startL]
  refine AWc.seq ?_
  refine AWc.rg hmix rfl rfl ?_
  refine RegV.ld (v := (.row 4 1 a3)) (H' := [(3, (.cells [(.row 4 1 a3)])), (0, (.lp 25 [(5, (.ptr 1 0)), (6, (.ptr 2 0))] [13] asg0 bd0 .ready none)), (1, (cellsO (D.int .u32) a0)), (2, (.cells [(.d (.int .u32 a1))])), (4, (rowO byteD a2))]) rfl rfl trivial rfl rfl rfl rfl rfl ?_
  refine RegV.lenR (len := a3) rfl rfl rfl ?_
  refine RegV.p0 rfl rfl rfl ?_
  refine RegV.nil0 ?_
  obtain ⟨o7, h7, h⟩ := bind_some h
  refine AWc.block ?_
  refine AWc.loopK (N := 16) 5 (fun (x : (Int × Int)) => [(0, (.lf 0)), (5, (.row 4 1 a3)), (6, (.d (.int .i64 ((a3 : Nat) : Int)))), (7, (.d (.int .i64 x.1)))]) (fun x => [(0, (.lp 25 [(5, (.ptr 1 0)), (6, (.ptr 2 0))] [13] asg0 bd0 .ready none)), (4, (rowO byteD a2)), (1, (cellsO (D.int .u32) a0)), (2, (.cells [(.d (.int .u32 x.2))])), (3, (.cells [(.row 4 1 a3)]))]) (fun k x => f267v2_l7 a3 a2 a0 k x.1 x.2 = some o7) k ((0 : Int), a1) rfl_le (fun x hx => by cases hx) h7 ⟨rfl, [], [], rfl, rfl, ⟨⟨_, rfl, (.refl _)⟩, rfl, ⟨⟨_, rfl, (.refl _)⟩, rfl, ⟨⟨_, rfl, (.refl _)⟩, rfl, ⟨⟨_, rfl, (.refl _)⟩, rfl, trivial⟩⟩⟩⟩, ⟨⟨_, rfl, (.refl _)⟩, rfl, rfl, ⟨⟨_, rfl, (.refl _)⟩, rfl, rfl, ⟨⟨_, rfl, (.refl _)⟩, rfl, rfl, ⟨⟨_, rfl, (.refl _)⟩, rfl, rfl, ⟨⟨_, rfl, (.refl _)⟩, rfl, rfl, trivial⟩⟩⟩⟩⟩⟩ ?_
  clear h7
  intro k
  rintro ⟨y7_1, y7_2⟩ h7
  dsimp only at h7 ⊢
  rw [f267v2_l7] at h7
  refine AWc.seq ?_
  refine AWc.rg hmix rfl rfl ?_
  refine RegV.p0 (v := (.d (.bool (decide (y7_1 < ((a3 : Nat) : Int)))))) rfl rfl rfl ?_
  refine RegV.nil0 ?_
  refine AWc.seq ?_
  refine AWc.cond rfl (fun c14 => ?_) (fun c14 => ?_)
  · have h7 := cond_pos c14 h7
    refine AWc.skip ?_
    refine AWc.seq ?_
    refine AWc.block ?_
    refine AWc.seq ?_
    refine AWc.rg hmix rfl rfl ?_
    obtain ⟨b22, h7⟩ := gd_some h7
    refine RegV.iaR (z := 1) rfl rfl (fun _ => rfl) b22 rfl ?_
    obtain ⟨b23, h7⟩ := gd_some h7
    refine RegV.ldR (e := byteD) (xs := a2) (i := (y7_1).toNat) (H' := [(4, (rowO byteD a2)), (0, (.lp 25 [(5, (.ptr 1 0)), (6, (.ptr 2 0))] [13] asg0 bd0 .ready none)), (1, (cellsO (D.int .u32) a0)), (2, (.cells [(.d (.int .u32 y7_2))])), (3, (.cells [(.row 4 1 a3)]))]) rfl rfl rfl byteD_ok rfl b23 rfl rfl rfl rfl ?_
    refine RegV.p0 rfl rfl rfl ?_
    refine RegV.nil0 ?_
    refine AWc.seq ?_
    refine AWc.rg hmix rfl rfl ?_
    refine RegV.p0 rfl rfl rfl ?_
    refine RegV.p0 rfl rfl rfl ?_
    obtain ⟨r30, e30, h7⟩ := bind_some h7
    refine RegV.yield (H' := [(0, (.lp 25 [(5, (.ptr 1 0)), (6, (.ptr 2 0))] [13] asg0 bd0 .ready none)), (1, (cellsO (D.int .u32) a0)), (2, (.cells [(.d (.int .u32 (bitsA .xor .u32 (Int.fdiv y7_2 (2 ^ (min ((8 : Int)).toNat IntKind.u32.bits))) (List.getD a0 ((bitsA .xor .u8 (IntKind.u8.wrap y7_2) (((List.getD a2 (y7_1).toNat default).toNat : Nat) : Int))).toNat default))))])), (4, (rowO byteD a2)), (3, (.cells [(.row 4 1 a3)]))]) (c' := 5) (show ARound P 0 [(.d (.int .u8 (((List.getD a2 (y7_1).toNat default).toNat : Nat) : Int)))] [(0, (.lp 25 [(5, (.ptr 1 0)), (6, (.ptr 2 0))] [13] asg0 bd0 .ready none)), (1, (cellsO (D.int .u32) a0)), (2, (.cells [(.d (.int .u32 y7_2))]))] (.d (.bool true)) [(0, (.lp 25 [(5, (.ptr 1 0)), (6, (.ptr 2 0))] [13] asg0 bd0 .ready none)), (1, (cellsO (D.int .u32) a0)), (2, (.cells [(.d (.int .u32 (bitsA .xor .u32 (Int.fdiv y7_2 (2 ^ (min ((8 : Int)).toNat IntKind.u32.bits))) (List.getD a0 ((bitsA .xor .u8 (IntKind.u8.wrap y7_2) (((List.getD a2 (y7_1).toNat default).toNat : Nat) : Int))).toNat default))))]))] from ARound.use (B264_25 hmix hc.2 ha0 hb0 e30) [(0, 0), (1, 1), (2, 2)] 3 rfl) rfl rfl rfl (.cons (.refl _) .nil) rfl (hasCons rfl (hasCons rfl (hasCons rfl hasNil))) rfl rfl rfl rfl ?_
    refine RegV.p0 (v := (.d (.bool false))) rfl rfl rfl ?_
    refine RegV.nil0 ?_
    refine AWc.cond rfl (fun hc => by cases hc) (fun _ => ?_)
    refine AWc.skip ?_
    refine AWc.rg hmix rfl rfl ?_
    refine RegV.p0 (v := (.d (.int .i64 (IntKind.i64.wrap (y7_1 + (1 : Int)))))) rfl rfl rfl ?_
    refine RegV.p0 rfl rfl rfl ?_
    refine RegV.nil0 ?_
    exact ⟨((IntKind.i64.wrap (y7_1 + (1 : Int))), (bitsA .xor .u32 (Int.fdiv y7_2 (2 ^ (min ((8 : Int)).toNat IntKind.u32.bits))) (List.getD a0 ((bitsA .xor .u8 (IntKind.u8.wrap y7_2) (((List.getD a2 (y7_1).toNat default).toNat : Nat) : Int))).toNat default))), h7, ⟨rfl, [], [], rfl, rfl, ⟨⟨_, rfl, (.refl _)⟩, rfl, ⟨⟨_, rfl, (.refl _)⟩, rfl, ⟨⟨_, rfl, (.refl _)⟩, rfl, ⟨⟨_, rfl, (.refl _)⟩, rfl, trivial⟩⟩⟩⟩, ⟨⟨_, rfl, (.refl _)⟩, rfl, rfl, ⟨⟨_, rfl, (.refl _)⟩, rfl, rfl, ⟨⟨_, rfl, (.refl _)⟩, rfl, rfl, ⟨⟨_, rfl, (.refl _)⟩, rfl, rfl, ⟨⟨_, rfl, (.refl _)⟩, rfl, rfl, trivial⟩⟩⟩⟩⟩⟩⟩
  · have h7 := cond_neg c14 h7
    cases h7
    dsimp only at h
    refine AWc.exit ?_
    refine inBlk_eq ?_
    have hr := Option.some.inj h
    subst hr
    exact canQ (N := 16) (k := 5) (l' := []) (H' := [(0, (.lp 25 [(5, (.ptr 1 0)), (6, (.ptr 2 0))] [13] asg0 bd0 .ready none)), (1, (cellsO (D.int .u32) a0)), (2, (.cells [(.d (.int .u32 y7_2))])), (3, (.cells [(.row 4 1 a3)])), (4, (rowO byteD a2))]) rfl ⟨rfl, [], [], rfl, rfl,  trivial, ⟨⟨_, rfl, (.refl _)⟩, rfl, rfl, ⟨⟨_, rfl, (.refl _)⟩, rfl, rfl, ⟨⟨_, rfl, (.refl _)⟩, rfl, rfl, ⟨⟨_, rfl, (.refl _)⟩, rfl, rfl, ⟨⟨_, rfl, (.refl _)⟩, rfl, rfl, trivial⟩⟩⟩⟩⟩⟩ (doneA (.inl rfl) rfl trivial (.refl _) (hasCons rfl (hasCons rfl (hasCons rfl (hasCons rfl (hasCons rfl hasNil))))))
def HC264v2 (P : Program) (N : Nat → Nat) : Prop := HasF P (N 264) (C264 N) ∧ HC265 P N ∧ HC266v2 P N ∧ HC267v2 P N
def f264v2 (k : Nat) (a0 : Int) (a1 : (List UInt8)) (a2 : Nat) : Option Int := (f265 k).bind fun r8 => gd ((List.replicate 256 (default : Int)).length * 1 = 256 ∧ r8.length * 1 = 256) ((f266v2 k a1 a2).bind fun r23 => (f267v2 k r8 (bitsA .xor .u32 a0 (4294967295 : Int)) a1 a2).bind fun rf25 => some (bitsA .xor .u32 rf25 (4294967295 : Int)))
theorem F264v2 {P : Program} {N : Nat → Nat} (hmix : P.follows .mixedOrders = true) (hc : HC264v2 P N) {k : Nat} {a0 : Int} {a1 : (List UInt8)} {a2 : Nat} {r : Int} (h : f264v2 k a0 a1 a2 = some r) :
    ACalls P (N 264) [(.d (.int .u32 a0)), (.row 0 1 a2)] [(0, (rowO byteD a1))] (.d (.int .u32 r)) [(0, (rowO byteD a1))] := by
  refine acalls_canon (F := C264 N) hc.1 1 1 rfl ?_
  unfold f264v2 at h
  dsimp only [C264, startL]
  refine AWc.seq ?_
  refine AWc.rg hmix rfl rfl ?_
  refine RegV.p0 rfl rfl rfl ?_
  refine RegV.nil0 ?_
  refine AWc.seq ?_
  refine AWc.rg hmix rfl rfl ?_
  obtain ⟨r8, e8, h⟩ := bind_some h
  refine RegV.call0 (F265 hmix hc.2.1 e8) rfl rfl rfl rfl .nil rfl ?_
  refine RegV.newA (e := (D.int .u32)) (xs := (List.replicate 256 (default : Int))) rfl (by kernel_rfl) rfl rfl ?_
  obtain ⟨b10, h⟩ := gd_some h
  refine RegV.stA (e := (D.int .u32)) (xs := (List.replicate 256 (default : Int))) (ys := r8) (H' := [(1, (cellsO (D.int .u32) r8)), (0, (rowO byteD a1))]) rfl rfl rfl (int_ok _) rfl b10 rfl rfl rfl ?_
  refine RegV.nil0 ?_
  refine AWc.seq ?_
  refine AWc.rg hmix rfl rfl ?_
  refine RegV.p0 rfl rfl rfl ?_
  refine RegV.p0 (v := (.d (.int .u32 (bitsA .xor .u32 a0 (4294967295 : Int))))) rfl rfl rfl ?_
  refine RegV.evS (own := false) (v := (.ptr 2 0)) (H' := [(2, (.cells [(.d (.int .u32 (0 : Int)))])), (1, (cellsO (D.int .u32) r8)), (0, (rowO byteD a1))]) (c' := 3) rfl rfl trivial rfl rfl rfl rfl rfl rfl ?_
  refine RegV.evN (own := false) (H' := [(2, (.cells [(.d (.int .u32 (bitsA .xor .u32 a0 (4294967295 : Int))))])), (1, (cellsO (D.int .u32) r8)), (0, (rowO byteD a1))]) (c' := 3) rfl rfl (by exact ⟨rfl, Nat.le_of_ble_eq_true rfl, rfl⟩) rfl rfl rfl rfl ?_
  refine RegV.nil0 ?_
  refine AWc.seq ?_
  refine AWc.seq ?_
  refine AWc.rg hmix rfl rfl ?_
  refine RegV.p0 rfl rfl rfl ?_
  obtain ⟨r23, e23, h⟩ := bind_some h
  refine RegV.callS (q := false) (H' := [(3, (.cells [(.row 0 1 a2)])), (0, (rowO byteD a1)), (2, (.cells [(.d (.int .u32 (bitsA .xor .u32 a0 (4294967295 : Int))))])), (1, (cellsO (D.int .u32) r8))]) (c' := 4) (show ACalls P (N 266) [(.row 0 1 a2)] [(0, (rowO byteD a1))] (.fn (N 267) [(.ptr 3 0)]) [(3, (.cells [(.row 0 1 a2)])), (0, (rowO byteD a1))] from ACalls.use (F266v2 hmix hc.2.2.1 e23) [(0, 0), (1, 3)] 2 rfl) rfl rfl rfl rfl (.cons (.refl _) .nil) (.refl _) (fun h => by cases h) rfl (hasCons rfl hasNil) rfl rfl rfl rfl ?_
  refine RegV.nil0 ?_
  refine AWc.block ?_
  refine AWc.rangeFunc [(5, (.ptr 1 0)), (6, (.ptr 2 0))] rfl rfl rfl rfl ⟨rfl, rfl, trivial⟩ (fun asgU25 bdU25 haU25 hbU25 => ?_)
  obtain ⟨rf25, ef25, h⟩ := bind_some h
  refine rfN (H' := [(1, (cellsO (D.int .u32) r8)), (2, (.cells [(.d (.int .u32 rf25))])), (3, (.cells [(.row 0 1 a2)])), (0, (rowO byteD a1))]) (c' := 5) (show ACalls P (N 267) [(.lf 4), (.ptr 3 0)] [(4, (.lp 25 [(5, (.ptr 1 0)), (6, (.ptr 2 0))] [13] asgU25 bdU25 .ready none)), (1, (cellsO (D.int .u32) r8)), (2, (.cells [(.d (.int .u32 (bitsA .xor .u32 a0 (4294967295 : Int))))])), (3, (.cells [(.row 0 1 a2)])), (0, (rowO byteD a1))] (.tup []) [(4, (.lp 25 [(5, (.ptr 1 0)), (6, (.ptr 2 0))] [13] asgU25 bdU25 .ready none)), (1, (cellsO (D.int .u32) r8)), (2, (.cells [(.d (.int .u32 rf25))])), (3, (.cells [(.row 0 1 a2)])), (0, (rowO byteD a1))] from ACalls.use (F267v2 hmix hc.2.2.2 haU25 hbU25 ef25) [(0, 4), (1, 1), (2, 2), (3, 3), (4, 0)] 5 rfl) (.cons (.refl _) (.cons (.refl _) .nil)) (hasCons rfl (hasCons rfl (hasCons rfl (hasCons rfl (hasCons rfl hasNil))))) rfl rfl rfl rfl rfl ?_
  refine AWc.seq ?_
  refine AWc.rg hmix rfl rfl ?_
  refine RegV.ld (v := (.d (.int .u32 rf25))) (H' := [(2, (.cells [(.d (.int .u32 rf25))])), (1, (cellsO (D.int .u32) r8)), (3, (.cells [(.row 0 1 a2)])), (0, (rowO byteD a1))]) rfl rfl trivial rfl rfl rfl rfl rfl ?_
  refine RegV.p0 (v := (.d (.int .u32 (bitsA .xor .u32 rf25 (4294967295 : Int))))) rfl rfl rfl ?_
  refine RegV.p0 rfl rfl rfl ?_
  refine RegV.nil0 ?_
  have hr := Option.some.inj h
  subst hr
  exact AWc.ret (canQ (N := 25) (k := 1) (l' := [(4, (.d (.int .u32 (bitsA .xor .u32 rf25 (4294967295 : Int)))))]) (H' := [(0, (rowO byteD a1))]) rfl ⟨rfl, [], [], rfl, rfl, ⟨⟨_, rfl, (.refl _)⟩, rfl, trivial⟩, ⟨⟨_, rfl, (.refl _)⟩, rfl, rfl, trivial⟩⟩ (doneA (.inr rfl) rfl ⟨trivial, trivial⟩ (.refl _) (hasCons rfl hasNil)))
def HC263v2 (P : Program) (N : Nat → Nat) : Prop := HasF P (N 263) (C263 N) ∧ HC264v2 P N
def f263v2 (k : Nat) (a0 : (List UInt8)) (a1 : Nat) : Option Int := (f264v2 k (0 : Int) a0 a1).bind fun r9 => some r9
theorem F263v2 {P : Program} {N : Nat → Nat} (hmix : P.follows .mixedOrders = true) (hc : HC263v2 P N) {k : Nat} {a0 : (List UInt8)} {a1 : Nat} {r : Int} (h : f263v2 k a0 a1 = some r) :
    ACalls P (N 263) [(.row 0 1 a1)] [(0, (rowO byteD a0))] (.d (.int .u32 r)) [(0, (rowO byteD a0))] := by
  refine acalls_canon (F := C263 N) hc.1 1 1 rfl ?_
  unfold f263v2 at h
  dsimp only [C263, startL]
  refine AWc.seq ?_
  refine AWc.rg hmix rfl rfl ?_
  refine RegV.p0 rfl rfl rfl ?_
  refine RegV.nil0 ?_
  refine AWc.seq ?_
  refine AWc.rg hmix rfl rfl ?_
  refine RegV.p0 rfl rfl rfl ?_
  obtain ⟨r9, e9, h⟩ := bind_some h
  refine RegV.callS (q := true) (H' := [(0, (rowO byteD a0))]) (c' := 1) (show ACalls P (N 264) [(.d (.int .u32 (0 : Int))), (.row 0 1 a1)] [(0, (rowO byteD a0))] (.d (.int .u32 r9)) [(0, (rowO byteD a0))] from ACalls.use (F264v2 hmix hc.2 e9) [(0, 0)] 1 rfl) rfl rfl rfl rfl (.cons (.refl _) (.cons (.refl _) .nil)) (.refl _) (fun _ => rfl) rfl (hasCons rfl hasNil) rfl rfl rfl rfl ?_
  refine RegV.p0 rfl rfl rfl ?_
  refine RegV.nil0 ?_
  have hr := Option.some.inj h
  subst hr
  exact AWc.ret (canQ (N := 5) (k := 1) (l' := [(2, (.d (.int .u32 r9)))]) (H' := [(0, (rowO byteD a0))]) rfl ⟨rfl, [], [], rfl, rfl, ⟨⟨_, rfl, (.refl _)⟩, rfl, trivial⟩, ⟨⟨_, rfl, (.refl _)⟩, rfl, rfl, trivial⟩⟩ (doneA (.inr rfl) rfl ⟨trivial, trivial⟩ (.refl _) (hasCons rfl hasNil)))
/-- courant/courantlaw17.CrcBurst -/
def C219 (N : Nat → Nat) : AFunc := { n := 82, params := 3, res := [.tmp 6], body :=
 (.seq (.region false [⟨(some 6), .mv (.k (.d (.bool false))), none, []⟩])
  (.seq (.seq (.region false [⟨(some 12), .call (.k (.d (.fn (N 217)))) [], none, []⟩,
     ⟨(some 13), .un .not (.t 12), none, [0]⟩,
     ⟨(some 14), .mv (.t 13), none, [1, 0]⟩,
     ⟨(some 15), .mv (.t 0), (some (14, false)), [2]⟩,
     ⟨(some 16), .len (.t 15), (some (14, false)), [3, 2]⟩,
     ⟨(some 17), .bin .eql (.t 16) (.k (.d (.int .i64 0))), (some (14, false)), [4, 2]⟩,
     ⟨(some 18), .pick (.t 14) (.k (.d (.bool true))) (.t 17), none, [2, 5]⟩,
     ⟨(some 19), .mv (.t 18), none, [6, 2]⟩,
     ⟨(some 20), .mv (.t 2), (some (19, false)), [7]⟩,
     ⟨(some 21), .bin .eql (.t 20) (.k (.d (.int .u32 0))), (some (19, false)), [8, 7]⟩,
     ⟨(some 22), .pick (.t 19) (.k (.d (.bool true))) (.t 21), none, [7, 9]⟩,
     ⟨(some 23), .mv (.t 22), none, [10, 7]⟩,
     ⟨(some 24), .mv (.t 0), (some (23, false)), [11]⟩,
     ⟨(some 25), .len (.t 24), (some (23, false)), [12, 11]⟩,
     ⟨(some 26), .bin .gtr (.t 25) (.k (.d (.int .i64 1048576))), (some (23, false)), [13, 11]⟩,
     ⟨(some 27), .pick (.t 23) (.k (.d (.bool true))) (.t 26), none, [11, 14]⟩])
    (.cond (.t 27) (.seq (.region false [⟨(some 28), .call (.k (.d (.fn (N 217)))) [], none, []⟩,
       ⟨(some 6), .mv (.t 28), none, [0]⟩])
      .ret)
     (.skip)))
   (.seq (.region false [⟨(some 29), .mv (.t 0), none, []⟩,
     ⟨(some 30), .call (.k (.d (.fn (N 97)))) [(.t 29)], none, [0]⟩,
     ⟨(some 7), .mv (.t 30), none, [1, 0]⟩])
    (.seq (.region false [⟨(some 31), .mv (.t 1), none, []⟩,
      ⟨(some 32), .cvi .u64 (.t 31), none, [0]⟩,
      ⟨(some 33), .mv (.t 0), none, []⟩,
      ⟨(some 34), .len (.t 33), none, [2]⟩,
      ⟨(some 35), .bin .mul (.k (.d (.int .i64 8))) (.t 34), none, [3]⟩,
      ⟨(some 36), .cvi .u64 (.t 35), none, [4]⟩,
      ⟨(some 37), .bin .rem (.t 32) (.t 36), none, [1, 5]⟩,
      ⟨(some 38), .cvi .i64 (.t 37), none, [6]⟩,
      ⟨(some 8), .mv (.t 38), none, [7, 0, 1, 2, 3, 4, 5, 6]⟩])
     (.seq (.region false [⟨(some 9), .mv (.k (.d (.bool false))), none, []⟩])
      (.seq (.seq (.region false [⟨(some 10), .mv (.k (.d (.int .i64 0))), none, []⟩])
        (.block 0 (.loop (.seq (.seq (.region false [⟨(some 39), .mv (.t 10), none, []⟩,
             ⟨(some 40), .bin .lss (.t 39) (.k (.d (.int .i64 32))), none, [0]⟩,
             ⟨(some 41), .mv (.t 40), none, [1]⟩,
             ⟨(some 42), .mv (.t 8), (some (41, true)), [2]⟩,
             ⟨(some 43), .mv (.t 10), (some (41, true)), [2]⟩,
             ⟨(some 44), .bin .add (.t 42) (.t 43), (some (41, true)), [3, 4, 2]⟩,
             ⟨(some 45), .mv (.t 0), (some (41, true)), [2]⟩,
             ⟨(some 46), .len (.t 45), (some (41, true)), [6, 2]⟩,
             ⟨(some 47), .bin .mul (.k (.d (.int .i64 8))) (.t 46), (some (41, true)), [7, 2]⟩,
             ⟨(some 48), .bin .lss (.t 44) (.t 47), (some (41, true)), [5, 8, 2]⟩,
             ⟨(some 49), .pick (.t 41) (.t 48) (.k (.d (.bool false))), none, [2, 9]⟩])
            (.cond (.t 49) (.skip)
             (.exit 0)))
           (.seq (.block 1 (.seq (.region false [⟨(some 52), .mv (.t 2), none, []⟩,
               ⟨(some 53), .mv (.t 10), none, []⟩,
               ⟨(some 54), .cvi .u64 (.t 53), none, [1]⟩,
               ⟨(some 55), .bin .shr (.t 52) (.t 54), none, [0, 2]⟩,
               ⟨(some 56), .bin .and (.t 55) (.k (.d (.int .u32 1))), none, [3]⟩,
               ⟨(some 57), .bin .eql (.t 56) (.k (.d (.int .u32 1))), none, [4]⟩])
              (.cond (.t 57) (.seq (.region false [⟨(some 58), .mv (.t 8), none, []⟩,
                 ⟨(some 59), .mv (.t 10), none, []⟩,
                 ⟨(some 60), .bin .add (.t 58) (.t 59), none, [0, 1]⟩,
                 ⟨(some 11), .mv (.t 60), none, [2, 0, 1]⟩])
                (.seq (.region false [⟨(some 61), .mv (.t 7), none, []⟩,
                  ⟨(some 62), .mv (.t 11), none, []⟩,
                  ⟨(some 63), .bin .quo (.t 62) (.k (.d (.int .i64 8))), none, [1]⟩,
                  ⟨(some 64), .mv (.t 7), none, []⟩,
                  ⟨(some 65), .mv (.t 11), none, []⟩,
                  ⟨(some 66), .bin .quo (.t 65) (.k (.d (.int .i64 8))), none, [4]⟩,
                  ⟨(some 67), .iaddr (.t 64) (.t 66) 1, none, [3, 5]⟩,
                  ⟨(some 68), .load (.t 67) 1 false, none, [6]⟩,
                  ⟨(some 69), .mv (.t 11), none, []⟩,
                  ⟨(some 70), .bin .rem (.t 69) (.k (.d (.int .i64 8))), none, [8]⟩,
                  ⟨(some 71), .cvi .u64 (.t 70), none, [9]⟩,
                  ⟨(some 72), .bin .shl (.k (.d (.int .u8 1))) (.t 71), none, [10]⟩,
                  ⟨(some 73), .bin .xor (.t 68) (.t 72), none, [7, 11]⟩,
                  ⟨(some 74), .iaddr (.t 61) (.t 63) 1, none, [0, 2, 1, 3, 4, 5, 6, 7, 8, 9, 10, 11, 12]⟩,
                  ⟨none, .store (.t 74) (.t 73) 1, none, [13, 12, 0, 1, 2, 3, 4, 5, 6, 7, 8, 9, 10, 11]⟩])
                 (.region false [⟨(some 9), .mv (.k (.d (.bool true))), none, []⟩])))
               (.skip))))
            (.region false [⟨(some 50), .mv (.t 10), none, []⟩,
             ⟨(some 51), .bin .add (.t 50) (.k (.d (.int .i64 1))), none, [0]⟩,
             ⟨(some 10), .mv (.t 51), none, [1, 0]⟩]))))))
       (.seq (.region false [⟨(some 75), .mv (.t 7), none, []⟩,
         ⟨(some 76), .call (.k (.d (.fn (N 263)))) [(.t 75)], none, [0]⟩,
         ⟨(some 77), .mv (.t 0), none, []⟩,
         ⟨(some 78), .call (.k (.d (.fn (N 263)))) [(.t 77)], none, [2, 1]⟩,
         ⟨(some 79), .bin .neq (.t 76) (.t 78), none, [1, 3]⟩,
         ⟨(some 80), .mv (.t 9), none, []⟩,
         ⟨(some 81), .beq false (.t 79) (.t 80), none, [4, 5]⟩,
         ⟨(some 6), .mv (.t 81), none, [6, 3, 0, 1, 2, 4, 5]⟩])
        .ret))))))) }
def HC219 (P : Program) (N : Nat → Nat) : Prop := HasF P (N 219) (C219 N) ∧ HC217 P N ∧ HC97v2 P N ∧ HC263v2 P N ∧ HC263 P N
def f219_j126 (k : Nat) (a0 : (List UInt8)) (j126_1 : Bool) (j126_2 : (List UInt8)) : Option Bool := (f263v2 k j126_2 a0.length).bind fun r130 => (f263 k a0).bind fun r132 => some ((decide (r130 ≠ r132)) == j126_1)
def f219_l60 (a1 : Int) (a0 : (List UInt8)) (a2 : Int) : Nat → Bool → Int → (List UInt8) → Option (LR2 (Bool × (List UInt8)) Unit Bool)
  | 0, _, _, _ => none
  | k + 1, y60_1, y60_2, y60_3 => cond (decide (y60_2 < (32 : Int))) (cond (decide ((IntKind.i64.wrap ((IntKind.i64.wrap (Int.tmod (IntKind.u64.wrap a1) (IntKind.u64.wrap (IntKind.i64.wrap ((8 : Int) * ((a0.length : Nat) : Int)))))) + y60_2)) < (IntKind.i64.wrap ((8 : Int) * ((a0.length : Nat) : Int))))) (gd (0 ≤ (IntKind.u64.wrap y60_2)) (cond (decide ((bitsA .and .u32 (Int.fdiv a2 (2 ^ (min ((IntKind.u64.wrap y60_2)).toNat IntKind.u32.bits))) (1 : Int)) = (1 : Int))) (gd (0 ≤ (IntKind.i64.wrap (Int.tdiv (IntKind.i64.wrap ((IntKind.i64.wrap (Int.tmod (IntKind.u64.wrap a1) (IntKind.u64.wrap (IntKind.i64.wrap ((8 : Int) * ((a0.length : Nat) : Int)))))) + y60_2)) (8 : Int))) ∧ (IntKind.i64.wrap (Int.tdiv (IntKind.i64.wrap ((IntKind.i64.wrap (Int.tmod (IntKind.u64.wrap a1) (IntKind.u64.wrap (IntKind.i64.wrap ((8 : Int) * ((a0.length : Nat) : Int)))))) + y60_2)) (8 : Int))) < ((a0.length : Nat) : Int)) (gd (((IntKind.i64.wrap (Int.tdiv (IntKind.i64.wrap ((IntKind.i64.wrap (Int.tmod (IntKind.u64.wrap a1) (IntKind.u64.wrap (IntKind.i64.wrap ((8 : Int) * ((a0.length : Nat) : Int)))))) + y60_2)) (8 : Int)))).toNat < y60_3.length) (gd (0 ≤ (IntKind.u64.wrap (Int.tmod (IntKind.i64.wrap ((IntKind.i64.wrap (Int.tmod (IntKind.u64.wrap a1) (IntKind.u64.wrap (IntKind.i64.wrap ((8 : Int) * ((a0.length : Nat) : Int)))))) + y60_2)) (8 : Int)))) (gd (0 ≤ (IntKind.i64.wrap (Int.tdiv (IntKind.i64.wrap ((IntKind.i64.wrap (Int.tmod (IntKind.u64.wrap a1) (IntKind.u64.wrap (IntKind.i64.wrap ((8 : Int) * ((a0.length : Nat) : Int)))))) + y60_2)) (8 : Int))) ∧ (IntKind.i64.wrap (Int.tdiv (IntKind.i64.wrap ((IntKind.i64.wrap (Int.tmod (IntKind.u64.wrap a1) (IntKind.u64.wrap (IntKind.i64.wrap ((8 : Int) * ((a0.length : Nat) : Int)))))) + y60_2)) (8 : Int))) < ((a0.length : Nat) : Int)) (gd (((IntKind.i64.wrap (Int.tdiv (IntKind.i64.wrap ((IntKind.i64.wrap (Int.tmod (IntKind.u64.wrap a1) (IntKind.u64.wrap (IntKind.i64.wrap ((8 : Int) * ((a0.length : Nat) : Int)))))) + y60_2)) (8 : Int)))).toNat < y60_3.length) (f219_l60 a1 a0 a2 k true (IntKind.i64.wrap (y60_2 + (1 : Int))) (List.set y60_3 ((IntKind.i64.wrap (Int.tdiv (IntKind.i64.wrap ((IntKind.i64.wrap (Int.tmod (IntKind.u64.wrap a1) (IntKind.u64.wrap (IntKind.i64.wrap ((8 : Int) * ((a0.length : Nat) : Int)))))) + y60_2)) (8 : Int)))).toNat (u8 (bitsA .xor .u8 (((List.getD y60_3 ((IntKind.i64.wrap (Int.tdiv (IntKind.i64.wrap ((IntKind.i64.wrap (Int.tmod (IntKind.u64.wrap a1) (IntKind.u64.wrap (IntKind.i64.wrap ((8 : Int) * ((a0.length : Nat) : Int)))))) + y60_2)) (8 : Int)))).toNat default).toNat : Nat) : Int) (IntKind.u8.wrap ((1 : Int) * 2 ^ (min ((IntKind.u64.wrap (Int.tmod (IntKind.i64.wrap ((IntKind.i64.wrap (Int.tmod (IntKind.u64.wrap a1) (IntKind.u64.wrap (IntKind.i64.wrap ((8 : Int) * ((a0.length : Nat) : Int)))))) + y60_2)) (8 : Int)))).toNat IntKind.u8.bits)))))))))))) (f219_l60 a1 a0 a2 k y60_1 (IntKind.i64.wrap (y60_2 + (1 : Int))) y60_3))) (some (.b0 (y60_1, y60_3)))) (some (.b0 (y60_1, y60_3)))
def f219 (k : Nat) (a0 : (List UInt8)) (a1 : Int) (a2 : Int) : Option Bool := (f217 k).bind fun r9 => cond (!r9) ((f217 k).bind fun r29 => some r29) (cond (decide (((a0.length : Nat) : Int) = (0 : Int))) ((f217 k).bind fun r29 => some r29) (cond (decide (a2 = (0 : Int))) ((f217 k).bind fun r29 => some r29) (cond (decide (((a0.length : Nat) : Int) > (1048576 : Int))) ((f217 k).bind fun r29 => some r29) ((f97v2 k a0).bind fun r37 => gd ((IntKind.u64.wrap (IntKind.i64.wrap ((8 : Int) * ((a0.length : Nat) : Int)))) ≠ 0) ((f219_l60 a1 a0 a2 k false (0 : Int) a0).bind fun o60 => match o60 with | .b0 (x60_1, x60_2) => f219_j126 k a0 x60_1 x60_2 | _ => none)))))
theorem F219 {P : Program} {N : Nat → Nat} (hmix : P.follows .mixedOrders = true) (hc : HC219 P N) {k : Nat} {a0 : (List UInt8)} {a1 : Int} {a2 : Int} {r : Bool} (h : f219 k a0 a1 a2 = some r) :
    ACalls P (N 219) [(.d (.sl (List.map byteD a0))), (.d (.int .i64 a1)), (.d (.int .u32 a2))] [] (.d (.bool r)) [] := by
  refine acalls_canon (F := C219 N) hc.1 0 0 rfl ?_
  unfold f219 at h
  dsimp only [C219, startL]
  refine AWc.seq ?_
  refine AWc.rg hmix rfl rfl ?_
  refine RegV.p0 rfl rfl rfl ?_
  refine RegV.nil0 ?_
  refine AWc.seq ?_
  refine AWc.seq ?_
  refine AWc.rg hmix rfl rfl ?_
  obtain ⟨r9, e9, h⟩ := bind_some h
  refine RegV.call0 (F217 hmix hc.2.1 e9) rfl rfl rfl rfl .nil rfl ?_
  refine RegV.p0 (v := (.d (.bool (!r9)))) rfl rfl rfl ?_
  refine RegV.p0 rfl rfl rfl ?_
  refine RegV.split (fun c11 => ?_) (fun c11 => ?_)
  · have h := cond_pos c11 h
    refine RegV.noS rfl rfl ?_
    refine RegV.noS rfl rfl ?_
    refine RegV.noS rfl rfl ?_
    refine RegV.p0 rfl rfl rfl ?_
    refine RegV.p0 rfl rfl rfl ?_
    refine RegV.noS rfl rfl ?_
    refine RegV.noS rfl rfl ?_
    refine RegV.p0 rfl rfl rfl ?_
    refine RegV.p0 rfl rfl rfl ?_
    refine RegV.noS rfl rfl ?_
    refine RegV.noS rfl rfl ?_
    refine RegV.noS rfl rfl ?_
    refine RegV.p0 rfl rfl rfl ?_
    refine RegV.nil0 ?_
    refine AWc.cond rfl (fun _ => ?_) (fun hc => by cases hc)
    refine AWc.seq ?_
    refine AWc.rg hmix rfl rfl ?_
    obtain ⟨r29, e29, h⟩ := bind_some h
    refine RegV.call0 (F217 hmix hc.2.1 e29) rfl rfl rfl rfl .nil rfl ?_
    refine RegV.p0 rfl rfl rfl ?_
    refine RegV.nil0 ?_
    have hr := Option.some.inj h
    subst hr
    exact AWc.ret (canQ (N := 82) (k := 0) (l' := [(6, (.d (.bool r29)))]) (H' := []) rfl ⟨rfl, [], [], rfl, rfl, ⟨⟨_, rfl, (.refl _)⟩, rfl, trivial⟩,  trivial⟩ (doneA (.inr rfl) rfl ⟨trivial, trivial⟩ (.refl _) hasNil))
  · have h := cond_neg c11 h
    refine RegV.p0 rfl rfl rfl ?_
    refine RegV.len (xs := a0) (e := byteD) rfl rfl rfl rfl ?_
    refine RegV.p0 (v := (.d (.bool (decide (((a0.length : Nat) : Int) = (0 : Int)))))) rfl rfl rfl ?_
    refine RegV.p0 rfl rfl rfl ?_
    refine RegV.p0 rfl rfl rfl ?_
    refine RegV.split (fun c16 => ?_) (fun c16 => ?_)
    · have h := cond_pos c16 h
      refine RegV.noS rfl rfl ?_
      refine RegV.noS rfl rfl ?_
      refine RegV.p0 rfl rfl rfl ?_
      refine RegV.p0 rfl rfl rfl ?_
      refine RegV.noS rfl rfl ?_
      refine RegV.noS rfl rfl ?_
      refine RegV.noS rfl rfl ?_
      refine RegV.p0 rfl rfl rfl ?_
      refine RegV.nil0 ?_
      refine AWc.cond rfl (fun _ => ?_) (fun hc => by cases hc)
      refine AWc.seq ?_
      refine AWc.rg hmix rfl rfl ?_
      obtain ⟨r29, e29, h⟩ := bind_some h
      refine RegV.call0 (F217 hmix hc.2.1 e29) rfl rfl rfl rfl .nil rfl ?_
      refine RegV.p0 rfl rfl rfl ?_
      refine RegV.nil0 ?_
      have hr := Option.some.inj h
      subst hr
      exact AWc.ret (canQ (N := 82) (k := 0) (l' := [(6, (.d (.bool r29)))]) (H' := []) rfl ⟨rfl, [], [], rfl, rfl, ⟨⟨_, rfl, (.refl _)⟩, rfl, trivial⟩,  trivial⟩ (doneA (.inr rfl) rfl ⟨trivial, trivial⟩ (.refl _) hasNil))
    · have h := cond_neg c16 h
      refine RegV.p0 rfl rfl rfl ?_
      refine RegV.p0 (v := (.d (.bool (decide (a2 = (0 : Int)))))) rfl rfl rfl ?_
      refine RegV.p0 rfl rfl rfl ?_
      refine RegV.p0 rfl rfl rfl ?_
      refine RegV.split (fun c20 => ?_) (fun c20 => ?_)
      · have h := cond_pos c20 h
        refine RegV.noS rfl rfl ?_
        refine RegV.noS rfl rfl ?_
        refine RegV.noS rfl rfl ?_
        refine RegV.p0 rfl rfl rfl ?_
        refine RegV.nil0 ?_
        refine AWc.cond rfl (fun _ => ?_) (fun hc => by cases hc)
        refine AWc.seq ?_
        refine AWc.rg hmix rfl rfl ?_
        obtain ⟨r29, e29, h⟩ := bind_some h
        refine RegV.call0 (F217 hmix hc.2.1 e29) rfl rfl rfl rfl .nil rfl ?_
        refine RegV.p0 rfl rfl rfl ?_
        refine RegV.nil0 ?_
        have hr := Option.some.inj h
        subst hr
        exact AWc.ret (canQ (N := 82) (k := 0) (l' := [(6, (.d (.bool r29)))]) (H' := []) rfl ⟨rfl, [], [], rfl, rfl, ⟨⟨_, rfl, (.refl _)⟩, rfl, trivial⟩,  trivial⟩ (doneA (.inr rfl) rfl ⟨trivial, trivial⟩ (.refl _) hasNil))
      · have h := cond_neg c20 h
        refine RegV.p0 rfl rfl rfl ?_
        refine RegV.len (xs := a0) (e := byteD) rfl rfl rfl rfl ?_
        refine RegV.p0 (v := (.d (.bool (decide (((a0.length : Nat) : Int) > (1048576 : Int)))))) rfl rfl rfl ?_
        refine RegV.p0 rfl rfl rfl ?_
        refine RegV.nil0 ?_
        refine AWc.cond rfl (fun c25 => ?_) (fun c25 => ?_)
        · have h := cond_pos c25 h
          refine AWc.seq ?_
          refine AWc.rg hmix rfl rfl ?_
          obtain ⟨r29, e29, h⟩ := bind_some h
          refine RegV.call0 (F217 hmix hc.2.1 e29) rfl rfl rfl rfl .nil rfl ?_
          refine RegV.p0 rfl rfl rfl ?_
          refine RegV.nil0 ?_
          have hr := Option.some.inj h
          subst hr
          exact AWc.ret (canQ (N := 82) (k := 0) (l' := [(6, (.d (.bool r29)))]) (H' := []) rfl ⟨rfl, [], [], rfl, rfl, ⟨⟨_, rfl, (.refl _)⟩, rfl, trivial⟩,  trivial⟩ (doneA (.inr rfl) rfl ⟨trivial, trivial⟩ (.refl _) hasNil))
        · have h := cond_neg c25 h
          refine AWc.skip ?_
          refine AWc.seq ?_
          refine AWc.rg hmix rfl rfl ?_
          refine RegV.p0 rfl rfl rfl ?_
          obtain ⟨r37, e37, h⟩ := bind_some h
          refine RegV.callS (q := false) (H' := [(0, (rowO byteD a0))]) (c' := 1) (show ACalls P (N 97) [(.d (.sl (List.map byteD a0)))] [] (.row 0 1 a0.length) [(0, (rowO byteD a0))] from ACalls.use (F97v2 hmix hc.2.2.1 e37) [(0, 0)] 1 rfl) rfl rfl rfl rfl (.cons (.refl _) .nil) (.refl _) (fun h => by cases h) rfl hasNil rfl rfl rfl rfl ?_
          refine RegV.p0 rfl rfl rfl ?_
          refine RegV.nil0 ?_
          refine AWc.seq ?_
          refine AWc.rg hmix rfl rfl ?_
          refine RegV.p0 rfl rfl rfl ?_
          refine RegV.p0 (v := (.d (.int .u64 (IntKind.u64.wrap a1)))) rfl rfl rfl ?_
          refine RegV.p0 rfl rfl rfl ?_
          refine RegV.len (xs := a0) (e := byteD) rfl rfl rfl rfl ?_
          refine RegV.p0 (v := (.d (.int .i64 (IntKind.i64.wrap ((8 : Int) * ((a0.length : Nat) : Int)))))) rfl rfl rfl ?_
          refine RegV.p0 (v := (.d (.int .u64 (IntKind.u64.wrap (IntKind.i64.wrap ((8 : Int) * ((a0.length : Nat) : Int))))))) rfl rfl rfl ?_
          obtain ⟨b48, h⟩ := gd_some h
          refine RegV.p1 (v := (.d (.int .u64 (Int.tmod (IntKind.u64.wrap a1) (IntKind.u64.wrap (IntKind.i64.wrap ((8 : Int) * ((a0.length : Nat) : Int)))))))) rfl rfl b48 rfl rfl ?_
          refine RegV.p0 (v := (.d (.int .i64 (IntKind.i64.wrap (Int.tmod (IntKind.u64.wrap a1) (IntKind.u64.wrap (IntKind.i64.wrap ((8 : Int) * ((a0.length : Nat) : Int))))))))) rfl rfl rfl ?_
          refine RegV.p0 rfl rfl rfl ?_
          refine RegV.nil0 ?_
          refine AWc.seq ?_
          refine AWc.rg hmix rfl rfl ?_
          refine RegV.p0 rfl rfl rfl ?_
          refine RegV.nil0 ?_
          refine AWc.seqS (N := 82) 1 (fun (z : (Bool × (List UInt8))) => [(0, (.d (.sl (List.map byteD a0)))), (7, (.row 0 1 a0.length)), (9, (.d (.bool z.1)))]) (fun z => [(0, (rowO byteD z.2))]) (fun z => f219_j126 k a0 z.1 z.2 = some r) rfl_le ?_ ?_
          · refine AWc.seq ?_
            refine AWc.rg hmix rfl rfl ?_
            refine RegV.p0 rfl rfl rfl ?_
            refine RegV.nil0 ?_
            obtain ⟨o60, h60, h⟩ := bind_some h
            refine AWc.block ?_
            refine AWc.loopK (N := 82) 1 (fun (x : (Bool × Int × (List UInt8))) => [(0, (.d (.sl (List.map byteD a0)))), (2, (.d (.int .u32 a2))), (7, (.row 0 1 a0.length)), (8, (.d (.int .i64 (IntKind.i64.wrap (Int.tmod (IntKind.u64.wrap a1) (IntKind.u64.wrap (IntKind.i64.wrap ((8 : Int) * ((a0.length : Nat) : Int))))))))), (9, (.d (.bool x.1))), (10, (.d (.int .i64 x.2.1)))]) (fun x => [(0, (rowO byteD x.2.2))]) (fun k x => f219_l60 a1 a0 a2 k x.1 x.2.1 x.2.2 = some o60) k (false, (0 : Int), a0) rfl_le (fun x hx => by cases hx) h60 ⟨rfl, [], [], rfl, rfl, ⟨⟨_, rfl, (.refl _)⟩, rfl, ⟨⟨_, rfl, (.refl _)⟩, rfl, ⟨⟨_, rfl, (.refl _)⟩, rfl, ⟨⟨_, rfl, (.refl _)⟩, rfl, ⟨⟨_, rfl, (.refl _)⟩, rfl, ⟨⟨_, rfl, (.refl _)⟩, rfl, trivial⟩⟩⟩⟩⟩⟩, ⟨⟨_, rfl, (.refl _)⟩, rfl, rfl, trivial⟩⟩ ?_
            clear h60
            intro k
            rintro ⟨y60_1, y60_2, y60_3⟩ h60
            dsimp only at h60 ⊢
            rw [f219_l60] at h60
            refine AWc.seq ?_
            refine AWc.seq ?_
            refine AWc.rg hmix rfl rfl ?_
            refine RegV.p0 rfl rfl rfl ?_
            refine RegV.p0 (v := (.d (.bool (decide (y60_2 < (32 : Int)))))) rfl rfl rfl ?_
            refine RegV.p0 rfl rfl rfl ?_
            refine RegV.split (fun c68 => ?_) (fun c68 => ?_)
            · have h60 := cond_pos c68 h60
              refine RegV.p0 rfl rfl rfl ?_
              refine RegV.p0 rfl rfl rfl ?_
              refine RegV.p0 (v := (.d (.int .i64 (IntKind.i64.wrap ((IntKind.i64.wrap (Int.tmod (IntKind.u64.wrap a1) (IntKind.u64.wrap (IntKind.i64.wrap ((8 : Int) * ((a0.length : Nat) : Int)))))) + y60_2))))) rfl rfl rfl ?_
              refine RegV.p0 rfl rfl rfl ?_
              refine RegV.len (xs := a0) (e := byteD) rfl rfl rfl rfl ?_
              refine RegV.p0 (v := (.d (.int .i64 (IntKind.i64.wrap ((8 : Int) * ((a0.length : Nat) : Int)))))) rfl rfl rfl ?_
              refine RegV.p0 (v := (.d (.bool (decide ((IntKind.i64.wrap ((IntKind.i64.wrap (Int.tmod (IntKind.u64.wrap a1) (IntKind.u64.wrap (IntKind.i64.wrap ((8 : Int) * ((a0.length : Nat) : Int)))))) + y60_2)) < (IntKind.i64.wrap ((8 : Int) * ((a0.length : Nat) : Int)))))))) rfl rfl rfl ?_
              refine RegV.p0 rfl rfl rfl ?_
              refine RegV.nil0 ?_
              refine AWc.cond rfl (fun c77 => ?_) (fun c77 => ?_)
              · have h60 := cond_pos c77 h60
                refine AWc.skip ?_
                refine AWc.seq ?_
                refine AWc.block ?_
                refine AWc.seq ?_
                refine AWc.rg hmix rfl rfl ?_
                refine RegV.p0 rfl rfl rfl ?_
                refine RegV.p0 rfl rfl rfl ?_
                refine RegV.p0 (v := (.d (.int .u64 (IntKind.u64.wrap y60_2)))) rfl rfl rfl ?_
                obtain ⟨b88, h60⟩ := gd_some h60
                refine RegV.p1 (v := (.d (.int .u32 (Int.fdiv a2 (2 ^ (min ((IntKind.u64.wrap y60_2)).toNat IntKind.u32.bits)))))) rfl rfl b88 rfl rfl ?_
                refine RegV.p0 (v := (.d (.int .u32 (bitsA .and .u32 (Int.fdiv a2 (2 ^ (min ((IntKind.u64.wrap y60_2)).toNat IntKind.u32.bits))) (1 : Int))))) rfl rfl rfl ?_
                refine RegV.p0 (v := (.d (.bool (decide ((bitsA .and .u32 (Int.fdiv a2 (2 ^ (min ((IntKind.u64.wrap y60_2)).toNat IntKind.u32.bits))) (1 : Int)) = (1 : Int)))))) rfl rfl rfl ?_
                refine RegV.nil0 ?_
                refine AWc.cond rfl (fun c91 => ?_) (fun c91 => ?_)
                · have h60 := cond_pos c91 h60
                  refine AWc.seq ?_
                  refine AWc.rg hmix rfl rfl ?_
                  refine RegV.p0 rfl rfl rfl ?_
                  refine RegV.p0 rfl rfl rfl ?_
                  refine RegV.p0 (v := (.d (.int .i64 (IntKind.i64.wrap ((IntKind.i64.wrap (Int.tmod (IntKind.u64.wrap a1) (IntKind.u64.wrap (IntKind.i64.wrap ((8 : Int) * ((a0.length : Nat) : Int)))))) + y60_2))))) rfl rfl rfl ?_
                  refine RegV.p0 rfl rfl rfl ?_
                  refine RegV.nil0 ?_
                  refine AWc.seq ?_
                  refine AWc.rg hmix rfl rfl ?_
                  refine RegV.p0 rfl rfl rfl ?_
                  refine RegV.p0 rfl rfl rfl ?_
                  refine RegV.p1 (v := (.d (.int .i64 (IntKind.i64.wrap (Int.tdiv (IntKind.i64.wrap ((IntKind.i64.wrap (Int.tmod (IntKind.u64.wrap a1) (IntKind.u64.wrap (IntKind.i64.wrap ((8 : Int) * ((a0.length : Nat) : Int)))))) + y60_2)) (8 : Int)))))) rfl rfl (by decide) rfl rfl ?_
                  refine RegV.p0 rfl rfl rfl ?_
                  refine RegV.p0 rfl rfl rfl ?_
                  refine RegV.p1 (v := (.d (.int .i64 (IntKind.i64.wrap (Int.tdiv (IntKind.i64.wrap ((IntKind.i64.wrap (Int.tmod (IntKind.u64.wrap a1) (IntKind.u64.wrap (IntKind.i64.wrap ((8 : Int) * ((a0.length : Nat) : Int)))))) + y60_2)) (8 : Int)))))) rfl rfl (by decide) rfl rfl ?_
                  obtain ⟨b108, h60⟩ := gd_some h60
                  refine RegV.iaR (z := 1) rfl rfl (fun _ => rfl) b108 rfl ?_
                  obtain ⟨b109, h60⟩ := gd_some h60
                  refine RegV.ldR (e := byteD) (xs := y60_3) (i := ((IntKind.i64.wrap (Int.tdiv (IntKind.i64.wrap ((IntKind.i64.wrap (Int.tmod (IntKind.u64.wrap a1) (IntKind.u64.wrap (IntKind.i64.wrap ((8 : Int) * ((a0.length : Nat) : Int)))))) + y60_2)) (8 : Int)))).toNat) (H' := [(0, (rowO byteD y60_3))]) rfl rfl rfl byteD_ok rfl b109 rfl rfl rfl rfl ?_
                  refine RegV.p0 rfl rfl rfl ?_
                  refine RegV.p1 (v := (.d (.int .i64 (Int.tmod (IntKind.i64.wrap ((IntKind.i64.wrap (Int.tmod (IntKind.u64.wrap a1) (IntKind.u64.wrap (IntKind.i64.wrap ((8 : Int) * ((a0.length : Nat) : Int)))))) + y60_2)) (8 : Int))))) rfl rfl (by decide) rfl rfl ?_
                  refine RegV.p0 (v := (.d (.int .u64 (IntKind.u64.wrap (Int.tmod (IntKind.i64.wrap ((IntKind.i64.wrap (Int.tmod (IntKind.u64.wrap a1) (IntKind.u64.wrap (IntKind.i64.wrap ((8 : Int) * ((a0.length : Nat) : Int)))))) + y60_2)) (8 : Int)))))) rfl rfl rfl ?_
                  obtain ⟨b113, h60⟩ := gd_some h60
                  refine RegV.p1 (v := (.d (.int .u8 (IntKind.u8.wrap ((1 : Int) * 2 ^ (min ((IntKind.u64.wrap (Int.tmod (IntKind.i64.wrap ((IntKind.i64.wrap (Int.tmod (IntKind.u64.wrap a1) (IntKind.u64.wrap (IntKind.i64.wrap ((8 : Int) * ((a0.length : Nat) : Int)))))) + y60_2)) (8 : Int)))).toNat IntKind.u8.bits)))))) rfl rfl b113 rfl rfl ?_
                  refine RegV.p0 (v := (.d (.int .u8 (bitsA .xor .u8 (((List.getD y60_3 ((IntKind.i64.wrap (Int.tdiv (IntKind.i64.wrap ((IntKind.i64.wrap (Int.tmod (IntKind.u64.wrap a1) (IntKind.u64.wrap (IntKind.i64.wrap ((8 : Int) * ((a0.length : Nat) : Int)))))) + y60_2)) (8 : Int)))).toNat default).toNat : Nat) : Int) (IntKind.u8.wrap ((1 : Int) * 2 ^ (min ((IntKind.u64.wrap (Int.tmod (IntKind.i64.wrap ((IntKind.i64.wrap (Int.tmod (IntKind.u64.wrap a1) (IntKind.u64.wrap (IntKind.i64.wrap ((8 : Int) * ((a0.length : Nat) : Int)))))) + y60_2)) (8 : Int)))).toNat IntKind.u8.bits))))))) rfl rfl rfl ?_
                  obtain ⟨b115, h60⟩ := gd_some h60
                  refine RegV.iaR (z := 1) rfl rfl (fun _ => rfl) b115 rfl ?_
                  obtain ⟨b116, h60⟩ := gd_some h60
                  refine RegV.stR (e := byteD) (xs := y60_3) (i := ((IntKind.i64.wrap (Int.tdiv (IntKind.i64.wrap ((IntKind.i64.wrap (Int.tmod (IntKind.u64.wrap a1) (IntKind.u64.wrap (IntKind.i64.wrap ((8 : Int) * ((a0.length : Nat) : Int)))))) + y60_2)) (8 : Int)))).toNat) (v := (u8 (bitsA .xor .u8 (((List.getD y60_3 ((IntKind.i64.wrap (Int.tdiv (IntKind.i64.wrap ((IntKind.i64.wrap (Int.tmod (IntKind.u64.wrap a1) (IntKind.u64.wrap (IntKind.i64.wrap ((8 : Int) * ((a0.length : Nat) : Int)))))) + y60_2)) (8 : Int)))).toNat default).toNat : Nat) : Int) (IntKind.u8.wrap ((1 : Int) * 2 ^ (min ((IntKind.u64.wrap (Int.tmod (IntKind.i64.wrap ((IntKind.i64.wrap (Int.tmod (IntKind.u64.wrap a1) (IntKind.u64.wrap (IntKind.i64.wrap ((8 : Int) * ((a0.length : Nat) : Int)))))) + y60_2)) (8 : Int)))).toNat IntKind.u8.bits)))))) (H' := [(0, (rowO byteD (List.set y60_3 ((IntKind.i64.wrap (Int.tdiv (IntKind.i64.wrap ((IntKind.i64.wrap (Int.tmod (IntKind.u64.wrap a1) (IntKind.u64.wrap (IntKind.i64.wrap ((8 : Int) * ((a0.length : Nat) : Int)))))) + y60_2)) (8 : Int)))).toNat (u8 (bitsA .xor .u8 (((List.getD y60_3 ((IntKind.i64.wrap (Int.tdiv (IntKind.i64.wrap ((IntKind.i64.wrap (Int.tmod (IntKind.u64.wrap a1) (IntKind.u64.wrap (IntKind.i64.wrap ((8 : Int) * ((a0.length : Nat) : Int)))))) + y60_2)) (8 : Int)))).toNat default).toNat : Nat) : Int) (IntKind.u8.wrap ((1 : Int) * 2 ^ (min ((IntKind.u64.wrap (Int.tmod (IntKind.i64.wrap ((IntKind.i64.wrap (Int.tmod (IntKind.u64.wrap a1) (IntKind.u64.wrap (IntKind.i64.wrap ((8 : Int) * ((a0.length : Nat) : Int)))))) + y60_2)) (8 : Int)))).toNat IntKind.u8.bits))))))))]) rfl rfl rfl rfl (cellsU8 (u8_bits _ _ _)) byteD_ok rfl b116 rfl rfl rfl ?_
                  refine RegV.nil0 ?_
                  refine AWc.rg hmix rfl rfl ?_
                  refine RegV.p0 rfl rfl rfl ?_
                  refine RegV.nil0 ?_
                  refine AWc.rg hmix rfl rfl ?_
                  refine RegV.p0 rfl rfl rfl ?_
                  refine RegV.p0 (v := (.d (.int .i64 (IntKind.i64.wrap (y60_2 + (1 : Int)))))) rfl rfl rfl ?_
                  refine RegV.p0 rfl rfl rfl ?_
                  refine RegV.nil0 ?_
                  exact ⟨(true, (IntKind.i64.wrap (y60_2 + (1 : Int))), (List.set y60_3 ((IntKind.i64.wrap (Int.tdiv (IntKind.i64.wrap ((IntKind.i64.wrap (Int.tmod (IntKind.u64.wrap a1) (IntKind.u64.wrap (IntKind.i64.wrap ((8 : Int) * ((a0.length : Nat) : Int)))))) + y60_2)) (8 : Int)))).toNat (u8 (bitsA .xor .u8 (((List.getD y60_3 ((IntKind.i64.wrap (Int.tdiv (IntKind.i64.wrap ((IntKind.i64.wrap (Int.tmod (IntKind.u64.wrap a1) (IntKind.u64.wrap (IntKind.i64.wrap ((8 : Int) * ((a0.length : Nat) : Int)))))) + y60_2)) (8 : Int)))).toNat default).toNat : Nat) : Int) (IntKind.u8.wrap ((1 : Int) * 2 ^ (min ((IntKind.u64.wrap (Int.tmod (IntKind.i64.wrap ((IntKind.i64.wrap (Int.tmod (IntKind.u64.wrap a1) (IntKind.u64.wrap (IntKind.i64.wrap ((8 : Int) * ((a0.length : Nat) : Int)))))) + y60_2)) (8 : Int)))).toNat IntKind.u8.bits))))))), h60, ⟨rfl, [], [], rfl, rfl, ⟨⟨_, rfl, (.refl _)⟩, rfl, ⟨⟨_, rfl, (.refl _)⟩, rfl, ⟨⟨_, rfl, (.refl _)⟩, rfl, ⟨⟨_, rfl, (.refl _)⟩, rfl, ⟨⟨_, rfl, (.refl _)⟩, rfl, ⟨⟨_, rfl, (.refl _)⟩, rfl, trivial⟩⟩⟩⟩⟩⟩, ⟨⟨_, rfl, (.refl _)⟩, rfl, rfl, trivial⟩⟩⟩
                · have h60 := cond_neg c91 h60
                  refine AWc.skip ?_
                  refine AWc.rg hmix rfl rfl ?_
                  refine RegV.p0 rfl rfl rfl ?_
                  refine RegV.p0 (v := (.d (.int .i64 (IntKind.i64.wrap (y60_2 + (1 : Int)))))) rfl rfl rfl ?_
                  refine RegV.p0 rfl rfl rfl ?_
                  refine RegV.nil0 ?_
                  exact ⟨(y60_1, (IntKind.i64.wrap (y60_2 + (1 : Int))), y60_3), h60, ⟨rfl, [], [], rfl, rfl, ⟨⟨_, rfl, (.refl _)⟩, rfl, ⟨⟨_, rfl, (.refl _)⟩, rfl, ⟨⟨_, rfl, (.refl _)⟩, rfl, ⟨⟨_, rfl, (.refl _)⟩, rfl, ⟨⟨_, rfl, (.refl _)⟩, rfl, ⟨⟨_, rfl, (.refl _)⟩, rfl, trivial⟩⟩⟩⟩⟩⟩, ⟨⟨_, rfl, (.refl _)⟩, rfl, rfl, trivial⟩⟩⟩
              · have h60 := cond_neg c77 h60
                cases h60
                dsimp only at h
                refine AWc.exit ?_
                refine inBlk_eq ?_
                exact ⟨(y60_1, y60_3), h, ⟨rfl, [], [], rfl, rfl, ⟨⟨_, rfl, (.refl _)⟩, rfl, ⟨⟨_, rfl, (.refl _)⟩, rfl, ⟨⟨_, rfl, (.refl _)⟩, rfl, trivial⟩⟩⟩, ⟨⟨_, rfl, (.refl _)⟩, rfl, rfl, trivial⟩⟩⟩
            · have h60 := cond_neg c68 h60
              refine RegV.noS rfl rfl ?_
              refine RegV.noS rfl rfl ?_
              refine RegV.noS rfl rfl ?_
              refine RegV.noS rfl rfl ?_
              refine RegV.noS rfl rfl ?_
              refine RegV.noS rfl rfl ?_
              refine RegV.noS rfl rfl ?_
              refine RegV.p0 rfl rfl rfl ?_
              refine RegV.nil0 ?_
              refine AWc.cond rfl (fun hc => by cases hc) (fun _ => ?_)
              cases h60
              dsimp only at h
              refine AWc.exit ?_
              refine inBlk_eq ?_
              exact ⟨(y60_1, y60_3), h, ⟨rfl, [], [], rfl, rfl, ⟨⟨_, rfl, (.refl _)⟩, rfl, ⟨⟨_, rfl, (.refl _)⟩, rfl, ⟨⟨_, rfl, (.refl _)⟩, rfl, trivial⟩⟩⟩, ⟨⟨_, rfl, (.refl _)⟩, rfl, rfl, trivial⟩⟩⟩
          · rintro ⟨j126_1, j126_2⟩ h
            dsimp only at h ⊢
            unfold f219_j126 at h
            refine AWc.seq ?_
            refine AWc.rg hmix rfl rfl ?_
            refine RegV.p0 rfl rfl rfl ?_
            obtain ⟨r130, e130, h⟩ := bind_some h
            refine RegV.callS (q := true) (H' := [(0, (rowO byteD j126_2))]) (c' := 1) (show ACalls P (N 263) [(.row 0 1 a0.length)] [(0, (rowO byteD j126_2))] (.d (.int .u32 r130)) [(0, (rowO byteD j126_2))] from ACalls.use (F263v2 hmix hc.2.2.2.1 e130) [(0, 0)] 1 rfl) rfl rfl rfl rfl (.cons (.refl _) .nil) (.refl _) (fun _ => rfl) rfl (hasCons rfl hasNil) rfl rfl rfl rfl ?_
            refine RegV.p0 rfl rfl rfl ?_
            obtain ⟨r132, e132, h⟩ := bind_some h
            refine RegV.call0 (F263 hmix hc.2.2.2.2 e132) rfl rfl rfl rfl (.cons (.refl _) .nil) rfl ?_
            refine RegV.p0 (v := (.d (.bool (decide (r130 ≠ r132))))) rfl rfl rfl ?_
            refine RegV.p0 rfl rfl rfl ?_
            refine RegV.p0 (v := (.d (.bool ((decide (r130 ≠ r132)) == j126_1)))) rfl rfl rfl ?_
            refine RegV.p0 rfl rfl rfl ?_
            refine RegV.nil0 ?_
            have hr := Option.some.inj h
            subst hr
            exact AWc.ret (canQ (N := 82) (k := 0) (l' := [(6, (.d (.bool ((decide (r130 ≠ r132)) == j126_1))))]) (H' := []) rfl ⟨rfl, [], [], rfl, rfl, ⟨⟨_, rfl, (.refl _)⟩, rfl, trivial⟩,  trivial⟩ (doneA (.inr rfl) rfl ⟨trivial, trivial⟩ (.refl _) hasNil))
/-- courant/courantlaw17.CrcLinear -/
def C220 (N : Nat → Nat) : AFunc := { n := 63, params := 3, res := [.tmp 6], body :=
 (.seq (.region false [⟨(some 6), .mv (.k (.d (.bool false))), none, []⟩])
  (.seq (.region false [⟨(some 10), .mv (.t 0), none, []⟩,
    ⟨(some 11), .len (.t 10), none, [0]⟩,
    ⟨(some 12), .mv (.t 1), none, []⟩,
    ⟨(some 13), .len (.t 12), none, [2]⟩,
    ⟨(some 14), .mv (.t 2), none, []⟩,
    ⟨(some 15), .len (.t 14), none, [4]⟩,
    ⟨(some 16), .mm false [(.t 11), (.t 13), (.t 15)], none, [1, 3, 5]⟩,
    ⟨(some 7), .mv (.t 16), none, [6, 0, 1, 2, 3, 4, 5]⟩])
   (.seq (.region false [⟨(some 17), .mv (.t 0), none, []⟩,
     ⟨(some 18), .mv (.t 7), none, []⟩,
     ⟨(some 19), .slc (.t 17) none (some (.t 18)) none 1, none, [0, 1]⟩,
     ⟨(some 20), .call (.k (.d (.fn (N 97)))) [(.t 19)], none, [2]⟩,
     ⟨(some 8), .mv (.t 20), none, [3, 0, 1, 2]⟩])
    (.seq (.seq (.region false [⟨(some 9), .mv (.k (.d (.int .i64 0))), none, []⟩])
      (.block 0 (.loop (.seq (.seq (.region false [⟨(some 21), .mv (.t 9), none, []⟩,
           ⟨(some 22), .mv (.t 7), none, []⟩,
           ⟨(some 23), .bin .lss (.t 21) (.t 22), none, [0, 1]⟩])
          (.cond (.t 23) (.skip)
           (.exit 0)))
         (.seq (.block 1 (.region true [⟨(some 26), .mv (.t 8), none, []⟩,
            ⟨(some 27), .mv (.t 9), none, []⟩,
            ⟨(some 28), .mv (.t 8), none, []⟩,
            ⟨(some 29), .mv (.t 9), none, []⟩,
            ⟨(some 30), .iaddr (.t 28) (.t 29) 1, none, [2, 3]⟩,
            ⟨(some 31), .load (.t 30) 1 false, none, [4]⟩,
            ⟨(some 32), .mv (.t 1), none, []⟩,
            ⟨(some 33), .mv (.t 9), none, []⟩,
            ⟨(some 34), .iaddr (.t 32) (.t 33) 1, none, [6, 7]⟩,
            ⟨(some 35), .load (.t 34) 1 false, none, [8]⟩,
            ⟨(some 36), .bin .xor (.t 31) (.t 35), none, [5, 9]⟩,
            ⟨(some 37), .mv (.t 2), none, []⟩,
            ⟨(some 38), .mv (.t 9), none, []⟩,
            ⟨(some 39), .iaddr (.t 37) (.t 38) 1, none, [11, 12]⟩,
            ⟨(some 40), .load (.t 39) 1 false, none, [13]⟩,
            ⟨(some 41), .bin .xor (.t 36) (.t 40), none, [10, 14]⟩,
            ⟨(some 42), .iaddr (.t 26) (.t 27) 1, none, [0, 1, 2, 3, 4, 5, 6, 7, 8, 9, 10, 11, 12, 13, 14, 15]⟩,
            ⟨none, .store (.t 42) (.t 41) 1, none, [16, 15, 0, 1, 2, 3, 4, 5, 6, 7, 8, 9, 10, 11, 12, 13, 14]⟩]))
          (.region false [⟨(some 24), .mv (.t 9), none, []⟩,
           ⟨(some 25), .bin .add (.t 24) (.k (.d (.int .i64 1))), none, [0]⟩,
           ⟨(some 9), .mv (.t 25), none, [1, 0]⟩]))))))
     (.seq (.region true [⟨(some 43), .call (.k (.d (.fn (N 217)))) [], none, []⟩,
       ⟨(some 44), .mv (.t 43), none, [0]⟩,
       ⟨(some 45), .mv (.t 8), (some (44, true)), [1]⟩,
       ⟨(some 46), .call (.k (.d (.fn (N 263)))) [(.t 45)], (some (44, true)), [2, 1]⟩,
       ⟨(some 47), .mv (.t 0), (some (44, true)), [1]⟩,
       ⟨(some 48), .mv (.t 7), (some (44, true)), [1]⟩,
       ⟨(some 49), .slc (.t 47) none (some (.t 48)) none 1, (some (44, true)), [4, 5, 1]⟩,
       ⟨(some 50), .call (.k (.d (.fn (N 263)))) [(.t 49)], (some (44, true)), [6, 3, 1]⟩,
       ⟨(some 51), .mv (.t 1), (some (44, true)), [1]⟩,
       ⟨(some 52), .mv (.t 7), (some (44, true)), [1]⟩,
       ⟨(some 53), .slc (.t 51) none (some (.t 52)) none 1, (some (44, true)), [8, 9, 1]⟩,
       ⟨(some 54), .call (.k (.d (.fn (N 263)))) [(.t 53)], (some (44, true)), [10, 7, 1]⟩,
       ⟨(some 55), .bin .xor (.t 50) (.t 54), (some (44, true)), [7, 11, 1]⟩,
       ⟨(some 56), .mv (.t 2), (some (44, true)), [1]⟩,
       ⟨(some 57), .mv (.t 7), (some (44, true)), [1]⟩,
       ⟨(some 58), .slc (.t 56) none (some (.t 57)) none 1, (some (44, true)), [13, 14, 1]⟩,
       ⟨(some 59), .call (.k (.d (.fn (N 263)))) [(.t 58)], (some (44, true)), [15, 11, 1]⟩,
       ⟨(some 60), .bin .xor (.t 55) (.t 59), (some (44, true)), [12, 16, 1]⟩,
       ⟨(some 61), .bin .eql (.t 46) (.t 60), (some (44, true)), [3, 17, 1]⟩,
       ⟨(some 62), .pick (.t 44) (.t 61) (.k (.d (.bool false))), none, [1, 18]⟩,
       ⟨(some 6), .mv (.t 62), none, [19, 16, 0, 1, 2, 3, 4, 5, 6, 7, 8, 9, 10, 11, 12, 13, 14, 15, 17, 18]⟩])
      .ret))))) }
def HC220 (P : Program) (N : Nat → Nat) : Prop := HasF P (N 220) (C220 N) ∧ HC97v2 P N ∧ HC217 P N ∧ HC263v2 P N ∧ HC263 P N
def f220_j68 (k : Nat) (a0 : (List UInt8)) (a1 : (List UInt8)) (a2 : (List UInt8)) (j68_1 : (List UInt8)) : Option Bool := (f217 k).bind fun r71 => cond r71 ((f263v2 k j68_1 ((sl a0 (0 : Int) (min (min ((a0.length : Nat) : Int) ((a1.length : Nat) : Int)) ((a2.length : Nat) : Int))).length)).bind fun r74 => gd (0 ≤ (0 : Int) ∧ (0 : Int) ≤ (min (min ((a0.length : Nat) : Int) ((a1.length : Nat) : Int)) ((a2.length : Nat) : Int)) ∧ (min (min ((a0.length : Nat) : Int) ((a1.length : Nat) : Int)) ((a2.length : Nat) : Int)) ≤ ((a0.length : Nat) : Int)) ((f263 k (sl a0 (0 : Int) (min (min ((a0.length : Nat) : Int) ((a1.length : Nat) : Int)) ((a2.length : Nat) : Int)))).bind fun r78 => gd (0 ≤ (0 : Int) ∧ (0 : Int) ≤ (min (min ((a0.length : Nat) : Int) ((a1.length : Nat) : Int)) ((a2.length : Nat) : Int)) ∧ (min (min ((a0.length : Nat) : Int) ((a1.length : Nat) : Int)) ((a2.length : Nat) : Int)) ≤ ((a1.length : Nat) : Int)) ((f263 k (sl a1 (0 : Int) (min (min ((a0.length : Nat) : Int) ((a1.length : Nat) : Int)) ((a2.length : Nat) : Int)))).bind fun r82 => gd (0 ≤ (0 : Int) ∧ (0 : Int) ≤ (min (min ((a0.length : Nat) : Int) ((a1.length : Nat) : Int)) ((a2.length : Nat) : Int)) ∧ (min (min ((a0.length : Nat) : Int) ((a1.length : Nat) : Int)) ((a2.length : Nat) : Int)) ≤ ((a2.length : Nat) : Int)) ((f263 k (sl a2 (0 : Int) (min (min ((a0.length : Nat) : Int) ((a1.length : Nat) : Int)) ((a2.length : Nat) : Int)))).bind fun r87 => some (decide (r74 = (bitsA .xor .u32 (bitsA .xor .u32 r78 r82) r87))))))) (some false)
def f220_l29 (a0 : (List UInt8)) (a1 : (List UInt8)) (a2 : (List UInt8)) : Nat → Int → (List UInt8) → Option (LR2 (List UInt8) Unit Bool)
  | 0, _, _ => none
  | k + 1, y29_1, y29_2 => cond (decide (y29_1 < (min (min ((a0.length : Nat) : Int) ((a1.length : Nat) : Int)) ((a2.length : Nat) : Int)))) (gd (0 ≤ y29_1 ∧ y29_1 < (((sl a0 (0 : Int) (min (min ((a0.length : Nat) : Int) ((a1.length : Nat) : Int)) ((a2.length : Nat) : Int))).length : Nat) : Int)) (gd ((y29_1).toNat < y29_2.length) (gd (0 ≤ y29_1 ∧ y29_1 < ((a1.length : Nat) : Int)) (gd (0 ≤ y29_1 ∧ y29_1 < ((a2.length : Nat) : Int)) (gd (0 ≤ y29_1 ∧ y29_1 < (((sl a0 (0 : Int) (min (min ((a0.length : Nat) : Int) ((a1.length : Nat) : Int)) ((a2.length : Nat) : Int))).length : Nat) : Int)) (gd ((y29_1).toNat < y29_2.length) (f220_l29 a0 a1 a2 k (IntKind.i64.wrap (y29_1 + (1 : Int))) (List.set y29_2 (y29_1).toNat (u8 (bitsA .xor .u8 (bitsA .xor .u8 (((List.getD y29_2 (y29_1).toNat default).toNat : Nat) : Int) (((rd a1 y29_1).toNat : Nat) : Int)) (((rd a2 y29_1).toNat : Nat) : Int))))))))))) (some (.b0 y29_2))
def f220 (k : Nat) (a0 : (List UInt8)) (a1 : (List UInt8)) (a2 : (List UInt8)) : Option Bool := gd (0 ≤ (0 : Int) ∧ (0 : Int) ≤ (min (min ((a0.length : Nat) : Int) ((a1.length : Nat) : Int)) ((a2.length : Nat) : Int)) ∧ (min (min ((a0.length : Nat) : Int) ((a1.length : Nat) : Int)) ((a2.length : Nat) : Int)) ≤ ((a0.length : Nat) : Int)) ((f97v2 k (sl a0 (0 : Int) (min (min ((a0.length : Nat) : Int) ((a1.length : Nat) : Int)) ((a2.length : Nat) : Int)))).bind fun r22 => (f220_l29 a0 a1 a2 k (0 : Int) (sl a0 (0 : Int) (min (min ((a0.length : Nat) : Int) ((a1.length : Nat) : Int)) ((a2.length : Nat) : Int)))).bind fun o29 => match o29 with | .b0 x29_1 => f220_j68 k a0 a1 a2 x29_1 | _ => none)
theorem F220 {P : Program} {N : Nat → Nat} (hmix : P.follows .mixedOrders = true) (hc : HC220 P N) {k : Nat} {a0 : (List UInt8)} {a1 : (List UInt8)} {a2 : (List UInt8)} {r : Bool} (h : f220 k a0 a1 a2 = some r) :
    ACalls P (N 220) [(.d (.sl (List.map byteD a0))), (.d (.sl (List.map byteD a1))), (.d (.sl (List.map byteD a2)))] [] (.d (.bool r)) [] := by
  refine acalls_canon (F := C220 N) hc.1 0 0 rfl ?_
  unfold f220 at h
  dsimp only [C220, startL]
  refine AWc.seq ?_
  refine AWc.rg hmix rfl rfl ?_
  refine RegV.p0 rfl rfl rfl ?_
  refine RegV.nil0 ?_
  refine AWc.seq ?_
  refine AWc.rg hmix rfl rfl ?_
  refine RegV.p0 rfl rfl rfl ?_
  refine RegV.len (xs := a0) (e := byteD) rfl rfl rfl rfl ?_
  refine RegV.p0 rfl rfl rfl ?_
  refine RegV.len (xs := a1) (e := byteD) rfl rfl rfl rfl ?_
  refine RegV.p0 rfl rfl rfl ?_
  refine RegV.len (xs := a2) (e := byteD) rfl rfl rfl rfl ?_
  refine RegV.p0 (v := (.d (.int .i64 (min (min ((a0.length : Nat) : Int) ((a1.length : Nat) : Int)) ((a2.length : Nat) : Int))))) rfl rfl rfl ?_
  refine RegV.p0 rfl rfl rfl ?_
  refine RegV.nil0 ?_
  refine AWc.seq ?_
  refine AWc.rg hmix rfl rfl ?_
  refine RegV.p0 rfl rfl rfl ?_
  refine RegV.p0 rfl rfl rfl ?_
  obtain ⟨b21, h⟩ := gd_some h
  refine RegV.slc (xs := a0) (e := byteD) (lo := (0 : Int)) (hi := (min (min ((a0.length : Nat) : Int) ((a1.length : Nat) : Int)) ((a2.length : Nat) : Int))) rfl rfl rfl b21 (fun _ => rfl) rfl ?_
  obtain ⟨r22, e22, h⟩ := bind_some h
  refine RegV.callS (q := false) (H' := [(0, (rowO byteD (sl a0 (0 : Int) (min (min ((a0.length : Nat) : Int) ((a1.length : Nat) : Int)) ((a2.length : Nat) : Int)))))]) (c' := 1) (show ACalls P (N 97) [(.d (.sl (List.map byteD (sl a0 (0 : Int) (min (min ((a0.length : Nat) : Int) ((a1.length : Nat) : Int)) ((a2.length : Nat) : Int))))))] [] (.row 0 1 ((sl a0 (0 : Int) (min (min ((a0.length : Nat) : Int) ((a1.length : Nat) : Int)) ((a2.length : Nat) : Int))).length)) [(0, (rowO byteD (sl a0 (0 : Int) (min (min ((a0.length : Nat) : Int) ((a1.length : Nat) : Int)) ((a2.length : Nat) : Int)))))] from ACalls.use (F97v2 hmix hc.2.1 e22) [(0, 0)] 1 rfl) rfl rfl rfl rfl (.cons (.refl _) .nil) (.refl _) (fun h => by cases h) rfl hasNil rfl rfl rfl rfl ?_
  refine RegV.p0 rfl rfl rfl ?_
  refine RegV.nil0 ?_
  refine AWc.seqS (N := 63) 1 (fun (z : (List UInt8)) => [(0, (.d (.sl (List.map byteD a0)))), (1, (.d (.sl (List.map byteD a1)))), (2, (.d (.sl (List.map byteD a2)))), (7, (.d (.int .i64 (min (min ((a0.length : Nat) : Int) ((a1.length : Nat) : Int)) ((a2.length : Nat) : Int))))), (8, (.row 0 1 ((sl a0 (0 : Int) (min (min ((a0.length : Nat) : Int) ((a1.length : Nat) : Int)) ((a2.length : Nat) : Int))).length)))]) (fun z => [(0, (rowO byteD z))]) (fun z => f220_j68 k a0 a1 a2 z = some r) rfl_le ?_ ?_
  · refine AWc.seq ?_
    refine AWc.rg hmix rfl rfl ?_
    refine RegV.p0 rfl rfl rfl ?_
    refine RegV.nil0 ?_
    obtain ⟨o29, h29, h⟩ := bind_some h
    refine AWc.block ?_
    refine AWc.loopK (N := 63) 1 (fun (x : (Int × (List UInt8))) => [(0, (.d (.sl (List.map byteD a0)))), (1, (.d (.sl (List.map byteD a1)))), (2, (.d (.sl (List.map byteD a2)))), (7, (.d (.int .i64 (min (min ((a0.length : Nat) : Int) ((a1.length : Nat) : Int)) ((a2.length : Nat) : Int))))), (8, (.row 0 1 ((sl a0 (0 : Int) (min (min ((a0.length : Nat) : Int) ((a1.length : Nat) : Int)) ((a2.length : Nat) : Int))).length))), (9, (.d (.int .i64 x.1)))]) (fun x => [(0, (rowO byteD x.2))]) (fun k x => f220_l29 a0 a1 a2 k x.1 x.2 = some o29) k ((0 : Int), (sl a0 (0 : Int) (min (min ((a0.length : Nat) : Int) ((a1.length : Nat) : Int)) ((a2.length : Nat) : Int)))) rfl_le (fun x hx => by cases hx) h29 ⟨rfl, [], [], rfl, rfl, ⟨⟨_, rfl, (.refl _)⟩, rfl, ⟨⟨_, rfl, (.refl _)⟩, rfl, ⟨⟨_, rfl, (.refl _)⟩, rfl, ⟨⟨_, rfl, (.refl _)⟩, rfl, ⟨⟨_, rfl, (.refl _)⟩, rfl, ⟨⟨_, rfl, (.refl _)⟩, rfl, trivial⟩⟩⟩⟩⟩⟩, ⟨⟨_, rfl, (.refl _)⟩, rfl, rfl, trivial⟩⟩ ?_
    clear h29
    intro k
    rintro ⟨y29_1, y29_2⟩ h29
    dsimp only at h29 ⊢
    rw [f220_l29] at h29
    refine AWc.seq ?_
    refine AWc.seq ?_
    refine AWc.rg hmix rfl rfl ?_
    refine RegV.p0 rfl rfl rfl ?_
    refine RegV.p0 rfl rfl rfl ?_
    refine RegV.p0 (v := (.d (.bool (decide (y29_1 < (min (min ((a0.length : Nat) : Int) ((a1.length : Nat) : Int)) ((a2.length : Nat) : Int))))))) rfl rfl rfl ?_
    refine RegV.nil0 ?_
    refine AWc.cond rfl (fun c38 => ?_) (fun c38 => ?_)
    · have h29 := cond_pos c38 h29
      refine AWc.skip ?_
      refine AWc.seq ?_
      refine AWc.block ?_
      refine AWc.rg hmix rfl rfl ?_
      refine RegV.p0 rfl rfl rfl ?_
      refine RegV.p0 rfl rfl rfl ?_
      refine RegV.p0 rfl rfl rfl ?_
      refine RegV.p0 rfl rfl rfl ?_
      obtain ⟨b49, h29⟩ := gd_some h29
      refine RegV.iaR (z := 1) rfl rfl (fun _ => rfl) b49 rfl ?_
      obtain ⟨b50, h29⟩ := gd_some h29
      refine RegV.ldR (e := byteD) (xs := y29_2) (i := (y29_1).toNat) (H' := [(0, (rowO byteD y29_2))]) rfl rfl rfl byteD_ok rfl b50 rfl rfl rfl rfl ?_
      refine RegV.p0 rfl rfl rfl ?_
      refine RegV.p0 rfl rfl rfl ?_
      obtain ⟨b53, h29⟩ := gd_some h29
      refine RegV.iad (xs := a1) (e := byteD) rfl rfl rfl rfl (fun _ => rfl) b53 rfl ?_
      refine RegV.p0 (v := (.d (.int .u8 (((rd a1 y29_1).toNat : Nat) : Int)))) rfl rfl rfl ?_
      refine RegV.p0 (v := (.d (.int .u8 (bitsA .xor .u8 (((List.getD y29_2 (y29_1).toNat default).toNat : Nat) : Int) (((rd a1 y29_1).toNat : Nat) : Int))))) rfl rfl rfl ?_
      refine RegV.p0 rfl rfl rfl ?_
      refine RegV.p0 rfl rfl rfl ?_
      obtain ⟨b58, h29⟩ := gd_some h29
      refine RegV.iad (xs := a2) (e := byteD) rfl rfl rfl rfl (fun _ => rfl) b58 rfl ?_
      refine RegV.p0 (v := (.d (.int .u8 (((rd a2 y29_1).toNat : Nat) : Int)))) rfl rfl rfl ?_
      refine RegV.p0 (v := (.d (.int .u8 (bitsA .xor .u8 (bitsA .xor .u8 (((List.getD y29_2 (y29_1).toNat default).toNat : Nat) : Int) (((rd a1 y29_1).toNat : Nat) : Int)) (((rd a2 y29_1).toNat : Nat) : Int))))) rfl rfl rfl ?_
      obtain ⟨b61, h29⟩ := gd_some h29
      refine RegV.iaR (z := 1) rfl rfl (fun _ => rfl) b61 rfl ?_
      obtain ⟨b62, h29⟩ := gd_some h29
      refine RegV.stR (e := byteD) (xs := y29_2) (i := (y29_1).toNat) (v := (u8 (bitsA .xor .u8 (bitsA .xor .u8 (((List.getD y29_2 (y29_1).toNat default).toNat : Nat) : Int) (((rd a1 y29_1).toNat : Nat) : Int)) (((rd a2 y29_1).toNat : Nat) : Int)))) (H' := [(0, (rowO byteD (List.set y29_2 (y29_1).toNat (u8 (bitsA .xor .u8 (bitsA .xor .u8 (((List.getD y29_2 (y29_1).toNat default).toNat : Nat) : Int) (((rd a1 y29_1).toNat : Nat) : Int)) (((rd a2 y29_1).toNat : Nat) : Int))))))]) rfl rfl rfl rfl (cellsU8 (u8_bits _ _ _)) byteD_ok rfl b62 rfl rfl rfl ?_
      refine RegV.nil1 (by kernel_rfl) ?_
      refine AWc.rg hmix rfl rfl ?_
      refine RegV.p0 rfl rfl rfl ?_
      refine RegV.p0 (v := (.d (.int .i64 (IntKind.i64.wrap (y29_1 + (1 : Int)))))) rfl rfl rfl ?_
      refine RegV.p0 rfl rfl rfl ?_
      refine RegV.nil0 ?_
      exact ⟨((IntKind.i64.wrap (y29_1 + (1 : Int))), (List.set y29_2 (y29_1).toNat (u8 (bitsA .xor .u8 (bitsA .xor .u8 (((List.getD y29_2 (y29_1).toNat default).toNat : Nat) : Int) (((rd a1 y29_1).toNat : Nat) : Int)) (((rd a2 y29_1).toNat : Nat) : Int))))), h29, ⟨rfl, [], [], rfl, rfl, ⟨⟨_, rfl, (.refl _)⟩, rfl, ⟨⟨_, rfl, (.refl _)⟩, rfl, ⟨⟨_, rfl, (.refl _)⟩, rfl, ⟨⟨_, rfl, (.refl _)⟩, rfl, ⟨⟨_, rfl, (.refl _)⟩, rfl, ⟨⟨_, rfl, (.refl _)⟩, rfl, trivial⟩⟩⟩⟩⟩⟩, ⟨⟨_, rfl, (.refl _)⟩, rfl, rfl, trivial⟩⟩⟩
    · have h29 := cond_neg c38 h29
      cases h29
      dsimp only at h
      refine AWc.exit ?_
      refine inBlk_eq ?_
      exact ⟨y29_2, h, ⟨rfl, [], [], rfl, rfl, ⟨⟨_, rfl, (.refl _)⟩, rfl, ⟨⟨_, rfl, (.refl _)⟩, rfl, ⟨⟨_, rfl, (.refl _)⟩, rfl, ⟨⟨_, rfl, (.refl _)⟩, rfl, ⟨⟨_, rfl, (.refl _)⟩, rfl, trivial⟩⟩⟩⟩⟩, ⟨⟨_, rfl, (.refl _)⟩, rfl, rfl, trivial⟩⟩⟩
  · intro j68_1 h
    unfold f220_j68 at h
    refine AWc.seq ?_
    refine AWc.rg hmix rfl rfl ?_
    obtain ⟨r71, e71, h⟩ := bind_some h
    refine RegV.call0 (F217 hmix hc.2.2.1 e71) rfl rfl rfl rfl .nil rfl ?_
    refine RegV.p0 rfl rfl rfl ?_
    refine RegV.split (fun c72 => ?_) (fun c72 => ?_)
    · have h := cond_pos c72 h
      refine RegV.p0 rfl rfl rfl ?_
      obtain ⟨r74, e74, h⟩ := bind_some h
      refine RegV.callS (q := true) (H' := [(0, (rowO byteD j68_1))]) (c' := 1) (show ACalls P (N 263) [(.row 0 1 ((sl a0 (0 : Int) (min (min ((a0.length : Nat) : Int) ((a1.length : Nat) : Int)) ((a2.length : Nat) : Int))).length))] [(0, (rowO byteD j68_1))] (.d (.int .u32 r74)) [(0, (rowO byteD j68_1))] from ACalls.use (F263v2 hmix hc.2.2.2.1 e74) [(0, 0)] 1 rfl) rfl rfl rfl rfl (.cons (.refl _) .nil) (.refl _) (fun _ => rfl) rfl (hasCons rfl hasNil) rfl rfl rfl rfl ?_
      refine RegV.p0 rfl rfl rfl ?_
      refine RegV.p0 rfl rfl rfl ?_
      obtain ⟨b77, h⟩ := gd_some h
      refine RegV.slc (xs := a0) (e := byteD) (lo := (0 : Int)) (hi := (min (min ((a0.length : Nat) : Int) ((a1.length : Nat) : Int)) ((a2.length : Nat) : Int))) rfl rfl rfl b77 (fun _ => rfl) rfl ?_
      obtain ⟨r78, e78, h⟩ := bind_some h
      refine RegV.call0 (F263 hmix hc.2.2.2.2 e78) rfl rfl rfl rfl (.cons (.refl _) .nil) rfl ?_
      refine RegV.p0 rfl rfl rfl ?_
      refine RegV.p0 rfl rfl rfl ?_
      obtain ⟨b81, h⟩ := gd_some h
      refine RegV.slc (xs := a1) (e := byteD) (lo := (0 : Int)) (hi := (min (min ((a0.length : Nat) : Int) ((a1.length : Nat) : Int)) ((a2.length : Nat) : Int))) rfl rfl rfl b81 (fun _ => rfl) rfl ?_
      obtain ⟨r82, e82, h⟩ := bind_some h
      refine RegV.call0 (F263 hmix hc.2.2.2.2 e82) rfl rfl rfl rfl (.cons (.refl _) .nil) rfl ?_
      refine RegV.p0 (v := (.d (.int .u32 (bitsA .xor .u32 r78 r82)))) rfl rfl rfl ?_
      refine RegV.p0 rfl rfl rfl ?_
      refine RegV.p0 rfl rfl rfl ?_
      obtain ⟨b86, h⟩ := gd_some h
      refine RegV.slc (xs := a2) (e := byteD) (lo := (0 : Int)) (hi := (min (min ((a0.length : Nat) : Int) ((a1.length : Nat) : Int)) ((a2.length : Nat) : Int))) rfl rfl rfl b86 (fun _ => rfl) rfl ?_
      obtain ⟨r87, e87, h⟩ := bind_some h
      refine RegV.call0 (F263 hmix hc.2.2.2.2 e87) rfl rfl rfl rfl (.cons (.refl _) .nil) rfl ?_
      refine RegV.p0 (v := (.d (.int .u32 (bitsA .xor .u32 (bitsA .xor .u32 r78 r82) r87)))) rfl rfl rfl ?_
      refine RegV.p0 (v := (.d (.bool (decide (r74 = (bitsA .xor .u32 (bitsA .xor .u32 r78 r82) r87)))))) rfl rfl rfl ?_
      refine RegV.p0 rfl rfl rfl ?_
      refine RegV.p0 rfl rfl rfl ?_
      refine RegV.nil1 (by kernel_rfl) ?_
      have hr := Option.some.inj h
      subst hr
      exact AWc.ret (canQ (N := 63) (k := 0) (l' := [(6, (.d (.bool (decide (r74 = (bitsA .xor .u32 (bitsA .xor .u32 r78 r82) r87))))))]) (H' := []) rfl ⟨rfl, [], [], rfl, rfl, ⟨⟨_, rfl, (.refl _)⟩, rfl, trivial⟩,  trivial⟩ (doneA (.inr rfl) rfl ⟨trivial, trivial⟩ (.refl _) hasNil))
    · have h := cond_neg c72 h
      refine RegV.noS rfl rfl ?_
      refine RegV.noS rfl rfl ?_
      refine RegV.noS rfl rfl ?_
      refine RegV.noS rfl rfl ?_
      refine RegV.noS rfl rfl ?_
      refine RegV.noS rfl rfl ?_
      refine RegV.noS rfl rfl ?_
      refine RegV.noS rfl rfl ?_
      refine RegV.noS rfl rfl ?_
      refine RegV.noS rfl rfl ?_
      refine RegV.noS rfl rfl ?_
      refine RegV.noS rfl rfl ?_
      refine RegV.noS rfl rfl ?_
      refine RegV.noS rfl rfl ?_
      refine RegV.noS rfl rfl ?_
      refine RegV.noS rfl rfl ?_
      refine RegV.noS rfl rfl ?_
      refine RegV.p0 rfl rfl rfl ?_
      refine RegV.p0 rfl rfl rfl ?_
      refine RegV.nil1 (by kernel_rfl) ?_
      have hr := Option.some.inj h
      subst hr
      exact AWc.ret (canQ (N := 63) (k := 0) (l' := [(6, (.d (.bool false)))]) (H' := []) rfl ⟨rfl, [], [], rfl, rfl, ⟨⟨_, rfl, (.refl _)⟩, rfl, trivial⟩,  trivial⟩ (doneA (.inr rfl) rfl ⟨trivial, trivial⟩ (.refl _) hasNil))
end Go.Proofs.Abs
