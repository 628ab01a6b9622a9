/- Written by gen.py: functions of the program as Lean functions, and that the code comes to them. -/
import Derived.Test.YtgimibhacllcpaaGFrm
set_option linter.unusedVariables false
set_option linter.unusedSimpArgs false
set_option maxRecDepth 100000
set_option maxHeartbeats 4000000
namespace Go.Proofs.Abs
open Go
structure TRec where
  fOffset : Int
  fData : (List UInt8)
instance : Inhabited TRec := ⟨⟨default, default⟩⟩
instance : DecidableEq TRec := fun a b => decidable_of_iff (a.fOffset = b.fOffset ∧ a.fData = b.fData ∧ True) ⟨fun h => by cases a; cases b; simp_all, fun h => by subst h; simp⟩
def TRec.enc (x : TRec) : D := .agg [.int .u64 x.fOffset, .sl (List.map byteD x.fData)]
theorem TRec.ok : EncOK TRec.enc 2 true := ⟨fun _ => rfl, fun _ c hc => by simp only [TRec.enc, D.cells, List.mem_cons, List.not_mem_nil, or_false] at hc; rcases hc with rfl | rfl <;> rfl, fun _ => rfl⟩
def TRec.wf (x : TRec) : Prop := (0 ≤ x.fOffset ∧ x.fOffset ≤ 18446744073709551615) ∧ (∀ e0 ∈ x.fData, True) ∧ True
def TRec.sz (x : TRec) : Nat := (1 + (((x.fData.map (fun _ => 1)).sum + 1) + 0)) + 1
structure Tsegment_place where
  fr : TRec
  fat : Int
instance : Inhabited Tsegment_place := ⟨⟨default, default⟩⟩
instance : DecidableEq Tsegment_place := fun a b => decidable_of_iff (a.fr = b.fr ∧ a.fat = b.fat ∧ True) ⟨fun h => by cases a; cases b; simp_all, fun h => by subst h; simp⟩
def Tsegment_place.enc (x : Tsegment_place) : D := .agg [.int .u64 x.fr.fOffset, .sl (List.map byteD x.fr.fData), .int .i64 x.fat]
theorem Tsegment_place.ok : EncOK Tsegment_place.enc 3 true := ⟨fun _ => rfl, fun _ c hc => by simp only [Tsegment_place.enc, D.cells, List.mem_cons, List.not_mem_nil, or_false] at hc; rcases hc with rfl | rfl | rfl <;> rfl, fun _ => rfl⟩
def Tsegment_place.wf (x : Tsegment_place) : Prop := TRec.wf x.fr ∧ (-9223372036854775808 ≤ x.fat ∧ x.fat ≤ 9223372036854775807) ∧ True
def Tsegment_place.sz (x : Tsegment_place) : Nat := (TRec.sz x.fr + (1 + 0)) + 1
/-- courant/frame.take -/
def C275 (N : Nat → Nat) : AFunc := { n := 19, params := 1, res := [.tmp 2], body :=
 (.seq (.region false [⟨(some 2), .mv (.k (.d (.int .u64 0))), none, []⟩])
  (.seq (.region false [⟨(some 3), .mv (.k (.d (.int .u64 0))), none, []⟩])
   (.seq (.seq (.region false [⟨(some 6), .mv (.t 0), none, []⟩,
      ⟨(some 7), .len (.t 6), none, [0]⟩,
      ⟨(some 8), .mv (.k (.d (.int .i64 0))), none, []⟩])
     (.block 0 (.loop (.seq (.region false [⟨(some 9), .bin .lss (.t 8) (.t 7), none, []⟩])
        (.seq (.cond (.t 9) (.skip)
          (.exit 0))
         (.seq (.block 1 (.seq (.region false [⟨(some 10), .iaddr (.t 6) (.t 8) 1, none, []⟩,
             ⟨(some 11), .load (.t 10) 1 false, none, [0]⟩,
             ⟨(some 5), .mv (.t 11), none, [1, 0]⟩])
            (.region false [⟨(some 12), .mv (.t 3), none, []⟩,
             ⟨(some 13), .bin .shl (.t 12) (.k (.d (.int .u64 8))), none, [0]⟩,
             ⟨(some 14), .mv (.t 5), none, []⟩,
             ⟨(some 15), .cvi .u64 (.t 14), none, [2]⟩,
             ⟨(some 16), .bin .or (.t 13) (.t 15), none, [1, 3]⟩,
             ⟨(some 3), .mv (.t 16), none, [4, 0, 1, 2, 3]⟩])))
          (.region false [⟨(some 17), .bin .add (.t 8) (.k (.d (.int .i64 1))), none, []⟩,
           ⟨(some 8), .mv (.t 17), none, [0]⟩])))))))
    (.seq (.region false [⟨(some 18), .mv (.t 3), none, []⟩,
      ⟨(some 2), .mv (.t 18), none, [0]⟩])
     .ret)))) }
def HC275 (P : Program) (N : Nat → Nat) : Prop := HasF P (N 275) (C275 N)
def f275_l16 (a0 : (List UInt8)) : Nat → Int → Int → Option (LR2 Int Unit Int)
  | 0, _, _ => none
  | k + 1, y16_1, y16_2 => cond (decide (y16_2 < ((a0.length : Nat) : Int))) (gd (0 ≤ y16_2 ∧ y16_2 < ((a0.length : Nat) : Int)) (f275_l16 a0 k (bitsA .or .u64 (IntKind.u64.wrap (y16_1 * 2 ^ (min ((8 : Int)).toNat IntKind.u64.bits))) (IntKind.u64.wrap (((rd a0 y16_2).toNat : Nat) : Int))) (IntKind.i64.wrap (y16_2 + (1 : Int))))) (some (.b0 y16_1))
def f275 (k : Nat) (a0 : (List UInt8)) : Option Int := (f275_l16 a0 k (0 : Int) (0 : Int)).bind fun o16 => match o16 with | .b0 x16_1 => some x16_1 | _ => none
theorem F275 {P : Program} {N : Nat → Nat} (hmix : P.follows .mixedOrders = true) (hc : HC275 P N) {k : Nat} {a0 : (List UInt8)} {r : Int} (h : f275 k a0 = some r) :
    ACalls P (N 275) [(.d (.sl (List.map byteD a0)))] [] (.d (.int .u64 r)) [] := by
  refine acalls_canon (F := C275 N) hc 0 0 rfl ?_
  unfold f275 at h
  dsimp only [C275, startL]
  refine AWc.seq ?_
  refine AWc.rg hmix rfl rfl ?_
  refine RegV.p0 rfl rfl rfl ?_
  refine RegV.nil0 ?_
  refine AWc.seq ?_
  refine AWc.rg hmix rfl rfl ?_
  refine RegV.p0 rfl rfl rfl ?_
  refine RegV.nil0 ?_
  refine AWc.seq ?_
  refine AWc.seq ?_
  refine AWc.rg hmix rfl rfl ?_
  refine RegV.p0 rfl rfl rfl ?_
  refine RegV.len (xs := a0) (e := byteD) rfl rfl rfl rfl ?_
  refine RegV.p0 rfl rfl rfl ?_
  refine RegV.nil0 ?_
  obtain ⟨o16, h16, h⟩ := bind_some h
  refine AWc.block ?_
  refine AWc.loopK (N := 19) 0 (fun (x : (Int × Int)) => [(3, (.d (.int .u64 x.1))), (6, (.d (.sl (List.map byteD a0)))), (7, (.d (.int .i64 ((a0.length : Nat) : Int)))), (8, (.d (.int .i64 x.2)))]) (fun x => []) (fun k x => f275_l16 a0 k x.1 x.2 = some o16) k ((0 : Int), (0 : Int)) rfl_le (fun x hx => by cases hx) h16 ⟨rfl, [], [], rfl, rfl, ⟨⟨_, rfl, (.refl _)⟩, rfl, ⟨⟨_, rfl, (.refl _)⟩, rfl, ⟨⟨_, rfl, (.refl _)⟩, rfl, ⟨⟨_, rfl, (.refl _)⟩, rfl, trivial⟩⟩⟩⟩,  trivial⟩ ?_
  clear h16
  intro k
  rintro ⟨y16_1, y16_2⟩ h16
  dsimp only at h16 ⊢
  rw [f275_l16] at h16
  refine AWc.seq ?_
  refine AWc.rg hmix rfl rfl ?_
  refine RegV.p0 (v := (.d (.bool (decide (y16_2 < ((a0.length : Nat) : Int)))))) rfl rfl rfl ?_
  refine RegV.nil0 ?_
  refine AWc.seq ?_
  refine AWc.cond rfl (fun c23 => ?_) (fun c23 => ?_)
  · have h16 := cond_pos c23 h16
    refine AWc.skip ?_
    refine AWc.seq ?_
    refine AWc.block ?_
    refine AWc.seq ?_
    refine AWc.rg hmix rfl rfl ?_
    obtain ⟨b31, h16⟩ := gd_some h16
    refine RegV.iad (xs := a0) (e := byteD) rfl rfl rfl rfl (fun _ => rfl) b31 rfl ?_
    refine RegV.p0 (v := (.d (.int .u8 (((rd a0 y16_2).toNat : Nat) : Int)))) rfl rfl rfl ?_
    refine RegV.p0 rfl rfl rfl ?_
    refine RegV.nil0 ?_
    refine AWc.rg hmix rfl rfl ?_
    refine RegV.p0 rfl rfl rfl ?_
    refine RegV.p1 (v := (.d (.int .u64 (IntKind.u64.wrap (y16_1 * 2 ^ (min ((8 : Int)).toNat IntKind.u64.bits)))))) rfl rfl (by decide) rfl rfl ?_
    refine RegV.p0 rfl rfl rfl ?_
    refine RegV.p0 (v := (.d (.int .u64 (IntKind.u64.wrap (((rd a0 y16_2).toNat : Nat) : Int))))) rfl rfl rfl ?_
    refine RegV.p0 (v := (.d (.int .u64 (bitsA .or .u64 (IntKind.u64.wrap (y16_1 * 2 ^ (min ((8 : Int)).toNat IntKind.u64.bits))) (IntKind.u64.wrap (((rd a0 y16_2).toNat : Nat) : Int)))))) rfl rfl rfl ?_
    refine RegV.p0 rfl rfl rfl ?_
    refine RegV.nil0 ?_
    refine AWc.rg hmix rfl rfl ?_
    refine RegV.p0 (v := (.d (.int .i64 (IntKind.i64.wrap (y16_2 + (1 : Int)))))) rfl rfl rfl ?_
    refine RegV.p0 rfl rfl rfl ?_
    refine RegV.nil0 ?_
    exact ⟨((bitsA .or .u64 (IntKind.u64.wrap (y16_1 * 2 ^ (min ((8 : Int)).toNat IntKind.u64.bits))) (IntKind.u64.wrap (((rd a0 y16_2).toNat : Nat) : Int))), (IntKind.i64.wrap (y16_2 + (1 : Int)))), h16, ⟨rfl, [], [], rfl, rfl, ⟨⟨_, rfl, (.refl _)⟩, rfl, ⟨⟨_, rfl, (.refl _)⟩, rfl, ⟨⟨_, rfl, (.refl _)⟩, rfl, ⟨⟨_, rfl, (.refl _)⟩, rfl, trivial⟩⟩⟩⟩,  trivial⟩⟩
  · have h16 := cond_neg c23 h16
    cases h16
    dsimp only at h
    refine AWc.exit ?_
    refine inBlk_eq ?_
    refine AWc.seq ?_
    refine AWc.rg hmix rfl rfl ?_
    refine RegV.p0 rfl rfl rfl ?_
    refine RegV.p0 rfl rfl rfl ?_
    refine RegV.nil0 ?_
    have hr := Option.some.inj h
    subst hr
    exact AWc.ret (canQ (N := 19) (k := 0) (l' := [(2, (.d (.int .u64 y16_1)))]) (H' := []) rfl ⟨rfl, [], [], rfl, rfl, ⟨⟨_, rfl, (.refl _)⟩, rfl, trivial⟩,  trivial⟩ (doneA (.inr rfl) rfl ⟨trivial, trivial⟩ (.refl _) hasNil))
/-- slices.Clone[[]byte,byte] -/
def C87 (N : Nat → Nat) : AFunc := { n := 8, params := 1, res := [.tmp 2], body :=
 (.seq (.region false [⟨(some 2), .mv (.k .nils), none, []⟩])
  (.seq (.seq (.region false [⟨(some 3), .mv (.t 0), none, []⟩,
     ⟨(some 4), .nileq 0 false (.t 3) (.k .nils), none, [0]⟩])
    (.cond (.t 4) (.seq (.region false [⟨(some 2), .mv (.k .nils), none, []⟩])
      .ret)
     (.skip)))
   (.seq (.region false [⟨(some 5), .bslice 0 1 [(.int .u8 0)] [], none, []⟩,
     ⟨(some 6), .mv (.t 0), none, []⟩,
     ⟨(some 7), .app (.t 5) (.t 6) 1 1 [(.int .u8 0)], none, [0, 1]⟩,
     ⟨(some 2), .mv (.t 7), none, [2, 0, 1]⟩])
    .ret))) }
def HC87 (P : Program) (N : Nat → Nat) : Prop := HasF P (N 87) (C87 N)
def f87 (k : Nat) (a0 : List UInt8) : Option (List UInt8) := gd (a0.length * 2 * 1 ≤ 281474976710656) (some a0)
theorem F87 {P : Program} {N : Nat → Nat} (hmix : P.follows .mixedOrders = true) (hc : HC87 P N) {k : Nat} {a0 r : List UInt8} (h : f87 k a0 = some r) :
    ACalls P (N 87) [(.d (.sl (List.map byteD a0)))] [] (.ap 0 1 (List.map byteD r)) [(0, (.tok ((List.map byteD r).length * 1)))] := by
  unfold f87 at h
  obtain ⟨b, h⟩ := gd_some h
  cases h
  exact clone_gen hmix byteD_ok hc rfl rfl b
/-- courant/frame.Take -/
def C274 (N : Nat → Nat) : AFunc := { n := 48, params := 1, res := [.cell 2 2 true, .tmp 3, .tmp 4], body :=
 (.seq (.region false [⟨(some 2), .alloc [(.int .u64 0), (.sl [])], none, []⟩,
   ⟨(some 3), .mv (.k (.d (.int .i64 0))), none, []⟩,
   ⟨(some 4), .mv (.k (.d (.int .i64 0))), none, [1]⟩])
  (.seq (.seq (.region false [⟨(some 7), .mv (.t 0), none, []⟩,
     ⟨(some 8), .len (.t 7), none, [0]⟩,
     ⟨(some 9), .bin .lss (.t 8) (.k (.d (.int .i64 16))), none, [1]⟩])
    (.cond (.t 9) (.seq (.region false [⟨(some 10), .build [(.int .u64 0), (.sl [])] [], none, []⟩,
       ⟨none, .store (.t 2) (.t 10) 2, none, [0]⟩,
       ⟨(some 3), .mv (.k (.d (.int .i64 0))), none, [1, 0]⟩,
       ⟨(some 4), .mv (.k (.d (.int .i64 3))), none, [2, 0, 1]⟩])
      .ret)
     (.skip)))
   (.seq (.region false [⟨(some 11), .mv (.t 0), none, []⟩,
     ⟨(some 12), .slc (.t 11) none (some (.k (.d (.int .i64 4)))) none 1, none, [0]⟩,
     ⟨(some 13), .call (.k (.d (.fn (N 275)))) [(.t 12)], none, [1]⟩,
     ⟨(some 5), .mv (.t 13), none, [2, 0, 1]⟩])
    (.seq (.block 0 (.seq (.region false [⟨(some 15), .mv (.t 5), none, []⟩,
        ⟨(some 16), .bin .gtr (.t 15) (.k (.d (.int .u64 32768))), none, [0]⟩,
        ⟨(some 14), .mv (.t 16), none, [1]⟩])
       (.cond (.t 14) (.seq (.region false [⟨(some 17), .build [(.int .u64 0), (.sl [])] [], none, []⟩,
          ⟨none, .store (.t 2) (.t 17) 2, none, [0]⟩,
          ⟨(some 3), .mv (.k (.d (.int .i64 0))), none, [1, 0]⟩,
          ⟨(some 4), .mv (.k (.d (.int .i64 5))), none, [2, 0, 1]⟩])
         .ret)
        (.seq (.region false [⟨(some 19), .mv (.t 5), none, []⟩,
          ⟨(some 20), .mv (.t 0), none, []⟩,
          ⟨(some 21), .len (.t 20), none, [1]⟩,
          ⟨(some 22), .bin .sub (.t 21) (.k (.d (.int .i64 16))), none, [2]⟩,
          ⟨(some 23), .cvi .u64 (.t 22), none, [3]⟩,
          ⟨(some 24), .bin .gtr (.t 19) (.t 23), none, [0, 4]⟩,
          ⟨(some 18), .mv (.t 24), none, [5]⟩])
         (.cond (.t 18) (.seq (.region false [⟨(some 25), .build [(.int .u64 0), (.sl [])] [], none, []⟩,
            ⟨none, .store (.t 2) (.t 25) 2, none, [0]⟩,
            ⟨(some 3), .mv (.k (.d (.int .i64 0))), none, [1, 0]⟩,
            ⟨(some 4), .mv (.k (.d (.int .i64 3))), none, [2, 0, 1]⟩])
           .ret)
          (.skip))))))
     (.seq (.region false [⟨(some 26), .mv (.t 5), none, []⟩,
       ⟨(some 27), .cvi .i64 (.t 26), none, [0]⟩,
       ⟨(some 28), .bin .add (.k (.d (.int .i64 16))) (.t 27), none, [1]⟩,
       ⟨(some 6), .mv (.t 28), none, [2, 0, 1]⟩])
      (.seq (.seq (.region true [⟨(some 29), .mv (.t 0), none, []⟩,
         ⟨(some 30), .mv (.t 6), none, []⟩,
         ⟨(some 31), .slc (.t 29) (some (.k (.d (.int .i64 8)))) (some (.t 30)) none 1, none, [0, 1]⟩,
         ⟨(some 32), .call (.k (.d (.fn (N 263)))) [(.t 31)], none, [2]⟩,
         ⟨(some 33), .cvi .u64 (.t 32), none, [3]⟩,
         ⟨(some 34), .mv (.t 0), none, []⟩,
         ⟨(some 35), .slc (.t 34) (some (.k (.d (.int .i64 4)))) (some (.k (.d (.int .i64 8)))) none 1, none, [5]⟩,
         ⟨(some 36), .call (.k (.d (.fn (N 275)))) [(.t 35)], none, [6, 3]⟩,
         ⟨(some 37), .bin .neq (.t 33) (.t 36), none, [4, 7]⟩])
        (.cond (.t 37) (.seq (.region false [⟨(some 38), .build [(.int .u64 0), (.sl [])] [], none, []⟩,
           ⟨none, .store (.t 2) (.t 38) 2, none, [0]⟩,
           ⟨(some 3), .mv (.k (.d (.int .i64 0))), none, [1, 0]⟩,
           ⟨(some 4), .mv (.k (.d (.int .i64 4))), none, [2, 0, 1]⟩])
          .ret)
         (.skip)))
       (.seq (.region true [⟨(some 39), .mv (.t 0), none, []⟩,
         ⟨(some 40), .slc (.t 39) (some (.k (.d (.int .i64 8)))) (some (.k (.d (.int .i64 16)))) none 1, none, [0]⟩,
         ⟨(some 41), .call (.k (.d (.fn (N 275)))) [(.t 40)], none, [1]⟩,
         ⟨(some 42), .mv (.t 0), none, []⟩,
         ⟨(some 43), .mv (.t 6), none, []⟩,
         ⟨(some 44), .slc (.t 42) (some (.k (.d (.int .i64 16)))) (some (.t 43)) none 1, none, [3, 4]⟩,
         ⟨(some 45), .call (.k (.d (.fn (N 87)))) [(.t 44)], none, [5, 2]⟩,
         ⟨(some 46), .build [(.int .u64 0), (.sl [])] [(0, 1, (.t 41)), (1, 1, (.t 45))], none, [2, 6]⟩,
         ⟨(some 47), .mv (.t 6), none, []⟩,
         ⟨none, .store (.t 2) (.t 46) 2, none, [7, 6, 0, 1, 2, 3, 4, 5]⟩,
         ⟨(some 3), .mv (.t 47), none, [8, 9, 0, 1, 2, 3, 4, 5, 6, 7]⟩,
         ⟨(some 4), .mv (.k (.d (.int .i64 0))), none, [10, 0, 1, 2, 3, 4, 5, 6, 7, 8, 9]⟩])
        .ret))))))) }
def HC274 (P : Program) (N : Nat → Nat) : Prop := HasF P (N 274) (C274 N) ∧ HC275 P N ∧ HC263 P N ∧ HC87 P N
def f274 (k : Nat) (a0 : (List UInt8)) : Option (Int × Int × Int × (List UInt8)) := cond (decide (((a0.length : Nat) : Int) < (16 : Int))) (some ((0 : Int), (3 : Int), (0 : Int), ([] : List UInt8))) (gd (0 ≤ (0 : Int) ∧ (0 : Int) ≤ (4 : Int) ∧ (4 : Int) ≤ ((a0.length : Nat) : Int)) ((f275 k (sl a0 (0 : Int) (4 : Int))).bind fun r29 => cond (decide (r29 > (32768 : Int))) (some ((0 : Int), (5 : Int), (0 : Int), ([] : List UInt8))) (cond (decide (r29 > (IntKind.u64.wrap (IntKind.i64.wrap (((a0.length : Nat) : Int) - (16 : Int)))))) (some ((0 : Int), (3 : Int), (0 : Int), ([] : List UInt8))) (gd (0 ≤ (8 : Int) ∧ (8 : Int) ≤ (IntKind.i64.wrap ((16 : Int) + (IntKind.i64.wrap r29))) ∧ (IntKind.i64.wrap ((16 : Int) + (IntKind.i64.wrap r29))) ≤ ((a0.length : Nat) : Int)) ((f263 k (sl a0 (8 : Int) (IntKind.i64.wrap ((16 : Int) + (IntKind.i64.wrap r29))))).bind fun r82 => gd (0 ≤ (4 : Int) ∧ (4 : Int) ≤ (8 : Int) ∧ (8 : Int) ≤ ((a0.length : Nat) : Int)) ((f275 k (sl a0 (4 : Int) (8 : Int))).bind fun r86 => cond (decide ((IntKind.u64.wrap r82) ≠ r86)) (some ((0 : Int), (4 : Int), (0 : Int), ([] : List UInt8))) (gd (0 ≤ (8 : Int) ∧ (8 : Int) ≤ (16 : Int) ∧ (16 : Int) ≤ ((a0.length : Nat) : Int)) ((f275 k (sl a0 (8 : Int) (16 : Int))).bind fun r103 => gd (0 ≤ (16 : Int) ∧ (16 : Int) ≤ (IntKind.i64.wrap ((16 : Int) + (IntKind.i64.wrap r29))) ∧ (IntKind.i64.wrap ((16 : Int) + (IntKind.i64.wrap r29))) ≤ ((a0.length : Nat) : Int)) ((f87 k (sl a0 (16 : Int) (IntKind.i64.wrap ((16 : Int) + (IntKind.i64.wrap r29))))).bind fun r107 => some ((IntKind.i64.wrap ((16 : Int) + (IntKind.i64.wrap r29))), (0 : Int), r103, r107))))))))))
theorem F274 {P : Program} {N : Nat → Nat} (hmix : P.follows .mixedOrders = true) (hc : HC274 P N) {k : Nat} {a0 : (List UInt8)} {r : (Int × Int × Int × (List UInt8))} (h : f274 k a0 = some r) :
    ACalls P (N 274) [(.d (.sl (List.map byteD a0)))] [] (.tup [(.d (.agg [(.int .u64 r.2.2.1), (.sl (List.map byteD r.2.2.2))])), (.d (.int .i64 r.1)), (.d (.int .i64 r.2.1))]) [] := by
  refine acalls_canon (F := C274 N) hc.1 0 0 rfl ?_
  unfold f274 at h
  dsimp only [C274, startL]
  refine AWc.seq ?_
  refine AWc.rg hmix rfl rfl ?_
  refine RegV.evS (own := false) (v := (.ptr 0 0)) (H' := [(0, (.cells [(.d (.int .u64 (0 : Int))), .nils]))]) (c' := 1) rfl rfl trivial rfl rfl rfl rfl rfl rfl ?_
  refine RegV.p0 rfl rfl rfl ?_
  refine RegV.p0 rfl rfl rfl ?_
  refine RegV.nil0 ?_
  refine AWc.seq ?_
  refine AWc.seq ?_
  refine AWc.rg hmix rfl rfl ?_
  refine RegV.p0 rfl rfl rfl ?_
  refine RegV.len (xs := a0) (e := byteD) rfl rfl rfl rfl ?_
  refine RegV.p0 (v := (.d (.bool (decide (((a0.length : Nat) : Int) < (16 : Int)))))) rfl rfl rfl ?_
  refine RegV.nil0 ?_
  refine AWc.cond rfl (fun c14 => ?_) (fun c14 => ?_)
  · have h := cond_pos c14 h
    refine AWc.seq ?_
    refine AWc.rg hmix rfl rfl ?_
    refine RegV.p1 (v := (.d (.agg [(.int .u64 (0 : Int)), (.sl (List.map byteD ([] : List UInt8)))]))) rfl rfl trivial rfl rfl ?_
    refine RegV.evN (own := false) (H' := [(0, (.cells [(.d (.int .u64 (0 : Int))), (.d (.sl (List.map byteD ([] : List UInt8))))]))]) (c' := 1) rfl rfl (by exact ⟨rfl, Nat.le_of_ble_eq_true rfl, rfl⟩) rfl rfl rfl rfl ?_
    refine RegV.p0 rfl rfl rfl ?_
    refine RegV.p0 rfl rfl rfl ?_
    refine RegV.nil0 ?_
    have hr := Option.some.inj h
    subst hr
    exact AWc.ret (canQ (N := 48) (k := 1) (l' := [(2, (.ptr 0 0)), (3, (.d (.int .i64 (0 : Int)))), (4, (.d (.int .i64 (3 : Int))))]) (H' := [(0, (.cells [(.d (.int .u64 (0 : Int))), (.d (.sl (List.map byteD ([] : List UInt8))))]))]) rfl ⟨rfl, [], [], rfl, rfl, ⟨⟨_, rfl, (.refl _)⟩, rfl, ⟨⟨_, rfl, (.refl _)⟩, rfl, ⟨⟨_, rfl, (.refl _)⟩, rfl, trivial⟩⟩⟩, ⟨⟨_, rfl, (.refl _)⟩, rfl, rfl, trivial⟩⟩ (doneA (.inr rfl) rfl ⟨(Nat.le_of_ble_eq_true rfl), ⟨trivial, ⟨trivial, trivial⟩⟩⟩ (.refl _) hasNil))
  · have h := cond_neg c14 h
    refine AWc.skip ?_
    refine AWc.seq ?_
    refine AWc.rg hmix rfl rfl ?_
    refine RegV.p0 rfl rfl rfl ?_
    obtain ⟨b28, h⟩ := gd_some h
    refine RegV.slc (xs := a0) (e := byteD) (lo := (0 : Int)) (hi := (4 : Int)) rfl rfl rfl b28 (fun _ => rfl) rfl ?_
    obtain ⟨r29, e29, h⟩ := bind_some h
    refine RegV.call0 (F275 hmix hc.2.1 e29) rfl rfl rfl rfl (.cons (.refl _) .nil) rfl ?_
    refine RegV.p0 rfl rfl rfl ?_
    refine RegV.nil0 ?_
    refine AWc.seq ?_
    refine AWc.block ?_
    refine AWc.seq ?_
    refine AWc.rg hmix rfl rfl ?_
    refine RegV.p0 rfl rfl rfl ?_
    refine RegV.p0 (v := (.d (.bool (decide (r29 > (32768 : Int)))))) rfl rfl rfl ?_
    refine RegV.p0 rfl rfl rfl ?_
    refine RegV.nil0 ?_
    refine AWc.cond rfl (fun c39 => ?_) (fun c39 => ?_)
    · have h := cond_pos c39 h
      refine AWc.seq ?_
      refine AWc.rg hmix rfl rfl ?_
      refine RegV.p1 (v := (.d (.agg [(.int .u64 (0 : Int)), (.sl (List.map byteD ([] : List UInt8)))]))) rfl rfl trivial rfl rfl ?_
      refine RegV.evN (own := false) (H' := [(0, (.cells [(.d (.int .u64 (0 : Int))), (.d (.sl (List.map byteD ([] : List UInt8))))]))]) (c' := 1) rfl rfl (by exact ⟨rfl, Nat.le_of_ble_eq_true rfl, rfl⟩) rfl rfl rfl rfl ?_
      refine RegV.p0 rfl rfl rfl ?_
      refine RegV.p0 rfl rfl rfl ?_
      refine RegV.nil0 ?_
      have hr := Option.some.inj h
      subst hr
      exact AWc.ret (canQ (N := 48) (k := 1) (l' := [(2, (.ptr 0 0)), (3, (.d (.int .i64 (0 : Int)))), (4, (.d (.int .i64 (5 : Int))))]) (H' := [(0, (.cells [(.d (.int .u64 (0 : Int))), (.d (.sl (List.map byteD ([] : List UInt8))))]))]) rfl ⟨rfl, [], [], rfl, rfl, ⟨⟨_, rfl, (.refl _)⟩, rfl, ⟨⟨_, rfl, (.refl _)⟩, rfl, ⟨⟨_, rfl, (.refl _)⟩, rfl, trivial⟩⟩⟩, ⟨⟨_, rfl, (.refl _)⟩, rfl, rfl, trivial⟩⟩ (doneA (.inr rfl) rfl ⟨(Nat.le_of_ble_eq_true rfl), ⟨trivial, ⟨trivial, trivial⟩⟩⟩ (.refl _) hasNil))
    · have h := cond_neg c39 h
      refine AWc.seq ?_
      refine AWc.rg hmix rfl rfl ?_
      refine RegV.p0 rfl rfl rfl ?_
      refine RegV.p0 rfl rfl rfl ?_
      refine RegV.len (xs := a0) (e := byteD) rfl rfl rfl rfl ?_
      refine RegV.p0 (v := (.d (.int .i64 (IntKind.i64.wrap (((a0.length : Nat) : Int) - (16 : Int)))))) rfl rfl rfl ?_
      refine RegV.p0 (v := (.d (.int .u64 (IntKind.u64.wrap (IntKind.i64.wrap (((a0.length : Nat) : Int) - (16 : Int))))))) rfl rfl rfl ?_
      refine RegV.p0 (v := (.d (.bool (decide (r29 > (IntKind.u64.wrap (IntKind.i64.wrap (((a0.length : Nat) : Int) - (16 : Int))))))))) rfl rfl rfl ?_
      refine RegV.p0 rfl rfl rfl ?_
      refine RegV.nil0 ?_
      refine AWc.cond rfl (fun c58 => ?_) (fun c58 => ?_)
      · have h := cond_pos c58 h
        refine AWc.seq ?_
        refine AWc.rg hmix rfl rfl ?_
        refine RegV.p1 (v := (.d (.agg [(.int .u64 (0 : Int)), (.sl (List.map byteD ([] : List UInt8)))]))) rfl rfl trivial rfl rfl ?_
        refine RegV.evN (own := false) (H' := [(0, (.cells [(.d (.int .u64 (0 : Int))), (.d (.sl (List.map byteD ([] : List UInt8))))]))]) (c' := 1) rfl rfl (by exact ⟨rfl, Nat.le_of_ble_eq_true rfl, rfl⟩) rfl rfl rfl rfl ?_
        refine RegV.p0 rfl rfl rfl ?_
        refine RegV.p0 rfl rfl rfl ?_
        refine RegV.nil0 ?_
        have hr := Option.some.inj h
        subst hr
        exact AWc.ret (canQ (N := 48) (k := 1) (l' := [(2, (.ptr 0 0)), (3, (.d (.int .i64 (0 : Int)))), (4, (.d (.int .i64 (3 : Int))))]) (H' := [(0, (.cells [(.d (.int .u64 (0 : Int))), (.d (.sl (List.map byteD ([] : List UInt8))))]))]) rfl ⟨rfl, [], [], rfl, rfl, ⟨⟨_, rfl, (.refl _)⟩, rfl, ⟨⟨_, rfl, (.refl _)⟩, rfl, ⟨⟨_, rfl, (.refl _)⟩, rfl, trivial⟩⟩⟩, ⟨⟨_, rfl, (.refl _)⟩, rfl, rfl, trivial⟩⟩ (doneA (.inr rfl) rfl ⟨(Nat.le_of_ble_eq_true rfl), ⟨trivial, ⟨trivial, trivial⟩⟩⟩ (.refl _) hasNil))
      · have h := cond_neg c58 h
        refine AWc.skip ?_
        refine AWc.seq ?_
        refine AWc.rg hmix rfl rfl ?_
        refine RegV.p0 rfl rfl rfl ?_
        refine RegV.p0 (v := (.d (.int .i64 (IntKind.i64.wrap r29)))) rfl rfl rfl ?_
        refine RegV.p0 (v := (.d (.int .i64 (IntKind.i64.wrap ((16 : Int) + (IntKind.i64.wrap r29)))))) rfl rfl rfl ?_
        refine RegV.p0 rfl rfl rfl ?_
        refine RegV.nil0 ?_
        refine AWc.seq ?_
        refine AWc.seq ?_
        refine AWc.rg hmix rfl rfl ?_
        refine RegV.p0 rfl rfl rfl ?_
        refine RegV.p0 rfl rfl rfl ?_
        obtain ⟨b81, h⟩ := gd_some h
        refine RegV.slc (xs := a0) (e := byteD) (lo := (8 : Int)) (hi := (IntKind.i64.wrap ((16 : Int) + (IntKind.i64.wrap r29)))) rfl rfl rfl b81 (fun _ => rfl) rfl ?_
        obtain ⟨r82, e82, h⟩ := bind_some h
        refine RegV.call0 (F263 hmix hc.2.2.1 e82) rfl rfl rfl rfl (.cons (.refl _) .nil) rfl ?_
        refine RegV.p0 (v := (.d (.int .u64 (IntKind.u64.wrap r82)))) rfl rfl rfl ?_
        refine RegV.p0 rfl rfl rfl ?_
        obtain ⟨b85, h⟩ := gd_some h
        refine RegV.slc (xs := a0) (e := byteD) (lo := (4 : Int)) (hi := (8 : Int)) rfl rfl rfl b85 (fun _ => rfl) rfl ?_
        obtain ⟨r86, e86, h⟩ := bind_some h
        refine RegV.call0 (F275 hmix hc.2.1 e86) rfl rfl rfl rfl (.cons (.refl _) .nil) rfl ?_
        refine RegV.p0 (v := (.d (.bool (decide ((IntKind.u64.wrap r82) ≠ r86))))) rfl rfl rfl ?_
        refine RegV.nil1 (by kernel_rfl) ?_
        refine AWc.cond rfl (fun c88 => ?_) (fun c88 => ?_)
        · have h := cond_pos c88 h
          refine AWc.seq ?_
          refine AWc.rg hmix rfl rfl ?_
          refine RegV.p1 (v := (.d (.agg [(.int .u64 (0 : Int)), (.sl (List.map byteD ([] : List UInt8)))]))) rfl rfl trivial rfl rfl ?_
          refine RegV.evN (own := false) (H' := [(0, (.cells [(.d (.int .u64 (0 : Int))), (.d (.sl (List.map byteD ([] : List UInt8))))]))]) (c' := 1) rfl rfl (by exact ⟨rfl, Nat.le_of_ble_eq_true rfl, rfl⟩) rfl rfl rfl rfl ?_
          refine RegV.p0 rfl rfl rfl ?_
          refine RegV.p0 rfl rfl rfl ?_
          refine RegV.nil0 ?_
          have hr := Option.some.inj h
          subst hr
          exact AWc.ret (canQ (N := 48) (k := 1) (l' := [(2, (.ptr 0 0)), (3, (.d (.int .i64 (0 : Int)))), (4, (.d (.int .i64 (4 : Int))))]) (H' := [(0, (.cells [(.d (.int .u64 (0 : Int))), (.d (.sl (List.map byteD ([] : List UInt8))))]))]) rfl ⟨rfl, [], [], rfl, rfl, ⟨⟨_, rfl, (.refl _)⟩, rfl, ⟨⟨_, rfl, (.refl _)⟩, rfl, ⟨⟨_, rfl, (.refl _)⟩, rfl, trivial⟩⟩⟩, ⟨⟨_, rfl, (.refl _)⟩, rfl, rfl, trivial⟩⟩ (doneA (.inr rfl) rfl ⟨(Nat.le_of_ble_eq_true rfl), ⟨trivial, ⟨trivial, trivial⟩⟩⟩ (.refl _) hasNil))
        · have h := cond_neg c88 h
          refine AWc.skip ?_
          refine AWc.seq ?_
          refine AWc.rg hmix rfl rfl ?_
          refine RegV.p0 rfl rfl rfl ?_
          obtain ⟨b102, h⟩ := gd_some h
          refine RegV.slc (xs := a0) (e := byteD) (lo := (8 : Int)) (hi := (16 : Int)) rfl rfl rfl b102 (fun _ => rfl) rfl ?_
          obtain ⟨r103, e103, h⟩ := bind_some h
          refine RegV.call0 (F275 hmix hc.2.1 e103) rfl rfl rfl rfl (.cons (.refl _) .nil) rfl ?_
          refine RegV.p0 rfl rfl rfl ?_
          refine RegV.p0 rfl rfl rfl ?_
          obtain ⟨b106, h⟩ := gd_some h
          refine RegV.slc (xs := a0) (e := byteD) (lo := (16 : Int)) (hi := (IntKind.i64.wrap ((16 : Int) + (IntKind.i64.wrap r29)))) rfl rfl rfl b106 (fun _ => rfl) rfl ?_
          obtain ⟨r107, e107, h⟩ := bind_some h
          refine RegV.callS (q := false) (H' := [(1, (.tok ((List.map byteD r107).length * 1))), (0, (.cells [(.d (.int .u64 (0 : Int))), .nils]))]) (c' := 2) (show ACalls P (N 87) [(.d (.sl (List.map byteD (sl a0 (16 : Int) (IntKind.i64.wrap ((16 : Int) + (IntKind.i64.wrap r29)))))))] [] (.ap 1 1 (List.map byteD r107)) [(1, (.tok ((List.map byteD r107).length * 1)))] from ACalls.use (F87 hmix hc.2.2.2 e107) [(0, 1)] 1 rfl) rfl rfl rfl rfl (.cons (.refl _) .nil) (.refl _) (fun h => by cases h) rfl hasNil rfl rfl rfl rfl ?_
          refine RegV.p1 (v := (.d (.agg [(.int .u64 r103), (.sl (List.map byteD r107))]))) rfl rfl (by exact ⟨⟨rfl, Nat.le_of_ble_eq_true rfl⟩, ⟨⟨rfl, Nat.le_of_ble_eq_true rfl⟩, trivial⟩⟩) rfl rfl ?_
          refine RegV.p0 rfl rfl rfl ?_
          refine RegV.evN (own := false) (H' := [(0, (.cells [(.d (.int .u64 r103)), (.d (.sl (List.map byteD r107)))])), (1, (.tok ((List.map byteD r107).length * 1)))]) (c' := 2) rfl rfl (by exact ⟨rfl, Nat.le_of_ble_eq_true rfl, rfl⟩) rfl rfl rfl rfl ?_
          refine RegV.p0 rfl rfl rfl ?_
          refine RegV.p0 rfl rfl rfl ?_
          refine RegV.nil1 (by kernel_rfl) ?_
          have hr := Option.some.inj h
          subst hr
          exact AWc.ret (canQ (N := 48) (k := 1) (l' := [(2, (.ptr 0 0)), (3, (.d (.int .i64 (IntKind.i64.wrap ((16 : Int) + (IntKind.i64.wrap r29)))))), (4, (.d (.int .i64 (0 : Int))))]) (H' := [(0, (.cells [(.d (.int .u64 r103)), (.d (.sl (List.map byteD r107)))]))]) rfl ⟨rfl, [], [], rfl, rfl, ⟨⟨_, rfl, (.refl _)⟩, rfl, ⟨⟨_, rfl, (.refl _)⟩, rfl, ⟨⟨_, rfl, (.refl _)⟩, rfl, trivial⟩⟩⟩, ⟨⟨_, rfl, (.refl _)⟩, rfl, rfl, trivial⟩⟩ (doneA (.inr rfl) rfl ⟨(Nat.le_of_ble_eq_true rfl), ⟨trivial, ⟨trivial, trivial⟩⟩⟩ (.refl _) hasNil))
/-- courant/segment.places -/
def C273 (N : Nat → Nat) : AFunc := { n := 44, params := 2, res := [.tmp 4, .tmp 5], body :=
 (.seq (.region false [⟨(some 4), .mv (.k .nils), none, []⟩,
   ⟨(some 5), .mv (.k (.d (.int .i64 0))), none, [0]⟩])
  (.scope (.seq (.region false [⟨(some 6), .mv (.k .nils), none, []⟩])
    (.seq (.region false [⟨(some 7), .mv (.k (.d (.int .i64 0))), none, []⟩])
     (.seq (.label 0)
      (.seq (.seq (.region false [⟨(some 12), .mv (.t 1), none, []⟩,
         ⟨(some 8), .mv (.t 12), none, [0]⟩])
        (.block 0 (.loop (.seq (.block 1 (.seq (.region false [⟨(some 16), .mv (.t 0), none, []⟩,
              ⟨(some 17), .mv (.t 7), none, []⟩,
              ⟨(some 18), .slc (.t 16) (some (.t 17)) none none 1, none, [0, 1]⟩,
              ⟨(some 19), .call (.k (.d (.fn (N 274)))) [(.t 18)], none, [2]⟩,
              ⟨(some 15), .mv (.t 19), none, [3]⟩,
              ⟨(some 20), .ext (.t 15) 0, none, [4]⟩,
              ⟨(some 21), .ext (.t 15) 1, none, [4]⟩,
              ⟨(some 22), .ext (.t 15) 2, none, [4]⟩,
              ⟨(some 9), .alloc [(.int .u64 0), (.sl [])], none, []⟩,
              ⟨none, .store (.t 9) (.t 20) 2, none, [8, 5, 3, 0, 1, 2, 4]⟩,
              ⟨(some 10), .mv (.t 21), none, [6, 9, 0, 1, 2, 3, 4, 5, 8]⟩,
              ⟨(some 11), .mv (.t 22), none, [7, 10, 0, 1, 2, 3, 4, 5, 6, 8, 9]⟩])
             (.seq (.seq (.region false [⟨(some 23), .mv (.t 11), none, []⟩,
                ⟨(some 24), .bin .neq (.t 23) (.k (.d (.int .i64 0))), none, [0]⟩,
                ⟨(some 25), .mv (.t 24), none, [1]⟩,
                ⟨(some 26), .faddr (.t 9) 0, (some (25, false)), [2]⟩,
                ⟨(some 27), .load (.t 26) 1 false, (some (25, false)), [3, 2]⟩,
                ⟨(some 28), .mv (.t 8), (some (25, false)), [2]⟩,
                ⟨(some 29), .bin .neq (.t 27) (.t 28), (some (25, false)), [4, 5, 2]⟩,
                ⟨(some 30), .pick (.t 25) (.k (.d (.bool true))) (.t 29), none, [2, 6]⟩])
               (.cond (.t 30) (.exit 0)
                (.skip)))
              (.seq (.region false [⟨(some 31), .mv (.t 6), none, []⟩,
                ⟨(some 32), .load (.t 9) 2 true, none, []⟩,
                ⟨(some 33), .mv (.t 7), none, []⟩,
                ⟨(some 34), .build [(.int .u64 0), (.sl []), (.int .i64 0)] [(0, 2, (.t 32)), (2, 1, (.t 33))], none, [1, 2]⟩,
                ⟨(some 35), .bslice 1 3 [(.int .u64 0), (.sl []), (.int .i64 0)] [(0, (.t 34))], none, [3]⟩,
                ⟨(some 36), .app (.t 31) (.t 35) 3 40 [(.int .u64 0), (.sl []), (.int .i64 0)], none, [0, 4]⟩,
                ⟨(some 6), .mv (.t 36), none, [5, 0, 1, 2, 3, 4]⟩])
               (.seq (.region false [⟨(some 37), .mv (.t 7), none, []⟩,
                 ⟨(some 38), .mv (.t 10), none, []⟩,
                 ⟨(some 39), .bin .add (.t 37) (.t 38), none, [0, 1]⟩,
                 ⟨(some 7), .mv (.t 39), none, [2, 0, 1]⟩])
                (.seq (.region false [⟨(some 40), .mv (.t 8), none, []⟩,
                  ⟨(some 41), .bin .eql (.t 40) (.k (.d (.int .u64 18446744073709551615))), none, [0]⟩])
                 (.cond (.t 41) (.exit 0)
                  (.skip))))))))
           (.region false [⟨(some 13), .mv (.t 8), none, []⟩,
            ⟨(some 14), .bin .add (.t 13) (.k (.d (.int .u64 1))), none, [0]⟩,
            ⟨(some 8), .mv (.t 14), none, [1, 0]⟩])))))
       (.seq (.region false [⟨(some 42), .mv (.t 6), none, []⟩,
         ⟨(some 43), .mv (.t 7), none, []⟩,
         ⟨(some 4), .mv (.t 42), none, [0]⟩,
         ⟨(some 5), .mv (.t 43), none, [1, 2, 0]⟩])
        .ret))))))) }
def HC273 (P : Program) (N : Nat → Nat) : Prop := HasF P (N 273) (C273 N) ∧ HC274 P N
def f273_j87 (k : Nat) (j87_1 : (List Tsegment_place)) (j87_2 : Int) : Option ((List Tsegment_place) × Int) := some (j87_1, j87_2)
def f273_l23 (a0 : (List UInt8)) : Nat → (List Tsegment_place) → Int → Int → Option (LR2 ((List Tsegment_place) × Int) Unit ((List Tsegment_place) × Int))
  | 0, _, _, _ => none
  | k + 1, y23_1, y23_2, y23_3 => gd (0 ≤ y23_2 ∧ y23_2 ≤ ((a0.length : Nat) : Int) ∧ ((a0.length : Nat) : Int) ≤ ((a0.length : Nat) : Int)) ((f274 k (sl a0 y23_2 ((a0.length : Nat) : Int))).bind fun r33 => cond (decide (r33.2.1 ≠ (0 : Int))) (some (.b0 (y23_1, y23_2))) (cond (decide (r33.2.2.1 ≠ y23_3)) (some (.b0 (y23_1, y23_2))) (gd ((y23_1.length + ([(Tsegment_place.mk (TRec.mk r33.2.2.1 r33.2.2.2) y23_2)] : List Tsegment_place).length) * 2 * 40 ≤ 281474976710656) (cond (decide (y23_3 = (18446744073709551615 : Int))) (some (.b0 ((y23_1 ++ ([(Tsegment_place.mk (TRec.mk r33.2.2.1 r33.2.2.2) y23_2)] : List Tsegment_place)), (IntKind.i64.wrap (y23_2 + r33.1))))) (f273_l23 a0 k (y23_1 ++ ([(Tsegment_place.mk (TRec.mk r33.2.2.1 r33.2.2.2) y23_2)] : List Tsegment_place)) (IntKind.i64.wrap (y23_2 + r33.1)) (IntKind.u64.wrap (y23_3 + (1 : Int))))))))
def f273 (k : Nat) (a0 : (List UInt8)) (a1 : Int) : Option ((List Tsegment_place) × Int) := (f273_l23 a0 k ([] : List Tsegment_place) (0 : Int) a1).bind fun o23 => match o23 with | .b0 (x23_1, x23_2) => f273_j87 k x23_1 x23_2 | _ => none
theorem F273 {P : Program} {N : Nat → Nat} (hmix : P.follows .mixedOrders = true) (hc : HC273 P N) {k : Nat} {a0 : (List UInt8)} {a1 : Int} {r : ((List Tsegment_place) × Int)} (h : f273 k a0 a1 = some r) :
    ACalls P (N 273) [(.d (.sl (List.map byteD a0))), (.d (.int .u64 a1))] [] (.tup [(.ap 0 3 (List.map Tsegment_place.enc r.1)), (.d (.int .i64 r.2))]) [(0, (.tok ((List.map Tsegment_place.enc r.1).length * 3)))] := by
  refine acalls_canon (F := C273 N) hc.1 0 1 rfl ?_
  unfold f273 at h
  dsimp only [C273, startL]
  refine AWc.seq ?_
  refine AWc.rg hmix rfl rfl ?_
  refine RegV.p0 rfl rfl rfl ?_
  refine RegV.p0 rfl rfl rfl ?_
  refine RegV.nil0 ?_
  refine AWc.scope ?_
  refine AWc.seq ?_
  refine AWc.rg hmix rfl rfl ?_
  refine RegV.p0 rfl rfl rfl ?_
  refine RegV.nil0 ?_
  refine AWc.seq ?_
  refine AWc.rg hmix rfl rfl ?_
  refine RegV.p0 rfl rfl rfl ?_
  refine RegV.nil0 ?_
  refine AWc.seq ?_
  refine AWc.label ?_
  refine AWc.seqS (N := 44) 1 (fun (z : ((List Tsegment_place) × Int)) => [(6, (.ap 0 3 (List.map Tsegment_place.enc z.1))), (7, (.d (.int .i64 z.2)))]) (fun z => [(0, (.tok ((List.map Tsegment_place.enc z.1).length * 3)))]) (fun z => f273_j87 k z.1 z.2 = some r) rfl_le ?_ ?_
  · refine AWc.seq ?_
    refine AWc.rg hmix rfl rfl ?_
    refine RegV.p0 rfl rfl rfl ?_
    refine RegV.p0 rfl rfl rfl ?_
    refine RegV.nil0 ?_
    obtain ⟨o23, h23, h⟩ := bind_some h
    refine AWc.block ?_
    refine AWc.loopK (N := 44) 1 (fun (x : ((List Tsegment_place) × Int × Int)) => [(0, (.d (.sl (List.map byteD a0)))), (6, (.ap 0 3 (List.map Tsegment_place.enc x.1))), (7, (.d (.int .i64 x.2.1))), (8, (.d (.int .u64 x.2.2)))]) (fun x => [(0, (.tok ((List.map Tsegment_place.enc x.1).length * 3)))]) (fun k x => f273_l23 a0 k x.1 x.2.1 x.2.2 = some o23) k (([] : List Tsegment_place), (0 : Int), a1) rfl_le (fun x hx => by cases hx) h23 ⟨rfl, [.tok 0], [(0, 0)], rfl, rfl, ⟨⟨_, rfl, (.refl _)⟩, rfl, ⟨⟨_, rfl, .nil⟩, rfl, ⟨⟨_, rfl, (.refl _)⟩, rfl, ⟨⟨_, rfl, (.refl _)⟩, rfl, trivial⟩⟩⟩⟩, ⟨⟨_, rfl, (.refl _)⟩, rfl, rfl, trivial⟩⟩ ?_
    clear h23
    intro k
    rintro ⟨y23_1, y23_2, y23_3⟩ h23
    dsimp only at h23 ⊢
    rw [f273_l23] at h23
    refine AWc.seq ?_
    refine AWc.block ?_
    refine AWc.seq ?_
    refine AWc.rg hmix rfl rfl ?_
    refine RegV.p0 rfl rfl rfl ?_
    refine RegV.p0 rfl rfl rfl ?_
    obtain ⟨b32, h23⟩ := gd_some h23
    refine RegV.slc (xs := a0) (e := byteD) (lo := y23_2) (hi := ((a0.length : Nat) : Int)) rfl rfl (mlen _) b32 (fun _ => rfl) rfl ?_
    obtain ⟨r33, e33, h23⟩ := bind_some h23
    refine RegV.call0 (F274 hmix hc.2 e33) rfl rfl rfl rfl (.cons (.refl _) .nil) rfl ?_
    refine RegV.p0 rfl rfl rfl ?_
    refine RegV.p0 rfl rfl rfl ?_
    refine RegV.p0 rfl rfl rfl ?_
    refine RegV.p0 rfl rfl rfl ?_
    refine RegV.evS (own := false) (v := (.ptr 1 0)) (H' := [(1, (.cells [(.d (.int .u64 (0 : Int))), .nils])), (0, (.tok ((List.map Tsegment_place.enc y23_1).length * 3)))]) (c' := 2) rfl rfl trivial rfl rfl rfl rfl rfl rfl ?_
    refine RegV.evN (own := false) (H' := [(1, (.cells [(.d (.int .u64 r33.2.2.1)), (.d (.sl (List.map byteD r33.2.2.2)))])), (0, (.tok ((List.map Tsegment_place.enc y23_1).length * 3)))]) (c' := 2) rfl rfl (by exact ⟨rfl, Nat.le_of_ble_eq_true rfl, rfl⟩) rfl rfl rfl rfl ?_
    refine RegV.p0 rfl rfl rfl ?_
    refine RegV.p0 rfl rfl rfl ?_
    refine RegV.nil0 ?_
    refine AWc.seq ?_
    refine AWc.seq ?_
    refine AWc.rg hmix rfl rfl ?_
    refine RegV.p0 rfl rfl rfl ?_
    refine RegV.p0 (v := (.d (.bool (decide (r33.2.1 ≠ (0 : Int)))))) rfl rfl rfl ?_
    refine RegV.p0 rfl rfl rfl ?_
    refine RegV.split (fun c48 => ?_) (fun c48 => ?_)
    · have h23 := cond_pos c48 h23
      refine RegV.noS rfl rfl ?_
      refine RegV.noS rfl rfl ?_
      refine RegV.noS rfl rfl ?_
      refine RegV.noS rfl rfl ?_
      refine RegV.p0 rfl rfl rfl ?_
      refine RegV.nil0 ?_
      refine AWc.cond rfl (fun _ => ?_) (fun hc => by cases hc)
      cases h23
      dsimp only at h
      refine AWc.exit ?_
      refine inBlk_ne rfl ?_
      refine inBlk_eq ?_
      exact ⟨(y23_1, y23_2), h, ⟨rfl, [], [], rfl, rfl, ⟨⟨_, rfl, (.refl _)⟩, rfl, ⟨⟨_, rfl, (.refl _)⟩, rfl, trivial⟩⟩, ⟨⟨_, rfl, (.refl _)⟩, rfl, rfl, trivial⟩⟩⟩
    · have h23 := cond_neg c48 h23
      refine RegV.p0 (v := (.ptr 1 0)) rfl rfl rfl ?_
      refine RegV.ld (v := (.d (.int .u64 r33.2.2.1))) (H' := [(1, (.cells [(.d (.int .u64 r33.2.2.1)), (.d (.sl (List.map byteD r33.2.2.2)))])), (0, (.tok ((List.map Tsegment_place.enc y23_1).length * 3)))]) rfl rfl trivial rfl rfl rfl rfl rfl ?_
      refine RegV.p0 rfl rfl rfl ?_
      refine RegV.p0 (v := (.d (.bool (decide (r33.2.2.1 ≠ y23_3))))) rfl rfl rfl ?_
      refine RegV.p0 rfl rfl rfl ?_
      refine RegV.nil0 ?_
      refine AWc.cond rfl (fun c54 => ?_) (fun c54 => ?_)
      · have h23 := cond_pos c54 h23
        cases h23
        dsimp only at h
        refine AWc.exit ?_
        refine inBlk_ne rfl ?_
        refine inBlk_eq ?_
        exact ⟨(y23_1, y23_2), h, ⟨rfl, [], [], rfl, rfl, ⟨⟨_, rfl, (.refl _)⟩, rfl, ⟨⟨_, rfl, (.refl _)⟩, rfl, trivial⟩⟩, ⟨⟨_, rfl, (.refl _)⟩, rfl, rfl, trivial⟩⟩⟩
      · have h23 := cond_neg c54 h23
        refine AWc.skip ?_
        refine AWc.seq ?_
        refine AWc.rg hmix rfl rfl ?_
        refine RegV.p0 rfl rfl rfl ?_
        refine RegV.ld (v := (.d (.agg [(.int .u64 r33.2.2.1), (.sl (List.map byteD r33.2.2.2))]))) (H' := [(1, (.cells [(.d (.int .u64 r33.2.2.1)), (.d (.sl (List.map byteD r33.2.2.2)))])), (0, (.tok ((List.map Tsegment_place.enc y23_1).length * 3)))]) rfl rfl (Nat.le_of_ble_eq_true rfl) rfl rfl rfl rfl rfl ?_
        refine RegV.p0 rfl rfl rfl ?_
        refine RegV.p1 (v := (.d (.agg [(.int .u64 r33.2.2.1), (.sl (List.map byteD r33.2.2.2)), (.int .i64 y23_2)]))) rfl rfl (by exact ⟨⟨rfl, Nat.le_of_ble_eq_true rfl⟩, ⟨⟨rfl, Nat.le_of_ble_eq_true rfl⟩, trivial⟩⟩) rfl rfl ?_
        refine RegV.p1 (v := (.d (.sl (List.map Tsegment_place.enc ([(Tsegment_place.mk (TRec.mk r33.2.2.1 r33.2.2.2) y23_2)] : List Tsegment_place))))) rfl rfl (by exact ⟨rfl, Nat.le_of_ble_eq_true rfl, mapLen (e := Tsegment_place.enc) (xs := ([(Tsegment_place.mk (TRec.mk r33.2.2.1 r33.2.2.2) y23_2)] : List Tsegment_place)) (z := 3) (fun _ => rfl)⟩) rfl rfl ?_
        obtain ⟨b65, h23⟩ := gd_some h23
        refine RegV.appA (xs := y23_1) (ys := ([(Tsegment_place.mk (TRec.mk r33.2.2.1 r33.2.2.2) y23_2)] : List Tsegment_place)) (e := Tsegment_place.enc) (H1 := [(1, (.cells [(.d (.int .u64 r33.2.2.1)), (.d (.sl (List.map byteD r33.2.2.2)))]))]) rfl rfl rfl rfl (fun _ => rfl) rfl rfl b65 rfl rfl rfl ?_
        refine RegV.p0 rfl rfl rfl ?_
        refine RegV.nil0 ?_
        refine AWc.seq ?_
        refine AWc.rg hmix rfl rfl ?_
        refine RegV.p0 rfl rfl rfl ?_
        refine RegV.p0 rfl rfl rfl ?_
        refine RegV.p0 (v := (.d (.int .i64 (IntKind.i64.wrap (y23_2 + r33.1))))) rfl rfl rfl ?_
        refine RegV.p0 rfl rfl rfl ?_
        refine RegV.nil0 ?_
        refine AWc.seq ?_
        refine AWc.rg hmix rfl rfl ?_
        refine RegV.p0 rfl rfl rfl ?_
        refine RegV.p0 (v := (.d (.bool (decide (y23_3 = (18446744073709551615 : Int)))))) rfl rfl rfl ?_
        refine RegV.nil0 ?_
        refine AWc.cond rfl (fun c79 => ?_) (fun c79 => ?_)
        · have h23 := cond_pos c79 h23
          cases h23
          dsimp only at h
          refine AWc.exit ?_
          refine inBlk_ne rfl ?_
          refine inBlk_eq ?_
          exact ⟨((y23_1 ++ ([(Tsegment_place.mk (TRec.mk r33.2.2.1 r33.2.2.2) y23_2)] : List Tsegment_place)), (IntKind.i64.wrap (y23_2 + r33.1))), h, ⟨rfl, [], [(0, 2)], rfl, rfl, ⟨⟨_, rfl, (.refl _)⟩, rfl, ⟨⟨_, rfl, (.refl _)⟩, rfl, trivial⟩⟩, ⟨⟨_, rfl, (.refl _)⟩, rfl, rfl, trivial⟩⟩⟩
        · have h23 := cond_neg c79 h23
          refine AWc.skip ?_
          refine AWc.rg hmix rfl rfl ?_
          refine RegV.p0 rfl rfl rfl ?_
          refine RegV.p0 (v := (.d (.int .u64 (IntKind.u64.wrap (y23_3 + (1 : Int)))))) rfl rfl rfl ?_
          refine RegV.p0 rfl rfl rfl ?_
          refine RegV.nil0 ?_
          exact ⟨((y23_1 ++ ([(Tsegment_place.mk (TRec.mk r33.2.2.1 r33.2.2.2) y23_2)] : List Tsegment_place)), (IntKind.i64.wrap (y23_2 + r33.1)), (IntKind.u64.wrap (y23_3 + (1 : Int)))), h23, ⟨rfl, [], [(0, 2)], rfl, rfl, ⟨⟨_, rfl, (.refl _)⟩, rfl, ⟨⟨_, rfl, (.refl _)⟩, rfl, ⟨⟨_, rfl, (.refl _)⟩, rfl, ⟨⟨_, rfl, (.refl _)⟩, rfl, trivial⟩⟩⟩⟩, ⟨⟨_, rfl, (.refl _)⟩, rfl, rfl, trivial⟩⟩⟩
  · rintro ⟨j87_1, j87_2⟩ h
    dsimp only at h ⊢
    unfold f273_j87 at h
    refine AWc.seq ?_
    refine AWc.rg hmix rfl rfl ?_
    refine RegV.p0 rfl rfl rfl ?_
    refine RegV.p0 rfl rfl rfl ?_
    refine RegV.p0 rfl rfl rfl ?_
    refine RegV.p0 rfl rfl rfl ?_
    refine RegV.nil0 ?_
    have hr := Option.some.inj h
    subst hr
    exact AWc.ret (canQ (N := 44) (k := 1) (l' := [(4, (.ap 0 3 (List.map Tsegment_place.enc j87_1))), (5, (.d (.int .i64 j87_2)))]) (H' := [(0, (.tok ((List.map Tsegment_place.enc j87_1).length * 3)))]) rfl ⟨rfl, [], [], rfl, rfl, ⟨⟨_, rfl, (.refl _)⟩, rfl, ⟨⟨_, rfl, (.refl _)⟩, rfl, trivial⟩⟩, ⟨⟨_, rfl, (.refl _)⟩, rfl, rfl, trivial⟩⟩ (doneA (.inr rfl) rfl ⟨trivial, ⟨trivial, trivial⟩⟩ (.refl _) (hasCons rfl hasNil)))
/-- courant/segment.Scan -/
def C272 (N : Nat → Nat) : AFunc := { n := 31, params := 2, res := [.tmp 4, .tmp 5], body :=
 (.seq (.region false [⟨(some 4), .mv (.k .nils), none, []⟩,
   ⟨(some 5), .mv (.k (.d (.int .i64 0))), none, [0]⟩])
  (.seq (.region false [⟨(some 12), .mv (.t 0), none, []⟩,
    ⟨(some 13), .mv (.t 1), none, []⟩,
    ⟨(some 14), .call (.k (.d (.fn (N 273)))) [(.t 12), (.t 13)], none, [0, 1]⟩,
    ⟨(some 11), .mv (.t 14), none, [2]⟩,
    ⟨(some 15), .ext (.t 11) 0, none, [3]⟩,
    ⟨(some 16), .ext (.t 11) 1, none, [3]⟩,
    ⟨(some 6), .mv (.t 15), none, [4, 2, 0, 1, 3]⟩,
    ⟨(some 7), .mv (.t 16), none, [5, 6, 0, 1, 2, 3, 4]⟩])
   (.seq (.region false [⟨(some 8), .mv (.k .nils), none, []⟩])
    (.seq (.seq (.region false [⟨(some 17), .mv (.t 6), none, []⟩,
       ⟨(some 18), .len (.t 17), none, [0]⟩,
       ⟨(some 19), .mv (.k (.d (.int .i64 0))), none, []⟩])
      (.block 0 (.loop (.seq (.region false [⟨(some 20), .bin .lss (.t 19) (.t 18), none, []⟩])
         (.seq (.cond (.t 20) (.skip)
           (.exit 0))
          (.seq (.block 1 (.seq (.region false [⟨(some 21), .iaddr (.t 17) (.t 19) 3, none, []⟩,
              ⟨(some 22), .load (.t 21) 3 true, none, [0]⟩,
              ⟨(some 10), .alloc [(.int .u64 0), (.sl []), (.int .i64 0)], none, []⟩,
              ⟨none, .store (.t 10) (.t 22) 3, none, [2, 1, 0]⟩])
             (.region false [⟨(some 23), .mv (.t 8), none, []⟩,
              ⟨(some 24), .faddr (.t 10) 0, none, []⟩,
              ⟨(some 25), .load (.t 24) 2 true, none, [1]⟩,
              ⟨(some 26), .bslice 1 2 [(.int .u64 0), (.sl [])] [(0, (.t 25))], none, [2]⟩,
              ⟨(some 27), .app (.t 23) (.t 26) 2 32 [(.int .u64 0), (.sl [])], none, [0, 3]⟩,
              ⟨(some 8), .mv (.t 27), none, [4, 0, 1, 2, 3]⟩])))
           (.region false [⟨(some 28), .bin .add (.t 19) (.k (.d (.int .i64 1))), none, []⟩,
            ⟨(some 19), .mv (.t 28), none, [0]⟩])))))))
     (.seq (.region false [⟨(some 29), .mv (.t 8), none, []⟩,
       ⟨(some 30), .mv (.t 7), none, []⟩,
       ⟨(some 4), .mv (.t 29), none, [0]⟩,
       ⟨(some 5), .mv (.t 30), none, [1, 2, 0]⟩])
      .ret))))) }
def HC272 (P : Program) (N : Nat → Nat) : Prop := HasF P (N 272) (C272 N) ∧ HC273 P N
def f272_j59 (k : Nat) (r11 : ((List Tsegment_place) × Int)) (j59_1 : (List TRec)) : Option ((List TRec) × Int) := some (j59_1, r11.2)
def f272_l28 (r11 : ((List Tsegment_place) × Int)) : Nat → (List TRec) → Int → Option (LR2 (List TRec) Unit ((List TRec) × Int))
  | 0, _, _ => none
  | k + 1, y28_1, y28_2 => cond (decide (y28_2 < ((r11.1.length : Nat) : Int))) (gd (0 ≤ y28_2 ∧ y28_2 < ((r11.1.length : Nat) : Int)) (gd ((y28_1.length + ([(TRec.mk ((rd r11.1 y28_2).fr.fOffset) ((rd r11.1 y28_2).fr.fData))] : List TRec).length) * 2 * 32 ≤ 281474976710656) (f272_l28 r11 k (y28_1 ++ ([(TRec.mk ((rd r11.1 y28_2).fr.fOffset) ((rd r11.1 y28_2).fr.fData))] : List TRec)) (IntKind.i64.wrap (y28_2 + (1 : Int)))))) (some (.b0 y28_1))
def f272 (k : Nat) (a0 : (List UInt8)) (a1 : Int) : Option ((List TRec) × Int) := (f273 k a0 a1).bind fun r11 => (f272_l28 r11 k ([] : List TRec) (0 : Int)).bind fun o28 => match o28 with | .b0 x28_1 => f272_j59 k r11 x28_1 | _ => none
theorem F272 {P : Program} {N : Nat → Nat} (hmix : P.follows .mixedOrders = true) (hc : HC272 P N) {k : Nat} {a0 : (List UInt8)} {a1 : Int} {r : ((List TRec) × Int)} (h : f272 k a0 a1 = some r) :
    ACalls P (N 272) [(.d (.sl (List.map byteD a0))), (.d (.int .u64 a1))] [] (.tup [(.ap 0 2 (List.map TRec.enc r.1)), (.d (.int .i64 r.2))]) [(0, (.tok ((List.map TRec.enc r.1).length * 2)))] := by
  refine acalls_canon (F := C272 N) hc.1 0 1 rfl ?_
  unfold f272 at h
  dsimp only [C272, startL]
  refine AWc.seq ?_
  refine AWc.rg hmix rfl rfl ?_
  refine RegV.p0 rfl rfl rfl ?_
  refine RegV.p0 rfl rfl rfl ?_
  refine RegV.nil0 ?_
  refine AWc.seq ?_
  refine AWc.rg hmix rfl rfl ?_
  refine RegV.p0 rfl rfl rfl ?_
  refine RegV.p0 rfl rfl rfl ?_
  obtain ⟨r11, e11, h⟩ := bind_some h
  refine RegV.callS (q := false) (H' := [(0, (.tok ((List.map Tsegment_place.enc r11.1).length * 3)))]) (c' := 1) (show ACalls P (N 273) [(.d (.sl (List.map byteD a0))), (.d (.int .u64 a1))] [] (.tup [(.ap 0 3 (List.map Tsegment_place.enc r11.1)), (.d (.int .i64 r11.2))]) [(0, (.tok ((List.map Tsegment_place.enc r11.1).length * 3)))] from ACalls.use (F273 hmix hc.2 e11) [(0, 0)] 1 rfl) rfl rfl rfl rfl (.cons (.refl _) (.cons (.refl _) .nil)) (.refl _) (fun h => by cases h) rfl hasNil rfl rfl rfl rfl ?_
  refine RegV.p0 rfl rfl rfl ?_
  refine RegV.p0 rfl rfl rfl ?_
  refine RegV.p0 rfl rfl rfl ?_
  refine RegV.p0 rfl rfl rfl ?_
  refine RegV.p0 rfl rfl rfl ?_
  refine RegV.nil0 ?_
  refine AWc.seq ?_
  refine AWc.rg hmix rfl rfl ?_
  refine RegV.p0 rfl rfl rfl ?_
  refine RegV.nil0 ?_
  refine AWc.seqS (N := 31) 1 (fun (z : (List TRec)) => [(7, (.d (.int .i64 r11.2))), (8, (.ap 0 2 (List.map TRec.enc z)))]) (fun z => [(0, (.tok ((List.map TRec.enc z).length * 2)))]) (fun z => f272_j59 k r11 z = some r) rfl_le ?_ ?_
  · refine AWc.seq ?_
    refine AWc.rg hmix rfl rfl ?_
    refine RegV.p0 rfl rfl rfl ?_
    refine RegV.len (xs := r11.1) (e := Tsegment_place.enc) rfl rfl rfl rfl ?_
    refine RegV.p0 rfl rfl rfl ?_
    refine RegV.nil0 ?_
    obtain ⟨o28, h28, h⟩ := bind_some h
    refine AWc.block ?_
    refine AWc.loopK (N := 31) 2 (fun (x : ((List TRec) × Int)) => [(7, (.d (.int .i64 r11.2))), (8, (.ap 0 2 (List.map TRec.enc x.1))), (17, (.ap 1 3 (List.map Tsegment_place.enc r11.1))), (18, (.d (.int .i64 ((r11.1.length : Nat) : Int)))), (19, (.d (.int .i64 x.2)))]) (fun x => [(0, (.tok ((List.map TRec.enc x.1).length * 2))), (1, (.tok ((List.map Tsegment_place.enc r11.1).length * 3)))]) (fun k x => f272_l28 r11 k x.1 x.2 = some o28) k (([] : List TRec), (0 : Int)) rfl_le (fun x hx => by cases hx) h28 ⟨rfl, [.tok 0], [(1, 0), (0, 1)], rfl, rfl, ⟨⟨_, rfl, (.refl _)⟩, rfl, ⟨⟨_, rfl, .nil⟩, rfl, ⟨⟨_, rfl, (.refl _)⟩, rfl, ⟨⟨_, rfl, (.refl _)⟩, rfl, ⟨⟨_, rfl, (.refl _)⟩, rfl, trivial⟩⟩⟩⟩⟩, ⟨⟨_, rfl, (.refl _)⟩, rfl, rfl, ⟨⟨_, rfl, (.refl _)⟩, rfl, rfl, trivial⟩⟩⟩ ?_
    clear h28
    intro k
    rintro ⟨y28_1, y28_2⟩ h28
    dsimp only at h28 ⊢
    rw [f272_l28] at h28
    refine AWc.seq ?_
    refine AWc.rg hmix rfl rfl ?_
    refine RegV.p0 (v := (.d (.bool (decide (y28_2 < ((r11.1.length : Nat) : Int)))))) rfl rfl rfl ?_
    refine RegV.nil0 ?_
    refine AWc.seq ?_
    refine AWc.cond rfl (fun c35 => ?_) (fun c35 => ?_)
    · have h28 := cond_pos c35 h28
      refine AWc.skip ?_
      refine AWc.seq ?_
      refine AWc.block ?_
      refine AWc.seq ?_
      refine AWc.rg hmix rfl rfl ?_
      obtain ⟨b43, h28⟩ := gd_some h28
      refine RegV.iad (xs := r11.1) (e := Tsegment_place.enc) rfl rfl rfl rfl (fun _ => rfl) b43 rfl ?_
      refine RegV.p1 (v := (.d (Tsegment_place.enc (rd r11.1 y28_2)))) rfl rfl rfl rfl rfl ?_
      refine RegV.evS (own := false) (v := (.ptr 2 0)) (H' := [(2, (.cells [(.d (.int .u64 (0 : Int))), .nils, (.d (.int .i64 (0 : Int)))])), (0, (.tok ((List.map TRec.enc y28_1).length * 2))), (1, (.tok ((List.map Tsegment_place.enc r11.1).length * 3)))]) (c' := 3) rfl rfl trivial rfl rfl rfl rfl rfl rfl ?_
      refine RegV.evN (own := false) (H' := [(2, (.cells [(.d (.int .u64 (rd r11.1 y28_2).fr.fOffset)), (.d (.sl (List.map byteD (rd r11.1 y28_2).fr.fData))), (.d (.int .i64 (rd r11.1 y28_2).fat))])), (0, (.tok ((List.map TRec.enc y28_1).length * 2))), (1, (.tok ((List.map Tsegment_place.enc r11.1).length * 3)))]) (c' := 3) rfl rfl (by exact ⟨rfl, Nat.le_of_ble_eq_true rfl, rfl⟩) rfl rfl rfl rfl ?_
      refine RegV.nil0 ?_
      refine AWc.rg hmix rfl rfl ?_
      refine RegV.p0 rfl rfl rfl ?_
      refine RegV.p0 (v := (.ptr 2 0)) rfl rfl rfl ?_
      refine RegV.ld (v := (.d (.agg [(.int .u64 (rd r11.1 y28_2).fr.fOffset), (.sl (List.map byteD (rd r11.1 y28_2).fr.fData))]))) (H' := [(2, (.cells [(.d (.int .u64 (rd r11.1 y28_2).fr.fOffset)), (.d (.sl (List.map byteD (rd r11.1 y28_2).fr.fData))), (.d (.int .i64 (rd r11.1 y28_2).fat))])), (0, (.tok ((List.map TRec.enc y28_1).length * 2))), (1, (.tok ((List.map Tsegment_place.enc r11.1).length * 3)))]) rfl rfl (Nat.le_of_ble_eq_true rfl) rfl rfl rfl rfl rfl ?_
      refine RegV.p1 (v := (.d (.sl (List.map TRec.enc ([(TRec.mk ((rd r11.1 y28_2).fr.fOffset) ((rd r11.1 y28_2).fr.fData))] : List TRec))))) rfl rfl (by exact ⟨rfl, Nat.le_of_ble_eq_true rfl, mapLen (e := TRec.enc) (xs := ([(TRec.mk ((rd r11.1 y28_2).fr.fOffset) ((rd r11.1 y28_2).fr.fData))] : List TRec)) (z := 2) (fun _ => rfl)⟩) rfl rfl ?_
      obtain ⟨b53, h28⟩ := gd_some h28
      refine RegV.appA (xs := y28_1) (ys := ([(TRec.mk ((rd r11.1 y28_2).fr.fOffset) ((rd r11.1 y28_2).fr.fData))] : List TRec)) (e := TRec.enc) (H1 := [(2, (.cells [(.d (.int .u64 (rd r11.1 y28_2).fr.fOffset)), (.d (.sl (List.map byteD (rd r11.1 y28_2).fr.fData))), (.d (.int .i64 (rd r11.1 y28_2).fat))])), (1, (.tok ((List.map Tsegment_place.enc r11.1).length * 3)))]) rfl rfl rfl rfl (fun _ => rfl) rfl rfl b53 rfl rfl rfl ?_
      refine RegV.p0 rfl rfl rfl ?_
      refine RegV.nil0 ?_
      refine AWc.rg hmix rfl rfl ?_
      refine RegV.p0 (v := (.d (.int .i64 (IntKind.i64.wrap (y28_2 + (1 : Int)))))) rfl rfl rfl ?_
      refine RegV.p0 rfl rfl rfl ?_
      refine RegV.nil0 ?_
      exact ⟨((y28_1 ++ ([(TRec.mk ((rd r11.1 y28_2).fr.fOffset) ((rd r11.1 y28_2).fr.fData))] : List TRec)), (IntKind.i64.wrap (y28_2 + (1 : Int)))), h28, ⟨rfl, [], [(0, 3)], rfl, rfl, ⟨⟨_, rfl, (.refl _)⟩, rfl, ⟨⟨_, rfl, (.refl _)⟩, rfl, ⟨⟨_, rfl, (.refl _)⟩, rfl, ⟨⟨_, rfl, (.refl _)⟩, rfl, ⟨⟨_, rfl, (.refl _)⟩, rfl, trivial⟩⟩⟩⟩⟩, ⟨⟨_, rfl, (.refl _)⟩, rfl, rfl, ⟨⟨_, rfl, (.refl _)⟩, rfl, rfl, trivial⟩⟩⟩⟩
    · have h28 := cond_neg c35 h28
      cases h28
      dsimp only at h
      refine AWc.exit ?_
      refine inBlk_eq ?_
      exact ⟨y28_1, h, ⟨rfl, [], [], rfl, rfl, ⟨⟨_, rfl, (.refl _)⟩, rfl, ⟨⟨_, rfl, (.refl _)⟩, rfl, trivial⟩⟩, ⟨⟨_, rfl, (.refl _)⟩, rfl, rfl, trivial⟩⟩⟩
  · intro j59_1 h
    unfold f272_j59 at h
    refine AWc.seq ?_
    refine AWc.rg hmix rfl rfl ?_
    refine RegV.p0 rfl rfl rfl ?_
    refine RegV.p0 rfl rfl rfl ?_
    refine RegV.p0 rfl rfl rfl ?_
    refine RegV.p0 rfl rfl rfl ?_
    refine RegV.nil0 ?_
    have hr := Option.some.inj h
    subst hr
    exact AWc.ret (canQ (N := 31) (k := 1) (l' := [(4, (.ap 0 2 (List.map TRec.enc j59_1))), (5, (.d (.int .i64 r11.2)))]) (H' := [(0, (.tok ((List.map TRec.enc j59_1).length * 2)))]) rfl ⟨rfl, [], [], rfl, rfl, ⟨⟨_, rfl, (.refl _)⟩, rfl, ⟨⟨_, rfl, (.refl _)⟩, rfl, trivial⟩⟩, ⟨⟨_, rfl, (.refl _)⟩, rfl, rfl, trivial⟩⟩ (doneA (.inr rfl) rfl ⟨trivial, ⟨trivial, trivial⟩⟩ (.refl _) (hasCons rfl hasNil)))
/-- courant/courantlaw20.awake -/
def C245 (N : Nat → Nat) : AFunc := { n := 38, params := 0, res := [.tmp 0], body :=
 (.seq (.region false [⟨(some 0), .mv (.k (.d (.bool false))), none, []⟩])
  (.seq (.region false [⟨(some 6), .bslice 1 1 [(.int .u8 0)] [(0, (.k (.d (.int .u8 120))))], none, []⟩,
    ⟨(some 7), .bs2bs (.t 6), none, [0]⟩,
    ⟨(some 8), .call (.k (.d (.fn (N 270)))) [(.k (.d (.int .u64 3))), (.t 7)], none, [1]⟩,
    ⟨(some 5), .mv (.t 8), none, [2]⟩,
    ⟨(some 9), .ext (.t 5) 0, none, [3]⟩,
    ⟨(some 10), .ext (.t 5) 1, none, [3]⟩,
    ⟨(some 1), .mv (.t 9), none, [4, 2, 0, 1, 3]⟩,
    ⟨(some 2), .mv (.t 10), none, [5, 6, 0, 1, 2, 3, 4]⟩])
   (.seq (.region false [⟨(some 12), .mv (.t 1), none, []⟩,
     ⟨(some 13), .call (.k (.d (.fn (N 272)))) [(.t 12), (.k (.d (.int .u64 3)))], none, [0]⟩,
     ⟨(some 11), .mv (.t 13), none, [1]⟩,
     ⟨(some 14), .ext (.t 11) 0, none, [2]⟩,
     ⟨(some 15), .ext (.t 11) 1, none, [2]⟩,
     ⟨(some 3), .mv (.t 14), none, [3, 1, 0, 2]⟩,
     ⟨(some 4), .mv (.t 15), none, [4, 5, 0, 1, 2, 3]⟩])
    (.seq (.region false [⟨(some 16), .mv (.t 4), none, []⟩,
      ⟨(some 17), .bin .eql (.t 16) (.k (.d (.int .i64 17))), none, [0]⟩,
      ⟨(some 18), .mv (.t 17), none, [1]⟩,
      ⟨(some 19), .mv (.t 3), (some (18, true)), [2]⟩,
      ⟨(some 20), .len (.t 19), (some (18, true)), [3, 2]⟩,
      ⟨(some 21), .bin .eql (.t 20) (.k (.d (.int .i64 1))), (some (18, true)), [4, 2]⟩,
      ⟨(some 22), .pick (.t 18) (.t 21) (.k (.d (.bool false))), none, [2, 5]⟩,
      ⟨(some 23), .mv (.t 22), none, [6, 2]⟩,
      ⟨(some 24), .mv (.t 3), (some (23, true)), [7]⟩,
      ⟨(some 25), .iaddr (.t 24) (.k (.d (.int .i64 0))) 2, (some (23, true)), [8, 7]⟩,
      ⟨(some 26), .faddr (.t 25) 0, (some (23, true)), [9, 7]⟩,
      ⟨(some 27), .load (.t 26) 1 false, (some (23, true)), [10, 7]⟩,
      ⟨(some 28), .bin .eql (.t 27) (.k (.d (.int .u64 3))), (some (23, true)), [11, 7]⟩,
      ⟨(some 29), .pick (.t 23) (.t 28) (.k (.d (.bool false))), none, [7, 12]⟩,
      ⟨(some 30), .mv (.t 29), none, [13, 7]⟩,
      ⟨(some 31), .mv (.t 3), (some (30, true)), [14]⟩,
      ⟨(some 32), .iaddr (.t 31) (.k (.d (.int .i64 0))) 2, (some (30, true)), [15, 14]⟩,
      ⟨(some 33), .faddr (.t 32) 1, (some (30, true)), [16, 14]⟩,
      ⟨(some 34), .load (.t 33) 1 false, (some (30, true)), [17, 14]⟩,
      ⟨(some 35), .bs2s (.t 34), (some (30, true)), [18, 14]⟩,
      ⟨(some 36), .bin .eql (.t 35) (.k (.d (.str [120]))), (some (30, true)), [19, 14]⟩,
      ⟨(some 37), .pick (.t 30) (.t 36) (.k (.d (.bool false))), none, [14, 20]⟩,
      ⟨(some 0), .mv (.t 37), none, [21, 14, 0, 1, 2, 3, 4, 5, 6, 7, 8, 9, 10, 11, 12, 13, 15, 16, 17, 18, 19, 20]⟩])
     .ret)))) }
def HC245 (P : Program) (N : Nat → Nat) : Prop := HasF P (N 245) (C245 N) ∧ HC270 P N ∧ HC272 P N
def f245 (k : Nat) : Option Bool := (f270 k (3 : Int) ([(120 : UInt8)] : List UInt8)).bind fun r10 => (f272 k r10.1 (3 : Int)).bind fun r20 => cond (decide (r20.2 = (17 : Int))) (cond (decide (((r20.1.length : Nat) : Int) = (1 : Int))) (gd (0 ≤ (0 : Int) ∧ (0 : Int) < ((r20.1.length : Nat) : Int)) (cond (decide ((rd r20.1 (0 : Int)).fOffset = (3 : Int))) (gd (0 ≤ (0 : Int) ∧ (0 : Int) < ((r20.1.length : Nat) : Int)) (some (decide ((rd r20.1 (0 : Int)).fData = ([120] : List UInt8))))) (some false))) (some false)) (some false)
theorem F245 {P : Program} {N : Nat → Nat} (hmix : P.follows .mixedOrders = true) (hc : HC245 P N) {k : Nat} {r : Bool} (h : f245 k = some r) :
    ACalls P (N 245) [] [] (.d (.bool r)) [] := by
  refine acalls_canon (F := C245 N) hc.1 0 0 rfl ?_
  unfold f245 at h
  dsimp only [C245, startL]
  refine AWc.seq ?_
  refine AWc.rg hmix rfl rfl ?_
  refine RegV.p0 rfl rfl rfl ?_
  refine RegV.nil0 ?_
  refine AWc.seq ?_
  refine AWc.rg hmix rfl rfl ?_
  refine RegV.evS (own := true) (v := (.sl 0 0 (1) (1) 1)) (H' := [(0, (.cells [(.d (.int .u8 (120 : Int)))]))]) (c' := 1) rfl rfl (by exact ⟨rfl, Nat.le_of_ble_eq_true rfl, by simp [cellsAV, D.cells]⟩) rfl rfl rfl rfl rfl rfl ?_
  refine RegV.evS (own := false) (v := .d (.sl [.int .u8 (120 : Int)])) (v' := (.d (.sl (List.map byteD ([(120 : UInt8)] : List UInt8))))) (H' := []) (c' := 1) rfl rfl (by exact ⟨rfl, Nat.le_refl _⟩) rfl rfl rfl rfl rfl rfl ?_
  obtain ⟨r10, e10, h⟩ := bind_some h
  refine RegV.callS (q := false) (H' := [(1, (.tok ((List.map byteD r10.1).length * 1)))]) (c' := 2) (show ACalls P (N 270) [(.d (.int .u64 (3 : Int))), (.d (.sl (List.map byteD ([(120 : UInt8)] : List UInt8))))] [] (.tup [(.ap 1 1 (List.map byteD r10.1)), (.d (.int .i64 r10.2))]) [(1, (.tok ((List.map byteD r10.1).length * 1)))] from ACalls.use (F270 hmix hc.2.1 e10) [(0, 1)] 1 rfl) rfl rfl rfl rfl (.cons (.refl _) (.cons (.refl _) .nil)) (.refl _) (fun h => by cases h) rfl hasNil rfl rfl rfl rfl ?_
  refine RegV.p0 rfl rfl rfl ?_
  refine RegV.p0 rfl rfl rfl ?_
  refine RegV.p0 rfl rfl rfl ?_
  refine RegV.p0 rfl rfl rfl ?_
  refine RegV.p0 rfl rfl rfl ?_
  refine RegV.nil0 ?_
  refine AWc.seq ?_
  refine AWc.rg hmix rfl rfl ?_
  refine RegV.p0 rfl rfl rfl ?_
  obtain ⟨r20, e20, h⟩ := bind_some h
  refine RegV.callS (q := false) (H' := [(2, (.tok ((List.map TRec.enc r20.1).length * 2))), (1, (.tok ((List.map byteD r10.1).length * 1)))]) (c' := 3) (show ACalls P (N 272) [(.d (.sl (List.map byteD r10.1))), (.d (.int .u64 (3 : Int)))] [] (.tup [(.ap 2 2 (List.map TRec.enc r20.1)), (.d (.int .i64 r20.2))]) [(2, (.tok ((List.map TRec.enc r20.1).length * 2)))] from ACalls.use (F272 hmix hc.2.2 e20) [(0, 2)] 1 rfl) rfl rfl rfl rfl (.cons (.sl rfl) (.cons (.refl _) .nil)) (.refl _) (fun h => by cases h) rfl hasNil rfl rfl rfl rfl ?_
  refine RegV.p0 rfl rfl rfl ?_
  refine RegV.p0 rfl rfl rfl ?_
  refine RegV.p0 rfl rfl rfl ?_
  refine RegV.p0 rfl rfl rfl ?_
  refine RegV.p0 rfl rfl rfl ?_
  refine RegV.nil0 ?_
  refine AWc.seq ?_
  refine AWc.rg hmix rfl rfl ?_
  refine RegV.p0 rfl rfl rfl ?_
  refine RegV.p0 (v := (.d (.bool (decide (r20.2 = (17 : Int)))))) rfl rfl rfl ?_
  refine RegV.p0 rfl rfl rfl ?_
  refine RegV.split (fun c31 => ?_) (fun c31 => ?_)
  · have h := cond_pos c31 h
    refine RegV.p0 rfl rfl rfl ?_
    refine RegV.len (xs := r20.1) (e := TRec.enc) rfl rfl rfl rfl ?_
    refine RegV.p0 (v := (.d (.bool (decide (((r20.1.length : Nat) : Int) = (1 : Int)))))) rfl rfl rfl ?_
    refine RegV.p0 rfl rfl rfl ?_
    refine RegV.p0 rfl rfl rfl ?_
    refine RegV.split (fun c36 => ?_) (fun c36 => ?_)
    · have h := cond_pos c36 h
      refine RegV.p0 rfl rfl rfl ?_
      obtain ⟨b38, h⟩ := gd_some h
      refine RegV.iad (xs := r20.1) (e := TRec.enc) rfl rfl rfl rfl (fun _ => rfl) b38 rfl ?_
      refine RegV.p0 (v := (.cp (TRec.enc (rd r20.1 (0 : Int))) 0)) rfl rfl rfl ?_
      refine RegV.p0 (v := (.d (.int .u64 (rd r20.1 (0 : Int)).fOffset))) rfl rfl rfl ?_
      refine RegV.p0 (v := (.d (.bool (decide ((rd r20.1 (0 : Int)).fOffset = (3 : Int)))))) rfl rfl rfl ?_
      refine RegV.p0 rfl rfl rfl ?_
      refine RegV.p0 rfl rfl rfl ?_
      refine RegV.split (fun c43 => ?_) (fun c43 => ?_)
      · have h := cond_pos c43 h
        refine RegV.p0 rfl rfl rfl ?_
        obtain ⟨b45, h⟩ := gd_some h
        refine RegV.iad (xs := r20.1) (e := TRec.enc) rfl rfl rfl rfl (fun _ => rfl) b45 rfl ?_
        refine RegV.p0 (v := (.cp (TRec.enc (rd r20.1 (0 : Int))) 1)) rfl rfl rfl ?_
        refine RegV.p0 (v := (.d (.sl (List.map byteD (rd r20.1 (0 : Int)).fData)))) rfl rfl rfl ?_
        refine RegV.bs2s (b := (rd r20.1 (0 : Int)).fData) rfl rfl rfl ?_
        refine RegV.p0 (v := (.d (.bool (decide ((rd r20.1 (0 : Int)).fData = ([120] : List UInt8)))))) rfl rfl rfl ?_
        refine RegV.p0 rfl rfl rfl ?_
        refine RegV.p0 rfl rfl rfl ?_
        refine RegV.nil0 ?_
        have hr := Option.some.inj h
        subst hr
        exact AWc.ret (canQ (N := 38) (k := 0) (l' := [(0, (.d (.bool (decide ((rd r20.1 (0 : Int)).fData = ([120] : List UInt8))))))]) (H' := []) rfl ⟨rfl, [], [], rfl, rfl, ⟨⟨_, rfl, (.refl _)⟩, rfl, trivial⟩,  trivial⟩ (doneA (.inr rfl) rfl ⟨trivial, trivial⟩ (.refl _) hasNil))
      · have h := cond_neg c43 h
        refine RegV.noS rfl rfl ?_
        refine RegV.noS rfl rfl ?_
        refine RegV.noS rfl rfl ?_
        refine RegV.noS rfl rfl ?_
        refine RegV.noS rfl rfl ?_
        refine RegV.noS rfl rfl ?_
        refine RegV.p0 rfl rfl rfl ?_
        refine RegV.p0 rfl rfl rfl ?_
        refine RegV.nil0 ?_
        have hr := Option.some.inj h
        subst hr
        exact AWc.ret (canQ (N := 38) (k := 0) (l' := [(0, (.d (.bool false)))]) (H' := []) rfl ⟨rfl, [], [], rfl, rfl, ⟨⟨_, rfl, (.refl _)⟩, rfl, trivial⟩,  trivial⟩ (doneA (.inr rfl) rfl ⟨trivial, trivial⟩ (.refl _) hasNil))
    · have h := cond_neg c36 h
      refine RegV.noS rfl rfl ?_
      refine RegV.noS rfl rfl ?_
      refine RegV.noS rfl rfl ?_
      refine RegV.noS rfl rfl ?_
      refine RegV.noS rfl rfl ?_
      refine RegV.p0 rfl rfl rfl ?_
      refine RegV.p0 rfl rfl rfl ?_
      refine RegV.noS rfl rfl ?_
      refine RegV.noS rfl rfl ?_
      refine RegV.noS rfl rfl ?_
      refine RegV.noS rfl rfl ?_
      refine RegV.noS rfl rfl ?_
      refine RegV.noS rfl rfl ?_
      refine RegV.p0 rfl rfl rfl ?_
      refine RegV.p0 rfl rfl rfl ?_
      refine RegV.nil0 ?_
      have hr := Option.some.inj h
      subst hr
      exact AWc.ret (canQ (N := 38) (k := 0) (l' := [(0, (.d (.bool false)))]) (H' := []) rfl ⟨rfl, [], [], rfl, rfl, ⟨⟨_, rfl, (.refl _)⟩, rfl, trivial⟩,  trivial⟩ (doneA (.inr rfl) rfl ⟨trivial, trivial⟩ (.refl _) hasNil))
  · have h := cond_neg c31 h
    refine RegV.noS rfl rfl ?_
    refine RegV.noS rfl rfl ?_
    refine RegV.noS rfl rfl ?_
    refine RegV.p0 rfl rfl rfl ?_
    refine RegV.p0 rfl rfl rfl ?_
    refine RegV.noS rfl rfl ?_
    refine RegV.noS rfl rfl ?_
    refine RegV.noS rfl rfl ?_
    refine RegV.noS rfl rfl ?_
    refine RegV.noS rfl rfl ?_
    refine RegV.p0 rfl rfl rfl ?_
    refine RegV.p0 rfl rfl rfl ?_
    refine RegV.noS rfl rfl ?_
    refine RegV.noS rfl rfl ?_
    refine RegV.noS rfl rfl ?_
    refine RegV.noS rfl rfl ?_
    refine RegV.noS rfl rfl ?_
    refine RegV.noS rfl rfl ?_
    refine RegV.p0 rfl rfl rfl ?_
    refine RegV.p0 rfl rfl rfl ?_
    refine RegV.nil0 ?_
    have hr := Option.some.inj h
    subst hr
    exact AWc.ret (canQ (N := 38) (k := 0) (l' := [(0, (.d (.bool false)))]) (H' := []) rfl ⟨rfl, [], [], rfl, rfl, ⟨⟨_, rfl, (.refl _)⟩, rfl, trivial⟩,  trivial⟩ (doneA (.inr rfl) rfl ⟨trivial, trivial⟩ (.refl _) hasNil))
/-- courant/courantlaw20.SegmentMade -/
def C244 (N : Nat → Nat) : AFunc := { n := 169, params := 4, res := [.tmp 8], body :=
 (.seq (.region false [⟨(some 8), .mv (.k (.d (.bool false))), none, []⟩])
  (.seq (.seq (.region false [⟨(some 23), .mv (.t 0), none, []⟩,
     ⟨(some 24), .len (.t 23), none, [0]⟩,
     ⟨(some 25), .bin .gtr (.t 24) (.k (.d (.int .i64 60))), none, [1]⟩,
     ⟨(some 26), .mv (.t 25), none, [2]⟩,
     ⟨(some 27), .mv (.t 2), (some (26, false)), [3]⟩,
     ⟨(some 28), .len (.t 27), (some (26, false)), [4, 3]⟩,
     ⟨(some 29), .bin .gtr (.t 28) (.k (.d (.int .i64 15))), (some (26, false)), [5, 3]⟩,
     ⟨(some 30), .pick (.t 26) (.k (.d (.bool true))) (.t 29), none, [3, 6]⟩,
     ⟨(some 31), .mv (.t 30), none, [7, 3]⟩,
     ⟨(some 32), .mv (.t 1), (some (31, false)), [8]⟩,
     ⟨(some 33), .bin .gtr (.t 32) (.k (.d (.int .u64 4611686018427387904))), (some (31, false)), [9, 8]⟩,
     ⟨(some 34), .pick (.t 31) (.k (.d (.bool true))) (.t 33), none, [8, 10]⟩])
    (.cond (.t 34) (.seq (.region false [⟨(some 35), .call (.k (.d (.fn (N 245)))) [], none, []⟩,
       ⟨(some 8), .mv (.t 35), none, [0]⟩])
      .ret)
     (.skip)))
   (.seq (.region false [⟨(some 9), .mv (.k .nils), none, []⟩])
    (.seq (.region false [⟨(some 10), .mv (.k .nils), none, []⟩])
     (.seq (.seq (.region false [⟨(some 11), .mv (.k (.d (.int .i64 0))), none, []⟩])
       (.block 0 (.loop (.seq (.seq (.region false [⟨(some 36), .mv (.t 11), none, []⟩,
            ⟨(some 37), .mv (.t 0), none, []⟩,
            ⟨(some 38), .len (.t 37), none, [1]⟩,
            ⟨(some 39), .bin .lss (.t 36) (.t 38), none, [0, 2]⟩])
           (.cond (.t 39) (.skip)
            (.exit 0)))
          (.seq (.block 1 (.seq (.region false [⟨(some 43), .mv (.t 1), none, []⟩,
              ⟨(some 44), .mv (.t 11), none, []⟩,
              ⟨(some 45), .cvi .u64 (.t 44), none, [1]⟩,
              ⟨(some 46), .bin .add (.t 43) (.t 45), none, [0, 2]⟩,
              ⟨(some 47), .mv (.t 0), none, []⟩,
              ⟨(some 48), .mv (.t 11), none, []⟩,
              ⟨(some 49), .iaddr (.t 47) (.t 48) 1, none, [4, 5]⟩,
              ⟨(some 50), .load (.t 49) 1 false, none, [6]⟩,
              ⟨(some 51), .call (.k (.d (.fn (N 270)))) [(.t 46), (.t 50)], none, [3, 7]⟩,
              ⟨(some 42), .mv (.t 51), none, [8]⟩,
              ⟨(some 52), .ext (.t 42) 0, none, [9]⟩,
              ⟨(some 53), .ext (.t 42) 1, none, [9]⟩,
              ⟨(some 12), .mv (.t 52), none, [10, 8, 0, 1, 2, 3, 4, 5, 6, 7, 9]⟩,
              ⟨(some 13), .mv (.t 53), none, [11, 12, 0, 1, 2, 3, 4, 5, 6, 7, 8, 9, 10]⟩])
             (.seq (.seq (.region false [⟨(some 54), .mv (.t 0), none, []⟩,
                ⟨(some 55), .mv (.t 11), none, []⟩,
                ⟨(some 56), .iaddr (.t 54) (.t 55) 1, none, [0, 1]⟩,
                ⟨(some 57), .load (.t 56) 1 false, none, [2]⟩,
                ⟨(some 58), .len (.t 57), none, [3]⟩,
                ⟨(some 59), .bin .gtr (.t 58) (.k (.d (.int .i64 500))), none, [4]⟩,
                ⟨(some 60), .mv (.t 59), none, [5]⟩,
                ⟨(some 61), .mv (.t 13), (some (60, false)), [6]⟩,
                ⟨(some 62), .bin .neq (.t 61) (.k (.d (.int .i64 0))), (some (60, false)), [7, 6]⟩,
                ⟨(some 63), .pick (.t 60) (.k (.d (.bool true))) (.t 62), none, [6, 8]⟩])
               (.cond (.t 63) (.seq (.region false [⟨(some 64), .call (.k (.d (.fn (N 245)))) [], none, []⟩,
                  ⟨(some 8), .mv (.t 64), none, [0]⟩])
                 .ret)
                (.skip)))
              (.seq (.region false [⟨(some 65), .mv (.t 9), none, []⟩,
                ⟨(some 66), .mv (.t 12), none, []⟩,
                ⟨(some 67), .app (.t 65) (.t 66) 1 1 [(.int .u8 0)], none, [0, 1]⟩,
                ⟨(some 9), .mv (.t 67), none, [2, 0, 1]⟩])
               (.region false [⟨(some 68), .mv (.t 10), none, []⟩,
                ⟨(some 69), .mv (.t 9), none, []⟩,
                ⟨(some 70), .len (.t 69), none, [1]⟩,
                ⟨(some 71), .bslice 1 1 [(.int .i64 0)] [(0, (.t 70))], none, [2]⟩,
                ⟨(some 72), .app (.t 68) (.t 71) 1 8 [(.int .i64 0)], none, [0, 3]⟩,
                ⟨(some 10), .mv (.t 72), none, [4, 0, 1, 2, 3]⟩])))))
           (.region false [⟨(some 40), .mv (.t 11), none, []⟩,
            ⟨(some 41), .bin .add (.t 40) (.k (.d (.int .i64 1))), none, [0]⟩,
            ⟨(some 11), .mv (.t 41), none, [1, 0]⟩]))))))
      (.seq (.region false [⟨(some 74), .mv (.t 9), none, []⟩,
        ⟨(some 75), .call (.k (.d (.fn (N 97)))) [(.t 74)], none, [0]⟩,
        ⟨(some 76), .mv (.t 2), none, []⟩,
        ⟨(some 77), .app (.t 75) (.t 76) 1 1 [(.int .u8 0)], none, [1, 2]⟩,
        ⟨(some 78), .mv (.t 1), none, []⟩,
        ⟨(some 79), .call (.k (.d (.fn (N 272)))) [(.t 77), (.t 78)], none, [3, 4]⟩,
        ⟨(some 73), .mv (.t 79), none, [5]⟩,
        ⟨(some 80), .ext (.t 73) 0, none, [6]⟩,
        ⟨(some 81), .ext (.t 73) 1, none, [6]⟩,
        ⟨(some 14), .mv (.t 80), none, [7, 5, 0, 1, 2, 3, 4, 6]⟩,
        ⟨(some 15), .mv (.t 81), none, [8, 9, 0, 1, 2, 3, 4, 5, 6, 7]⟩])
       (.seq (.seq (.region false [⟨(some 82), .call (.k (.d (.fn (N 245)))) [], none, []⟩,
          ⟨(some 83), .un .not (.t 82), none, [0]⟩,
          ⟨(some 84), .mv (.t 83), none, [1, 0]⟩,
          ⟨(some 85), .mv (.t 15), (some (84, false)), [2]⟩,
          ⟨(some 86), .mv (.t 9), (some (84, false)), [2]⟩,
          ⟨(some 87), .len (.t 86), (some (84, false)), [4, 2]⟩,
          ⟨(some 88), .bin .neq (.t 85) (.t 87), (some (84, false)), [3, 5, 2]⟩,
          ⟨(some 89), .pick (.t 84) (.k (.d (.bool true))) (.t 88), none, [2, 6]⟩,
          ⟨(some 90), .mv (.t 89), none, [7, 2]⟩,
          ⟨(some 91), .mv (.t 14), (some (90, false)), [8]⟩,
          ⟨(some 92), .len (.t 91), (some (90, false)), [9, 8]⟩,
          ⟨(some 93), .mv (.t 0), (some (90, false)), [8]⟩,
          ⟨(some 94), .len (.t 93), (some (90, false)), [11, 8]⟩,
          ⟨(some 95), .bin .neq (.t 92) (.t 94), (some (90, false)), [10, 12, 8]⟩,
          ⟨(some 96), .pick (.t 90) (.k (.d (.bool true))) (.t 95), none, [8, 13]⟩])
         (.cond (.t 96) (.seq (.region false [⟨(some 8), .mv (.k (.d (.bool false))), none, []⟩])
           .ret)
          (.skip)))
        (.seq (.seq (.region false [⟨(some 16), .mv (.k (.d (.int .i64 0))), none, []⟩])
          (.block 2 (.loop (.seq (.seq (.region false [⟨(some 97), .mv (.t 16), none, []⟩,
               ⟨(some 98), .mv (.t 14), none, []⟩,
               ⟨(some 99), .len (.t 98), none, [1]⟩,
               ⟨(some 100), .bin .lss (.t 97) (.t 99), none, [0, 2]⟩])
              (.cond (.t 100) (.skip)
               (.exit 2)))
             (.seq (.block 3 (.seq (.region true [⟨(some 103), .mv (.t 14), none, []⟩,
                 ⟨(some 104), .mv (.t 16), none, []⟩,
                 ⟨(some 105), .iaddr (.t 103) (.t 104) 2, none, [0, 1]⟩,
                 ⟨(some 106), .faddr (.t 105) 0, none, [2]⟩,
                 ⟨(some 107), .load (.t 106) 1 false, none, [3]⟩,
                 ⟨(some 108), .mv (.t 1), none, []⟩,
                 ⟨(some 109), .mv (.t 16), none, []⟩,
                 ⟨(some 110), .cvi .u64 (.t 109), none, [6]⟩,
                 ⟨(some 111), .bin .add (.t 108) (.t 110), none, [5, 7]⟩,
                 ⟨(some 112), .bin .neq (.t 107) (.t 111), none, [4, 8]⟩,
                 ⟨(some 113), .mv (.t 112), none, [9]⟩,
                 ⟨(some 114), .mv (.t 14), (some (113, false)), [10]⟩,
                 ⟨(some 115), .mv (.t 16), (some (113, false)), [10]⟩,
                 ⟨(some 116), .iaddr (.t 114) (.t 115) 2, (some (113, false)), [11, 12, 10]⟩,
                 ⟨(some 117), .faddr (.t 116) 1, (some (113, false)), [13, 10]⟩,
                 ⟨(some 118), .load (.t 117) 1 false, (some (113, false)), [14, 10]⟩,
                 ⟨(some 119), .mv (.t 0), (some (113, false)), [10]⟩,
                 ⟨(some 120), .mv (.t 16), (some (113, false)), [10]⟩,
                 ⟨(some 121), .iaddr (.t 119) (.t 120) 1, (some (113, false)), [16, 17, 10]⟩,
                 ⟨(some 122), .load (.t 121) 1 false, (some (113, false)), [18, 10]⟩,
                 ⟨(some 123), .call (.k (.d (.fn (N 22)))) [(.t 118), (.t 122)], (some (113, false)), [15, 19, 10]⟩,
                 ⟨(some 124), .un .not (.t 123), (some (113, false)), [20, 10]⟩,
                 ⟨(some 125), .pick (.t 113) (.k (.d (.bool true))) (.t 124), none, [10, 21]⟩])
                (.cond (.t 125) (.seq (.region false [⟨(some 8), .mv (.k (.d (.bool false))), none, []⟩])
                  .ret)
                 (.skip))))
              (.region false [⟨(some 101), .mv (.t 16), none, []⟩,
               ⟨(some 102), .bin .add (.t 101) (.k (.d (.int .i64 1))), none, [0]⟩,
               ⟨(some 16), .mv (.t 102), none, [1, 0]⟩]))))))
         (.seq (.region false [⟨(some 126), .mv (.t 3), none, []⟩,
           ⟨(some 127), .cvi .u64 (.t 126), none, [0]⟩,
           ⟨(some 128), .mv (.t 9), none, []⟩,
           ⟨(some 129), .len (.t 128), none, [2]⟩,
           ⟨(some 130), .bin .add (.t 129) (.k (.d (.int .i64 1))), none, [3]⟩,
           ⟨(some 131), .cvi .u64 (.t 130), none, [4]⟩,
           ⟨(some 132), .bin .rem (.t 127) (.t 131), none, [1, 5]⟩,
           ⟨(some 133), .cvi .i64 (.t 132), none, [6]⟩,
           ⟨(some 17), .mv (.t 133), none, [7, 0, 1, 2, 3, 4, 5, 6]⟩])
          (.seq (.region false [⟨(some 18), .mv (.k (.d (.int .i64 0))), none, []⟩,
            ⟨(some 19), .mv (.k (.d (.int .i64 0))), none, [0]⟩])
           (.seq (.seq (.region false [⟨(some 20), .mv (.k (.d (.int .i64 0))), none, []⟩])
             (.block 4 (.loop (.seq (.seq (.region false [⟨(some 134), .mv (.t 20), none, []⟩,
                  ⟨(some 135), .mv (.t 10), none, []⟩,
                  ⟨(some 136), .len (.t 135), none, [1]⟩,
                  ⟨(some 137), .bin .lss (.t 134) (.t 136), none, [0, 2]⟩])
                 (.cond (.t 137) (.skip)
                  (.exit 4)))
                (.seq (.block 5 (.seq (.region false [⟨(some 140), .mv (.t 10), none, []⟩,
                    ⟨(some 141), .mv (.t 20), none, []⟩,
                    ⟨(some 142), .iaddr (.t 140) (.t 141) 1, none, [0, 1]⟩,
                    ⟨(some 143), .load (.t 142) 1 false, none, [2]⟩,
                    ⟨(some 144), .mv (.t 17), none, []⟩,
                    ⟨(some 145), .bin .leq (.t 143) (.t 144), none, [3, 4]⟩])
                   (.cond (.t 145) (.region true [⟨(some 146), .mv (.t 20), none, []⟩,
                     ⟨(some 147), .bin .add (.t 146) (.k (.d (.int .i64 1))), none, [0]⟩,
                     ⟨(some 148), .mv (.t 10), none, []⟩,
                     ⟨(some 149), .mv (.t 20), none, []⟩,
                     ⟨(some 150), .iaddr (.t 148) (.t 149) 1, none, [2, 3]⟩,
                     ⟨(some 151), .load (.t 150) 1 false, none, [4]⟩,
                     ⟨(some 18), .mv (.t 147), none, [1, 0]⟩,
                     ⟨(some 19), .mv (.t 151), none, [5, 6, 0, 1, 2, 3, 4]⟩])
                    (.skip))))
                 (.region false [⟨(some 138), .mv (.t 20), none, []⟩,
                  ⟨(some 139), .bin .add (.t 138) (.k (.d (.int .i64 1))), none, [0]⟩,
                  ⟨(some 20), .mv (.t 139), none, [1, 0]⟩]))))))
            (.seq (.region false [⟨(some 153), .mv (.t 9), none, []⟩,
              ⟨(some 154), .mv (.t 17), none, []⟩,
              ⟨(some 155), .slc (.t 153) none (some (.t 154)) none 1, none, [0, 1]⟩,
              ⟨(some 156), .mv (.t 1), none, []⟩,
              ⟨(some 157), .call (.k (.d (.fn (N 272)))) [(.t 155), (.t 156)], none, [2, 3]⟩,
              ⟨(some 152), .mv (.t 157), none, [4]⟩,
              ⟨(some 158), .ext (.t 152) 0, none, [5]⟩,
              ⟨(some 159), .ext (.t 152) 1, none, [5]⟩,
              ⟨(some 21), .mv (.t 158), none, [6, 4, 0, 1, 2, 3, 5]⟩,
              ⟨(some 22), .mv (.t 159), none, [7, 8, 0, 1, 2, 3, 4, 5, 6]⟩])
             (.seq (.region false [⟨(some 160), .mv (.t 21), none, []⟩,
               ⟨(some 161), .len (.t 160), none, [0]⟩,
               ⟨(some 162), .mv (.t 18), none, []⟩,
               ⟨(some 163), .bin .eql (.t 161) (.t 162), none, [1, 2]⟩,
               ⟨(some 164), .mv (.t 163), none, [3]⟩,
               ⟨(some 165), .mv (.t 22), (some (164, true)), [4]⟩,
               ⟨(some 166), .mv (.t 19), (some (164, true)), [4]⟩,
               ⟨(some 167), .bin .eql (.t 165) (.t 166), (some (164, true)), [5, 6, 4]⟩,
               ⟨(some 168), .pick (.t 164) (.t 167) (.k (.d (.bool false))), none, [4, 7]⟩,
               ⟨(some 8), .mv (.t 168), none, [8, 4, 0, 1, 2, 3, 5, 6, 7]⟩])
              .ret))))))))))))) }
def HC244 (P : Program) (N : Nat → Nat) : Prop := HasF P (N 244) (C244 N) ∧ HC245 P N ∧ HC270 P N ∧ HC97 P N ∧ HC272 P N ∧ HC22 P N
def f244_j277 (k : Nat) (a3 : Int) (j116_1 : (List UInt8)) (a1 : Int) (j277_1 : Int) (j277_2 : Int) : Option Bool := gd (0 ≤ (0 : Int) ∧ (0 : Int) ≤ (IntKind.i64.wrap (Int.tmod (IntKind.u64.wrap a3) (IntKind.u64.wrap (IntKind.i64.wrap (((j116_1.length : Nat) : Int) + (1 : Int)))))) ∧ (IntKind.i64.wrap (Int.tmod (IntKind.u64.wrap a3) (IntKind.u64.wrap (IntKind.i64.wrap (((j116_1.length : Nat) : Int) + (1 : Int)))))) ≤ ((j116_1.length : Nat) : Int)) ((f272 k (sl j116_1 (0 : Int) (IntKind.i64.wrap (Int.tmod (IntKind.u64.wrap a3) (IntKind.u64.wrap (IntKind.i64.wrap (((j116_1.length : Nat) : Int) + (1 : Int))))))) a1).bind fun r284 => cond (decide (((r284.1.length : Nat) : Int) = j277_1)) (some (decide (r284.2 = j277_2))) (some false))
def f244_l236 (j116_2 : (List Int)) (a3 : Int) (j116_1 : (List UInt8)) : Nat → Int → Int → Int → Option (LR2 (Int × Int) Unit Bool)
  | 0, _, _, _ => none
  | k + 1, y236_1, y236_2, y236_3 => cond (decide (y236_3 < ((j116_2.length : Nat) : Int))) (gd (0 ≤ y236_3 ∧ y236_3 < ((j116_2.length : Nat) : Int)) (cond (decide ((rd j116_2 y236_3) ≤ (IntKind.i64.wrap (Int.tmod (IntKind.u64.wrap a3) (IntKind.u64.wrap (IntKind.i64.wrap (((j116_1.length : Nat) : Int) + (1 : Int)))))))) (gd (0 ≤ y236_3 ∧ y236_3 < ((j116_2.length : Nat) : Int)) (f244_l236 j116_2 a3 j116_1 k (IntKind.i64.wrap (y236_3 + (1 : Int))) (rd j116_2 y236_3) (IntKind.i64.wrap (y236_3 + (1 : Int))))) (f244_l236 j116_2 a3 j116_1 k y236_1 y236_2 (IntKind.i64.wrap (y236_3 + (1 : Int)))))) (some (.b0 (y236_1, y236_2)))
def f244_j214 (k : Nat) (j116_1 : (List UInt8)) (j116_2 : (List Int)) (a3 : Int) (a1 : Int) : Option Bool := gd ((IntKind.u64.wrap (IntKind.i64.wrap (((j116_1.length : Nat) : Int) + (1 : Int)))) ≠ 0) ((f244_l236 j116_2 a3 j116_1 k (0 : Int) (0 : Int) (0 : Int)).bind fun o236 => match o236 with | .b0 (x236_1, x236_2) => f244_j277 k a3 j116_1 a1 x236_1 x236_2 | _ => none)
def f244_l161 (r124 : ((List TRec) × Int)) (a1 : Int) (a0 : (List (List UInt8))) : Nat → Int → Option (LR2 Unit Unit Bool)
  | 0, _ => none
  | k + 1, y161_1 => cond (decide (y161_1 < ((r124.1.length : Nat) : Int))) (gd (0 ≤ y161_1 ∧ y161_1 < ((r124.1.length : Nat) : Int)) (cond (decide ((rd r124.1 y161_1).fOffset ≠ (IntKind.u64.wrap (a1 + (IntKind.u64.wrap y161_1))))) (some (.r false)) (gd (0 ≤ y161_1 ∧ y161_1 < ((r124.1.length : Nat) : Int)) (gd (0 ≤ y161_1 ∧ y161_1 < ((a0.length : Nat) : Int)) ((f22 k ((rd r124.1 y161_1).fData) (rd a0 y161_1)).bind fun r199 => cond (!(decide (((rd r124.1 y161_1).fData) = (rd a0 y161_1)))) (some (.r false)) (f244_l161 r124 a1 a0 k (IntKind.i64.wrap (y161_1 + (1 : Int))))))))) (some (.b0 ()))
def f244_j116 (k : Nat) (a2 : (List UInt8)) (a1 : Int) (a0 : (List (List UInt8))) (a3 : Int) (j116_1 : (List UInt8)) (j116_2 : (List Int)) : Option Bool := (f97 k j116_1).bind fun r120 => gd ((j116_1.length + a2.length) * 2 * 1 ≤ 281474976710656) ((f272 k (j116_1 ++ a2) a1).bind fun r124 => (f245 k).bind fun r134 => cond (!r134) (some false) (cond (decide (r124.2 ≠ ((j116_1.length : Nat) : Int))) (some false) (cond (decide (((r124.1.length : Nat) : Int) ≠ ((a0.length : Nat) : Int))) (some false) ((f244_l161 r124 a1 a0 k (0 : Int)).bind fun o161 => match o161 with | .b0 () => f244_j214 k j116_1 j116_2 a3 a1 | .r x => some x | _ => none))))
def f244_l42 (a0 : (List (List UInt8))) (a1 : Int) : Nat → (List UInt8) → (List Int) → Int → Option (LR2 ((List UInt8) × (List Int)) Unit Bool)
  | 0, _, _, _ => none
  | k + 1, y42_1, y42_2, y42_3 => cond (decide (y42_3 < ((a0.length : Nat) : Int))) (gd (0 ≤ y42_3 ∧ y42_3 < ((a0.length : Nat) : Int)) ((f270 k (IntKind.u64.wrap (a1 + (IntKind.u64.wrap y42_3))) (rd a0 y42_3)).bind fun r68 => gd (0 ≤ y42_3 ∧ y42_3 < ((a0.length : Nat) : Int)) (cond (decide ((((rd a0 y42_3).length : Nat) : Int) > (500 : Int))) ((f245 k).bind fun r92 => some (.r r92)) (cond (decide (r68.2 ≠ (0 : Int))) ((f245 k).bind fun r92 => some (.r r92)) (gd ((y42_1.length + r68.1.length) * 2 * 1 ≤ 281474976710656) (gd ((y42_2.length + ([(((y42_1 ++ r68.1).length : Nat) : Int)] : List Int).length) * 2 * 8 ≤ 281474976710656) (f244_l42 a0 a1 k (y42_1 ++ r68.1) (y42_2 ++ ([(((y42_1 ++ r68.1).length : Nat) : Int)] : List Int)) (IntKind.i64.wrap (y42_3 + (1 : Int)))))))))) (some (.b0 (y42_1, y42_2)))
def f244 (k : Nat) (a0 : (List (List UInt8))) (a1 : Int) (a2 : (List UInt8)) (a3 : Int) : Option Bool := cond (decide (((a0.length : Nat) : Int) > (60 : Int))) ((f245 k).bind fun r25 => some r25) (cond (decide (((a2.length : Nat) : Int) > (15 : Int))) ((f245 k).bind fun r25 => some r25) (cond (decide (a1 > (4611686018427387904 : Int))) ((f245 k).bind fun r25 => some r25) ((f244_l42 a0 a1 k ([] : List UInt8) ([] : List Int) (0 : Int)).bind fun o42 => match o42 with | .b0 (x42_1, x42_2) => f244_j116 k a2 a1 a0 a3 x42_1 x42_2 | .r x => some x | _ => none)))
theorem F244 {P : Program} {N : Nat → Nat} (hmix : P.follows .mixedOrders = true) (hc : HC244 P N) {k : Nat} {a0 : (List (List UInt8))} {a1 : Int} {a2 : (List UInt8)} {a3 : Int} {r : Bool} (h : f244 k a0 a1 a2 a3 = some r) :
    ACalls P (N 244) [(.d (.sl (List.map (slE byteD) a0))), (.d (.int .u64 a1)), (.d (.sl (List.map byteD a2))), (.d (.int .i64 a3))] [] (.d (.bool r)) [] := by
  refine acalls_canon (F := C244 N) hc.1 0 0 rfl ?_
  unfold f244 at h
  dsimp only [C244, startL]
  refine AWc.seq ?_
  refine AWc.rg hmix rfl rfl ?_
  refine RegV.p0 rfl rfl rfl ?_
  refine RegV.nil0 ?_
  refine AWc.seq ?_
  refine AWc.seq ?_
  refine AWc.rg hmix rfl rfl ?_
  refine RegV.p0 rfl rfl rfl ?_
  refine RegV.len (xs := a0) (e := (slE byteD)) rfl rfl rfl rfl ?_
  refine RegV.p0 (v := (.d (.bool (decide (((a0.length : Nat) : Int) > (60 : Int)))))) rfl rfl rfl ?_
  refine RegV.p0 rfl rfl rfl ?_
  refine RegV.split (fun c12 => ?_) (fun c12 => ?_)
  · have h := cond_pos c12 h
    refine RegV.noS rfl rfl ?_
    refine RegV.noS rfl rfl ?_
    refine RegV.noS rfl rfl ?_
    refine RegV.p0 rfl rfl rfl ?_
    refine RegV.p0 rfl rfl rfl ?_
    refine RegV.noS rfl rfl ?_
    refine RegV.noS rfl rfl ?_
    refine RegV.p0 rfl rfl rfl ?_
    refine RegV.nil0 ?_
    refine AWc.cond rfl (fun _ => ?_) (fun hc => by cases hc)
    refine AWc.seq ?_
    refine AWc.rg hmix rfl rfl ?_
    obtain ⟨r25, e25, h⟩ := bind_some h
    refine RegV.call0 (F245 hmix hc.2.1 e25) rfl rfl rfl rfl .nil rfl ?_
    refine RegV.p0 rfl rfl rfl ?_
    refine RegV.nil0 ?_
    have hr := Option.some.inj h
    subst hr
    exact AWc.ret (canQ (N := 169) (k := 0) (l' := [(8, (.d (.bool r25)))]) (H' := []) rfl ⟨rfl, [], [], rfl, rfl, ⟨⟨_, rfl, (.refl _)⟩, rfl, trivial⟩,  trivial⟩ (doneA (.inr rfl) rfl ⟨trivial, trivial⟩ (.refl _) hasNil))
  · have h := cond_neg c12 h
    refine RegV.p0 rfl rfl rfl ?_
    refine RegV.len (xs := a2) (e := byteD) rfl rfl rfl rfl ?_
    refine RegV.p0 (v := (.d (.bool (decide (((a2.length : Nat) : Int) > (15 : Int)))))) rfl rfl rfl ?_
    refine RegV.p0 rfl rfl rfl ?_
    refine RegV.p0 rfl rfl rfl ?_
    refine RegV.split (fun c17 => ?_) (fun c17 => ?_)
    · have h := cond_pos c17 h
      refine RegV.noS rfl rfl ?_
      refine RegV.noS rfl rfl ?_
      refine RegV.p0 rfl rfl rfl ?_
      refine RegV.nil0 ?_
      refine AWc.cond rfl (fun _ => ?_) (fun hc => by cases hc)
      refine AWc.seq ?_
      refine AWc.rg hmix rfl rfl ?_
      obtain ⟨r25, e25, h⟩ := bind_some h
      refine RegV.call0 (F245 hmix hc.2.1 e25) rfl rfl rfl rfl .nil rfl ?_
      refine RegV.p0 rfl rfl rfl ?_
      refine RegV.nil0 ?_
      have hr := Option.some.inj h
      subst hr
      exact AWc.ret (canQ (N := 169) (k := 0) (l' := [(8, (.d (.bool r25)))]) (H' := []) rfl ⟨rfl, [], [], rfl, rfl, ⟨⟨_, rfl, (.refl _)⟩, rfl, trivial⟩,  trivial⟩ (doneA (.inr rfl) rfl ⟨trivial, trivial⟩ (.refl _) hasNil))
    · have h := cond_neg c17 h
      refine RegV.p0 rfl rfl rfl ?_
      refine RegV.p0 (v := (.d (.bool (decide (a1 > (4611686018427387904 : Int)))))) rfl rfl rfl ?_
      refine RegV.p0 rfl rfl rfl ?_
      refine RegV.nil0 ?_
      refine AWc.cond rfl (fun c21 => ?_) (fun c21 => ?_)
      · have h := cond_pos c21 h
        refine AWc.seq ?_
        refine AWc.rg hmix rfl rfl ?_
        obtain ⟨r25, e25, h⟩ := bind_some h
        refine RegV.call0 (F245 hmix hc.2.1 e25) rfl rfl rfl rfl .nil rfl ?_
        refine RegV.p0 rfl rfl rfl ?_
        refine RegV.nil0 ?_
        have hr := Option.some.inj h
        subst hr
        exact AWc.ret (canQ (N := 169) (k := 0) (l' := [(8, (.d (.bool r25)))]) (H' := []) rfl ⟨rfl, [], [], rfl, rfl, ⟨⟨_, rfl, (.refl _)⟩, rfl, trivial⟩,  trivial⟩ (doneA (.inr rfl) rfl ⟨trivial, trivial⟩ (.refl _) hasNil))
      · have h := cond_neg c21 h
        refine AWc.skip ?_
        refine AWc.seq ?_
        refine AWc.rg hmix rfl rfl ?_
        refine RegV.p0 rfl rfl rfl ?_
        refine RegV.nil0 ?_
        refine AWc.seq ?_
        refine AWc.rg hmix rfl rfl ?_
        refine RegV.p0 rfl rfl rfl ?_
        refine RegV.nil0 ?_
        refine AWc.seqS (N := 169) 2 (fun (z : ((List UInt8) × (List Int))) => [(0, (.d (.sl (List.map (slE byteD) a0)))), (1, (.d (.int .u64 a1))), (2, (.d (.sl (List.map byteD a2)))), (3, (.d (.int .i64 a3))), (9, (.ap 0 1 (List.map byteD z.1))), (10, (.ap 1 1 (List.map (D.int .i64) z.2)))]) (fun z => [(0, (.tok ((List.map byteD z.1).length * 1))), (1, (.tok ((List.map (D.int .i64) z.2).length * 1)))]) (fun z => f244_j116 k a2 a1 a0 a3 z.1 z.2 = some r) rfl_le ?_ ?_
        · refine AWc.seq ?_
          refine AWc.rg hmix rfl rfl ?_
          refine RegV.p0 rfl rfl rfl ?_
          refine RegV.nil0 ?_
          obtain ⟨o42, h42, h⟩ := bind_some h
          refine AWc.block ?_
          refine AWc.loopK (N := 169) 2 (fun (x : ((List UInt8) × (List Int) × Int)) => [(0, (.d (.sl (List.map (slE byteD) a0)))), (1, (.d (.int .u64 a1))), (2, (.d (.sl (List.map byteD a2)))), (3, (.d (.int .i64 a3))), (9, (.ap 0 1 (List.map byteD x.1))), (10, (.ap 1 1 (List.map (D.int .i64) x.2.1))), (11, (.d (.int .i64 x.2.2)))]) (fun x => [(0, (.tok ((List.map byteD x.1).length * 1))), (1, (.tok ((List.map (D.int .i64) x.2.1).length * 1)))]) (fun k x => f244_l42 a0 a1 k x.1 x.2.1 x.2.2 = some o42) k (([] : List UInt8), ([] : List Int), (0 : Int)) rfl_le (fun x hx => by cases hx) h42 ⟨rfl, [.tok 0, .tok 0], [(0, 0), (1, 1)], rfl, rfl, ⟨⟨_, rfl, (.refl _)⟩, rfl, ⟨⟨_, rfl, (.refl _)⟩, rfl, ⟨⟨_, rfl, (.refl _)⟩, rfl, ⟨⟨_, rfl, (.refl _)⟩, rfl, ⟨⟨_, rfl, .nil⟩, rfl, ⟨⟨_, rfl, .nil⟩, rfl, ⟨⟨_, rfl, (.refl _)⟩, rfl, trivial⟩⟩⟩⟩⟩⟩⟩, ⟨⟨_, rfl, (.refl _)⟩, rfl, rfl, ⟨⟨_, rfl, (.refl _)⟩, rfl, rfl, trivial⟩⟩⟩ ?_
          clear h42
          intro k
          rintro ⟨y42_1, y42_2, y42_3⟩ h42
          dsimp only at h42 ⊢
          rw [f244_l42] at h42
          refine AWc.seq ?_
          refine AWc.seq ?_
          refine AWc.rg hmix rfl rfl ?_
          refine RegV.p0 rfl rfl rfl ?_
          refine RegV.p0 rfl rfl rfl ?_
          refine RegV.len (xs := a0) (e := (slE byteD)) rfl rfl rfl rfl ?_
          refine RegV.p0 (v := (.d (.bool (decide (y42_3 < ((a0.length : Nat) : Int)))))) rfl rfl rfl ?_
          refine RegV.nil0 ?_
          refine AWc.cond rfl (fun c52 => ?_) (fun c52 => ?_)
          · have h42 := cond_pos c52 h42
            refine AWc.skip ?_
            refine AWc.seq ?_
            refine AWc.block ?_
            refine AWc.seq ?_
            refine AWc.rg hmix rfl rfl ?_
            refine RegV.p0 rfl rfl rfl ?_
            refine RegV.p0 rfl rfl rfl ?_
            refine RegV.p0 (v := (.d (.int .u64 (IntKind.u64.wrap y42_3)))) rfl rfl rfl ?_
            refine RegV.p0 (v := (.d (.int .u64 (IntKind.u64.wrap (a1 + (IntKind.u64.wrap y42_3)))))) rfl rfl rfl ?_
            refine RegV.p0 rfl rfl rfl ?_
            refine RegV.p0 rfl rfl rfl ?_
            obtain ⟨b66, h42⟩ := gd_some h42
            refine RegV.iad (xs := a0) (e := (slE byteD)) rfl rfl rfl rfl (fun _ => rfl) b66 rfl ?_
            refine RegV.p0 (v := (.d (.sl (List.map byteD (rd a0 y42_3))))) rfl rfl rfl ?_
            obtain ⟨r68, e68, h42⟩ := bind_some h42
            refine RegV.callS (q := false) (H' := [(2, (.tok ((List.map byteD r68.1).length * 1))), (0, (.tok ((List.map byteD y42_1).length * 1))), (1, (.tok ((List.map (D.int .i64) y42_2).length * 1)))]) (c' := 3) (show ACalls P (N 270) [(.d (.int .u64 (IntKind.u64.wrap (a1 + (IntKind.u64.wrap y42_3))))), (.d (.sl (List.map byteD (rd a0 y42_3))))] [] (.tup [(.ap 2 1 (List.map byteD r68.1)), (.d (.int .i64 r68.2))]) [(2, (.tok ((List.map byteD r68.1).length * 1)))] from ACalls.use (F270 hmix hc.2.2.1 e68) [(0, 2)] 1 rfl) rfl rfl rfl rfl (.cons (.refl _) (.cons (.refl _) .nil)) (.refl _) (fun h => by cases h) rfl hasNil rfl rfl rfl rfl ?_
            refine RegV.p0 rfl rfl rfl ?_
            refine RegV.p0 rfl rfl rfl ?_
            refine RegV.p0 rfl rfl rfl ?_
            refine RegV.p0 rfl rfl rfl ?_
            refine RegV.p0 rfl rfl rfl ?_
            refine RegV.nil0 ?_
            refine AWc.seq ?_
            refine AWc.seq ?_
            refine AWc.rg hmix rfl rfl ?_
            refine RegV.p0 rfl rfl rfl ?_
            refine RegV.p0 rfl rfl rfl ?_
            obtain ⟨b80, h42⟩ := gd_some h42
            refine RegV.iad (xs := a0) (e := (slE byteD)) rfl rfl rfl rfl (fun _ => rfl) b80 rfl ?_
            refine RegV.p0 (v := (.d (.sl (List.map byteD (rd a0 y42_3))))) rfl rfl rfl ?_
            refine RegV.len (xs := (rd a0 y42_3)) (e := byteD) rfl rfl rfl rfl ?_
            refine RegV.p0 (v := (.d (.bool (decide ((((rd a0 y42_3).length : Nat) : Int) > (500 : Int)))))) rfl rfl rfl ?_
            refine RegV.p0 rfl rfl rfl ?_
            refine RegV.split (fun c84 => ?_) (fun c84 => ?_)
            · have h42 := cond_pos c84 h42
              refine RegV.noS rfl rfl ?_
              refine RegV.noS rfl rfl ?_
              refine RegV.p0 rfl rfl rfl ?_
              refine RegV.nil0 ?_
              refine AWc.cond rfl (fun _ => ?_) (fun hc => by cases hc)
              refine AWc.seq ?_
              refine AWc.rg hmix rfl rfl ?_
              obtain ⟨r92, e92, h42⟩ := bind_some h42
              refine RegV.call0 (F245 hmix hc.2.1 e92) rfl rfl rfl rfl .nil rfl ?_
              refine RegV.p0 rfl rfl rfl ?_
              refine RegV.nil0 ?_
              cases h42
              dsimp only at h
              have hr := Option.some.inj h
              subst hr
              exact AWc.ret (canQ (N := 169) (k := 0) (l' := [(8, (.d (.bool r92)))]) (H' := []) rfl ⟨rfl, [], [], rfl, rfl, ⟨⟨_, rfl, (.refl _)⟩, rfl, trivial⟩,  trivial⟩ (doneA (.inr rfl) rfl ⟨trivial, trivial⟩ (.refl _) hasNil))
            · have h42 := cond_neg c84 h42
              refine RegV.p0 rfl rfl rfl ?_
              refine RegV.p0 (v := (.d (.bool (decide (r68.2 ≠ (0 : Int)))))) rfl rfl rfl ?_
              refine RegV.p0 rfl rfl rfl ?_
              refine RegV.nil0 ?_
              refine AWc.cond rfl (fun c88 => ?_) (fun c88 => ?_)
              · have h42 := cond_pos c88 h42
                refine AWc.seq ?_
                refine AWc.rg hmix rfl rfl ?_
                obtain ⟨r92, e92, h42⟩ := bind_some h42
                refine RegV.call0 (F245 hmix hc.2.1 e92) rfl rfl rfl rfl .nil rfl ?_
                refine RegV.p0 rfl rfl rfl ?_
                refine RegV.nil0 ?_
                cases h42
                dsimp only at h
                have hr := Option.some.inj h
                subst hr
                exact AWc.ret (canQ (N := 169) (k := 0) (l' := [(8, (.d (.bool r92)))]) (H' := []) rfl ⟨rfl, [], [], rfl, rfl, ⟨⟨_, rfl, (.refl _)⟩, rfl, trivial⟩,  trivial⟩ (doneA (.inr rfl) rfl ⟨trivial, trivial⟩ (.refl _) hasNil))
              · have h42 := cond_neg c88 h42
                refine AWc.skip ?_
                refine AWc.seq ?_
                refine AWc.rg hmix rfl rfl ?_
                refine RegV.p0 rfl rfl rfl ?_
                refine RegV.p0 rfl rfl rfl ?_
                obtain ⟨b101, h42⟩ := gd_some h42
                refine RegV.appA (xs := y42_1) (ys := r68.1) (e := byteD) (H1 := [(2, (.tok ((List.map byteD r68.1).length * 1))), (1, (.tok ((List.map (D.int .i64) y42_2).length * 1)))]) rfl rfl rfl rfl (fun _ => rfl) rfl rfl b101 rfl rfl rfl ?_
                refine RegV.p0 rfl rfl rfl ?_
                refine RegV.nil0 ?_
                refine AWc.rg hmix rfl rfl ?_
                refine RegV.p0 rfl rfl rfl ?_
                refine RegV.p0 rfl rfl rfl ?_
                refine RegV.len (xs := (y42_1 ++ r68.1)) (e := byteD) rfl rfl rfl rfl ?_
                refine RegV.p1 (v := (.d (.sl (List.map (D.int .i64) ([(((y42_1 ++ r68.1).length : Nat) : Int)] : List Int))))) rfl rfl (by exact ⟨rfl, Nat.le_of_ble_eq_true rfl, mapLen (e := (D.int .i64)) (xs := ([(((y42_1 ++ r68.1).length : Nat) : Int)] : List Int)) (z := 1) (fun _ => rfl)⟩) rfl rfl ?_
                obtain ⟨b109, h42⟩ := gd_some h42
                refine RegV.appA (xs := y42_2) (ys := ([(((y42_1 ++ r68.1).length : Nat) : Int)] : List Int)) (e := (D.int .i64)) (H1 := [(3, (.tok ((List.map byteD (y42_1 ++ r68.1)).length * 1))), (2, (.tok ((List.map byteD r68.1).length * 1)))]) rfl rfl rfl rfl (fun _ => rfl) rfl rfl b109 rfl rfl rfl ?_
                refine RegV.p0 rfl rfl rfl ?_
                refine RegV.nil0 ?_
                refine AWc.rg hmix rfl rfl ?_
                refine RegV.p0 rfl rfl rfl ?_
                refine RegV.p0 (v := (.d (.int .i64 (IntKind.i64.wrap (y42_3 + (1 : Int)))))) rfl rfl rfl ?_
                refine RegV.p0 rfl rfl rfl ?_
                refine RegV.nil0 ?_
                exact ⟨((y42_1 ++ r68.1), (y42_2 ++ ([(((y42_1 ++ r68.1).length : Nat) : Int)] : List Int)), (IntKind.i64.wrap (y42_3 + (1 : Int)))), h42, ⟨rfl, [], [(0, 3), (1, 4)], rfl, rfl, ⟨⟨_, rfl, (.refl _)⟩, rfl, ⟨⟨_, rfl, (.refl _)⟩, rfl, ⟨⟨_, rfl, (.refl _)⟩, rfl, ⟨⟨_, rfl, (.refl _)⟩, rfl, ⟨⟨_, rfl, (.refl _)⟩, rfl, ⟨⟨_, rfl, (.refl _)⟩, rfl, ⟨⟨_, rfl, (.refl _)⟩, rfl, trivial⟩⟩⟩⟩⟩⟩⟩, ⟨⟨_, rfl, (.refl _)⟩, rfl, rfl, ⟨⟨_, rfl, (.refl _)⟩, rfl, rfl, trivial⟩⟩⟩⟩
          · have h42 := cond_neg c52 h42
            cases h42
            dsimp only at h
            refine AWc.exit ?_
            refine inBlk_eq ?_
            exact ⟨(y42_1, y42_2), h, ⟨rfl, [], [], rfl, rfl, ⟨⟨_, rfl, (.refl _)⟩, rfl, ⟨⟨_, rfl, (.refl _)⟩, rfl, ⟨⟨_, rfl, (.refl _)⟩, rfl, ⟨⟨_, rfl, (.refl _)⟩, rfl, ⟨⟨_, rfl, (.refl _)⟩, rfl, ⟨⟨_, rfl, (.refl _)⟩, rfl, trivial⟩⟩⟩⟩⟩⟩, ⟨⟨_, rfl, (.refl _)⟩, rfl, rfl, ⟨⟨_, rfl, (.refl _)⟩, rfl, rfl, trivial⟩⟩⟩⟩
        · rintro ⟨j116_1, j116_2⟩ h
          dsimp only at h ⊢
          unfold f244_j116 at h
          refine AWc.seq ?_
          refine AWc.rg hmix rfl rfl ?_
          refine RegV.p0 rfl rfl rfl ?_
          obtain ⟨r120, e120, h⟩ := bind_some h
          refine RegV.callS (q := false) (H' := [(2, (.tok ((List.map byteD j116_1).length * 1))), (0, (.tok ((List.map byteD j116_1).length * 1))), (1, (.tok ((List.map (D.int .i64) j116_2).length * 1)))]) (c' := 3) (show ACalls P (N 97) [(.d (.sl (List.map byteD j116_1)))] [] (.ap 2 1 (List.map byteD j116_1)) [(2, (.tok ((List.map byteD j116_1).length * 1)))] from ACalls.use (F97 hmix hc.2.2.2.1 e120) [(0, 2)] 1 rfl) rfl rfl rfl rfl (.cons (.sl rfl) .nil) (.refl _) (fun h => by cases h) rfl hasNil rfl rfl rfl rfl ?_
          refine RegV.p0 rfl rfl rfl ?_
          obtain ⟨b122, h⟩ := gd_some h
          refine RegV.appA (xs := j116_1) (ys := a2) (e := byteD) (H1 := [(0, (.tok ((List.map byteD j116_1).length * 1))), (1, (.tok ((List.map (D.int .i64) j116_2).length * 1)))]) rfl rfl rfl rfl (fun _ => rfl) rfl rfl b122 rfl rfl rfl ?_
          refine RegV.p0 rfl rfl rfl ?_
          obtain ⟨r124, e124, h⟩ := bind_some h
          refine RegV.callS (q := false) (H' := [(4, (.tok ((List.map TRec.enc r124.1).length * 2))), (3, (.tok ((List.map byteD (j116_1 ++ a2)).length * 1))), (0, (.tok ((List.map byteD j116_1).length * 1))), (1, (.tok ((List.map (D.int .i64) j116_2).length * 1)))]) (c' := 5) (show ACalls P (N 272) [(.d (.sl (List.map byteD (j116_1 ++ a2)))), (.d (.int .u64 a1))] [] (.tup [(.ap 4 2 (List.map TRec.enc r124.1)), (.d (.int .i64 r124.2))]) [(4, (.tok ((List.map TRec.enc r124.1).length * 2)))] from ACalls.use (F272 hmix hc.2.2.2.2.1 e124) [(0, 4)] 1 rfl) rfl rfl rfl rfl (.cons (.sl rfl) (.cons (.refl _) .nil)) (.refl _) (fun h => by cases h) rfl hasNil rfl rfl rfl rfl ?_
          refine RegV.p0 rfl rfl rfl ?_
          refine RegV.p0 rfl rfl rfl ?_
          refine RegV.p0 rfl rfl rfl ?_
          refine RegV.p0 rfl rfl rfl ?_
          refine RegV.p0 rfl rfl rfl ?_
          refine RegV.nil0 ?_
          refine AWc.seq ?_
          refine AWc.seq ?_
          refine AWc.rg hmix rfl rfl ?_
          obtain ⟨r134, e134, h⟩ := bind_some h
          refine RegV.call0 (F245 hmix hc.2.1 e134) rfl rfl rfl rfl .nil rfl ?_
          refine RegV.p0 (v := (.d (.bool (!r134)))) rfl rfl rfl ?_
          refine RegV.p0 rfl rfl rfl ?_
          refine RegV.split (fun c136 => ?_) (fun c136 => ?_)
          · have h := cond_pos c136 h
            refine RegV.noS rfl rfl ?_
            refine RegV.noS rfl rfl ?_
            refine RegV.noS rfl rfl ?_
            refine RegV.noS rfl rfl ?_
            refine RegV.p0 rfl rfl rfl ?_
            refine RegV.p0 rfl rfl rfl ?_
            refine RegV.noS rfl rfl ?_
            refine RegV.noS rfl rfl ?_
            refine RegV.noS rfl rfl ?_
            refine RegV.noS rfl rfl ?_
            refine RegV.noS rfl rfl ?_
            refine RegV.p0 rfl rfl rfl ?_
            refine RegV.nil0 ?_
            refine AWc.cond rfl (fun _ => ?_) (fun hc => by cases hc)
            refine AWc.seq ?_
            refine AWc.rg hmix rfl rfl ?_
            refine RegV.p0 rfl rfl rfl ?_
            refine RegV.nil0 ?_
            have hr := Option.some.inj h
            subst hr
            exact AWc.ret (canQ (N := 169) (k := 0) (l' := [(8, (.d (.bool false)))]) (H' := []) rfl ⟨rfl, [], [], rfl, rfl, ⟨⟨_, rfl, (.refl _)⟩, rfl, trivial⟩,  trivial⟩ (doneA (.inr rfl) rfl ⟨trivial, trivial⟩ (.refl _) hasNil))
          · have h := cond_neg c136 h
            refine RegV.p0 rfl rfl rfl ?_
            refine RegV.p0 rfl rfl rfl ?_
            refine RegV.len (xs := j116_1) (e := byteD) rfl rfl rfl rfl ?_
            refine RegV.p0 (v := (.d (.bool (decide (r124.2 ≠ ((j116_1.length : Nat) : Int)))))) rfl rfl rfl ?_
            refine RegV.p0 rfl rfl rfl ?_
            refine RegV.p0 rfl rfl rfl ?_
            refine RegV.split (fun c142 => ?_) (fun c142 => ?_)
            · have h := cond_pos c142 h
              refine RegV.noS rfl rfl ?_
              refine RegV.noS rfl rfl ?_
              refine RegV.noS rfl rfl ?_
              refine RegV.noS rfl rfl ?_
              refine RegV.noS rfl rfl ?_
              refine RegV.p0 rfl rfl rfl ?_
              refine RegV.nil0 ?_
              refine AWc.cond rfl (fun _ => ?_) (fun hc => by cases hc)
              refine AWc.seq ?_
              refine AWc.rg hmix rfl rfl ?_
              refine RegV.p0 rfl rfl rfl ?_
              refine RegV.nil0 ?_
              have hr := Option.some.inj h
              subst hr
              exact AWc.ret (canQ (N := 169) (k := 0) (l' := [(8, (.d (.bool false)))]) (H' := []) rfl ⟨rfl, [], [], rfl, rfl, ⟨⟨_, rfl, (.refl _)⟩, rfl, trivial⟩,  trivial⟩ (doneA (.inr rfl) rfl ⟨trivial, trivial⟩ (.refl _) hasNil))
            · have h := cond_neg c142 h
              refine RegV.p0 rfl rfl rfl ?_
              refine RegV.len (xs := r124.1) (e := TRec.enc) rfl rfl rfl rfl ?_
              refine RegV.p0 rfl rfl rfl ?_
              refine RegV.len (xs := a0) (e := (slE byteD)) rfl rfl rfl rfl ?_
              refine RegV.p0 (v := (.d (.bool (decide (((r124.1.length : Nat) : Int) ≠ ((a0.length : Nat) : Int)))))) rfl rfl rfl ?_
              refine RegV.p0 rfl rfl rfl ?_
              refine RegV.nil0 ?_
              refine AWc.cond rfl (fun c149 => ?_) (fun c149 => ?_)
              · have h := cond_pos c149 h
                refine AWc.seq ?_
                refine AWc.rg hmix rfl rfl ?_
                refine RegV.p0 rfl rfl rfl ?_
                refine RegV.nil0 ?_
                have hr := Option.some.inj h
                subst hr
                exact AWc.ret (canQ (N := 169) (k := 0) (l' := [(8, (.d (.bool false)))]) (H' := []) rfl ⟨rfl, [], [], rfl, rfl, ⟨⟨_, rfl, (.refl _)⟩, rfl, trivial⟩,  trivial⟩ (doneA (.inr rfl) rfl ⟨trivial, trivial⟩ (.refl _) hasNil))
              · have h := cond_neg c149 h
                refine AWc.skip ?_
                refine AWc.seqS (N := 169) 2 (fun (z : Unit) => [(1, (.d (.int .u64 a1))), (3, (.d (.int .i64 a3))), (9, (.ap 0 1 (List.map byteD j116_1))), (10, (.ap 1 1 (List.map (D.int .i64) j116_2)))]) (fun z => [(0, (.tok ((List.map byteD j116_1).length * 1))), (1, (.tok ((List.map (D.int .i64) j116_2).length * 1)))]) (fun z => f244_j214 k j116_1 j116_2 a3 a1 = some r) rfl_le ?_ ?_
                · refine AWc.seq ?_
                  refine AWc.rg hmix rfl rfl ?_
                  refine RegV.p0 rfl rfl rfl ?_
                  refine RegV.nil0 ?_
                  obtain ⟨o161, h161, h⟩ := bind_some h
                  refine AWc.block ?_
                  refine AWc.loopK (N := 169) 3 (fun (x : Int) => [(0, (.d (.sl (List.map (slE byteD) a0)))), (1, (.d (.int .u64 a1))), (3, (.d (.int .i64 a3))), (9, (.ap 0 1 (List.map byteD j116_1))), (10, (.ap 1 1 (List.map (D.int .i64) j116_2))), (14, (.ap 2 2 (List.map TRec.enc r124.1))), (16, (.d (.int .i64 x)))]) (fun x => [(0, (.tok ((List.map byteD j116_1).length * 1))), (1, (.tok ((List.map (D.int .i64) j116_2).length * 1))), (2, (.tok ((List.map TRec.enc r124.1).length * 2)))]) (fun k x => f244_l161 r124 a1 a0 k x = some o161) k (0 : Int) rfl_le (fun x hx => by cases hx) h161 ⟨rfl, [], [(2, 4)], rfl, rfl, ⟨⟨_, rfl, (.refl _)⟩, rfl, ⟨⟨_, rfl, (.refl _)⟩, rfl, ⟨⟨_, rfl, (.refl _)⟩, rfl, ⟨⟨_, rfl, (.refl _)⟩, rfl, ⟨⟨_, rfl, (.refl _)⟩, rfl, ⟨⟨_, rfl, (.refl _)⟩, rfl, ⟨⟨_, rfl, (.refl _)⟩, rfl, trivial⟩⟩⟩⟩⟩⟩⟩, ⟨⟨_, rfl, (.refl _)⟩, rfl, rfl, ⟨⟨_, rfl, (.refl _)⟩, rfl, rfl, ⟨⟨_, rfl, (.refl _)⟩, rfl, rfl, trivial⟩⟩⟩⟩ ?_
                  clear h161
                  intro k
                  intro y161_1 h161
                  rw [f244_l161] at h161
                  refine AWc.seq ?_
                  refine AWc.seq ?_
                  refine AWc.rg hmix rfl rfl ?_
                  refine RegV.p0 rfl rfl rfl ?_
                  refine RegV.p0 rfl rfl rfl ?_
                  refine RegV.len (xs := r124.1) (e := TRec.enc) rfl rfl rfl rfl ?_
                  refine RegV.p0 (v := (.d (.bool (decide (y161_1 < ((r124.1.length : Nat) : Int)))))) rfl rfl rfl ?_
                  refine RegV.nil0 ?_
                  refine AWc.cond rfl (fun c171 => ?_) (fun c171 => ?_)
                  · have h161 := cond_pos c171 h161
                    refine AWc.skip ?_
                    refine AWc.seq ?_
                    refine AWc.block ?_
                    refine AWc.seq ?_
                    refine AWc.rg hmix rfl rfl ?_
                    refine RegV.p0 rfl rfl rfl ?_
                    refine RegV.p0 rfl rfl rfl ?_
                    obtain ⟨b181, h161⟩ := gd_some h161
                    refine RegV.iad (xs := r124.1) (e := TRec.enc) rfl rfl rfl rfl (fun _ => rfl) b181 rfl ?_
                    refine RegV.p0 (v := (.cp (TRec.enc (rd r124.1 y161_1)) 0)) rfl rfl rfl ?_
                    refine RegV.p0 (v := (.d (.int .u64 (rd r124.1 y161_1).fOffset))) rfl rfl rfl ?_
                    refine RegV.p0 rfl rfl rfl ?_
                    refine RegV.p0 rfl rfl rfl ?_
                    refine RegV.p0 (v := (.d (.int .u64 (IntKind.u64.wrap y161_1)))) rfl rfl rfl ?_
                    refine RegV.p0 (v := (.d (.int .u64 (IntKind.u64.wrap (a1 + (IntKind.u64.wrap y161_1)))))) rfl rfl rfl ?_
                    refine RegV.p0 (v := (.d (.bool (decide ((rd r124.1 y161_1).fOffset ≠ (IntKind.u64.wrap (a1 + (IntKind.u64.wrap y161_1)))))))) rfl rfl rfl ?_
                    refine RegV.p0 rfl rfl rfl ?_
                    refine RegV.split (fun c189 => ?_) (fun c189 => ?_)
                    · have h161 := cond_pos c189 h161
                      refine RegV.noS rfl rfl ?_
                      refine RegV.noS rfl rfl ?_
                      refine RegV.noS rfl rfl ?_
                      refine RegV.noS rfl rfl ?_
                      refine RegV.noS rfl rfl ?_
                      refine RegV.noS rfl rfl ?_
                      refine RegV.noS rfl rfl ?_
                      refine RegV.noS rfl rfl ?_
                      refine RegV.noS rfl rfl ?_
                      refine RegV.noS rfl rfl ?_
                      refine RegV.noS rfl rfl ?_
                      refine RegV.p0 rfl rfl rfl ?_
                      refine RegV.nil1 (by kernel_rfl) ?_
                      refine AWc.cond rfl (fun _ => ?_) (fun hc => by cases hc)
                      refine AWc.seq ?_
                      refine AWc.rg hmix rfl rfl ?_
                      refine RegV.p0 rfl rfl rfl ?_
                      refine RegV.nil0 ?_
                      cases h161
                      dsimp only at h
                      have hr := Option.some.inj h
                      subst hr
                      exact AWc.ret (canQ (N := 169) (k := 0) (l' := [(8, (.d (.bool false)))]) (H' := []) rfl ⟨rfl, [], [], rfl, rfl, ⟨⟨_, rfl, (.refl _)⟩, rfl, trivial⟩,  trivial⟩ (doneA (.inr rfl) rfl ⟨trivial, trivial⟩ (.refl _) hasNil))
                    · have h161 := cond_neg c189 h161
                      refine RegV.p0 rfl rfl rfl ?_
                      refine RegV.p0 rfl rfl rfl ?_
                      obtain ⟨b192, h161⟩ := gd_some h161
                      refine RegV.iad (xs := r124.1) (e := TRec.enc) rfl rfl rfl rfl (fun _ => rfl) b192 rfl ?_
                      refine RegV.p0 (v := (.cp (TRec.enc (rd r124.1 y161_1)) 1)) rfl rfl rfl ?_
                      refine RegV.p0 (v := (.d (.sl (List.map byteD (rd r124.1 y161_1).fData)))) rfl rfl rfl ?_
                      refine RegV.p0 rfl rfl rfl ?_
                      refine RegV.p0 rfl rfl rfl ?_
                      obtain ⟨b197, h161⟩ := gd_some h161
                      refine RegV.iad (xs := a0) (e := (slE byteD)) rfl rfl rfl rfl (fun _ => rfl) b197 rfl ?_
                      refine RegV.p0 (v := (.d (.sl (List.map byteD (rd a0 y161_1))))) rfl rfl rfl ?_
                      obtain ⟨r199, e199, h161⟩ := bind_some h161
                      refine RegV.call0 (F22 hmix hc.2.2.2.2.2 e199) rfl rfl rfl rfl (.cons (.refl _) (.cons (.refl _) .nil)) rfl ?_
                      refine RegV.p0 (v := (.d (.bool (!(decide (((rd r124.1 y161_1).fData) = (rd a0 y161_1))))))) rfl rfl rfl ?_
                      refine RegV.p0 rfl rfl rfl ?_
                      refine RegV.nil1 (by kernel_rfl) ?_
                      refine AWc.cond rfl (fun c202 => ?_) (fun c202 => ?_)
                      · have h161 := cond_pos c202 h161
                        refine AWc.seq ?_
                        refine AWc.rg hmix rfl rfl ?_
                        refine RegV.p0 rfl rfl rfl ?_
                        refine RegV.nil0 ?_
                        cases h161
                        dsimp only at h
                        have hr := Option.some.inj h
                        subst hr
                        exact AWc.ret (canQ (N := 169) (k := 0) (l' := [(8, (.d (.bool false)))]) (H' := []) rfl ⟨rfl, [], [], rfl, rfl, ⟨⟨_, rfl, (.refl _)⟩, rfl, trivial⟩,  trivial⟩ (doneA (.inr rfl) rfl ⟨trivial, trivial⟩ (.refl _) hasNil))
                      · have h161 := cond_neg c202 h161
                        refine AWc.skip ?_
                        refine AWc.rg hmix rfl rfl ?_
                        refine RegV.p0 rfl rfl rfl ?_
                        refine RegV.p0 (v := (.d (.int .i64 (IntKind.i64.wrap (y161_1 + (1 : Int)))))) rfl rfl rfl ?_
                        refine RegV.p0 rfl rfl rfl ?_
                        refine RegV.nil0 ?_
                        exact ⟨(IntKind.i64.wrap (y161_1 + (1 : Int))), h161, ⟨rfl, [], [], rfl, rfl, ⟨⟨_, rfl, (.refl _)⟩, rfl, ⟨⟨_, rfl, (.refl _)⟩, rfl, ⟨⟨_, rfl, (.refl _)⟩, rfl, ⟨⟨_, rfl, (.refl _)⟩, rfl, ⟨⟨_, rfl, (.refl _)⟩, rfl, ⟨⟨_, rfl, (.refl _)⟩, rfl, ⟨⟨_, rfl, (.refl _)⟩, rfl, trivial⟩⟩⟩⟩⟩⟩⟩, ⟨⟨_, rfl, (.refl _)⟩, rfl, rfl, ⟨⟨_, rfl, (.refl _)⟩, rfl, rfl, ⟨⟨_, rfl, (.refl _)⟩, rfl, rfl, trivial⟩⟩⟩⟩⟩
                  · have h161 := cond_neg c171 h161
                    cases h161
                    dsimp only at h
                    refine AWc.exit ?_
                    refine inBlk_eq ?_
                    exact ⟨(), h, ⟨rfl, [], [], rfl, rfl, ⟨⟨_, rfl, (.refl _)⟩, rfl, ⟨⟨_, rfl, (.refl _)⟩, rfl, ⟨⟨_, rfl, (.refl _)⟩, rfl, ⟨⟨_, rfl, (.refl _)⟩, rfl, trivial⟩⟩⟩⟩, ⟨⟨_, rfl, (.refl _)⟩, rfl, rfl, ⟨⟨_, rfl, (.refl _)⟩, rfl, rfl, trivial⟩⟩⟩⟩
                · rintro ⟨⟩ h
                  unfold f244_j214 at h
                  refine AWc.seq ?_
                  refine AWc.rg hmix rfl rfl ?_
                  refine RegV.p0 rfl rfl rfl ?_
                  refine RegV.p0 (v := (.d (.int .u64 (IntKind.u64.wrap a3)))) rfl rfl rfl ?_
                  refine RegV.p0 rfl rfl rfl ?_
                  refine RegV.len (xs := j116_1) (e := byteD) rfl rfl rfl rfl ?_
                  refine RegV.p0 (v := (.d (.int .i64 (IntKind.i64.wrap (((j116_1.length : Nat) : Int) + (1 : Int)))))) rfl rfl rfl ?_
                  refine RegV.p0 (v := (.d (.int .u64 (IntKind.u64.wrap (IntKind.i64.wrap (((j116_1.length : Nat) : Int) + (1 : Int))))))) rfl rfl rfl ?_
                  obtain ⟨b223, h⟩ := gd_some h
                  refine RegV.p1 (v := (.d (.int .u64 (Int.tmod (IntKind.u64.wrap a3) (IntKind.u64.wrap (IntKind.i64.wrap (((j116_1.length : Nat) : Int) + (1 : Int)))))))) rfl rfl b223 rfl rfl ?_
                  refine RegV.p0 (v := (.d (.int .i64 (IntKind.i64.wrap (Int.tmod (IntKind.u64.wrap a3) (IntKind.u64.wrap (IntKind.i64.wrap (((j116_1.length : Nat) : Int) + (1 : Int))))))))) rfl rfl rfl ?_
                  refine RegV.p0 rfl rfl rfl ?_
                  refine RegV.nil0 ?_
                  refine AWc.seq ?_
                  refine AWc.rg hmix rfl rfl ?_
                  refine RegV.p0 rfl rfl rfl ?_
                  refine RegV.p0 rfl rfl rfl ?_
                  refine RegV.nil0 ?_
                  refine AWc.seqS (N := 169) 1 (fun (z : (Int × Int)) => [(1, (.d (.int .u64 a1))), (9, (.ap 0 1 (List.map byteD j116_1))), (17, (.d (.int .i64 (IntKind.i64.wrap (Int.tmod (IntKind.u64.wrap a3) (IntKind.u64.wrap (IntKind.i64.wrap (((j116_1.length : Nat) : Int) + (1 : Int))))))))), (18, (.d (.int .i64 z.1))), (19, (.d (.int .i64 z.2)))]) (fun z => [(0, (.tok ((List.map byteD j116_1).length * 1)))]) (fun z => f244_j277 k a3 j116_1 a1 z.1 z.2 = some r) rfl_le ?_ ?_
                  · refine AWc.seq ?_
                    refine AWc.rg hmix rfl rfl ?_
                    refine RegV.p0 rfl rfl rfl ?_
                    refine RegV.nil0 ?_
                    obtain ⟨o236, h236, h⟩ := bind_some h
                    refine AWc.block ?_
                    refine AWc.loopK (N := 169) 2 (fun (x : (Int × Int × Int)) => [(1, (.d (.int .u64 a1))), (9, (.ap 0 1 (List.map byteD j116_1))), (10, (.ap 1 1 (List.map (D.int .i64) j116_2))), (17, (.d (.int .i64 (IntKind.i64.wrap (Int.tmod (IntKind.u64.wrap a3) (IntKind.u64.wrap (IntKind.i64.wrap (((j116_1.length : Nat) : Int) + (1 : Int))))))))), (18, (.d (.int .i64 x.1))), (19, (.d (.int .i64 x.2.1))), (20, (.d (.int .i64 x.2.2)))]) (fun x => [(0, (.tok ((List.map byteD j116_1).length * 1))), (1, (.tok ((List.map (D.int .i64) j116_2).length * 1)))]) (fun k x => f244_l236 j116_2 a3 j116_1 k x.1 x.2.1 x.2.2 = some o236) k ((0 : Int), (0 : Int), (0 : Int)) rfl_le (fun x hx => by cases hx) h236 ⟨rfl, [], [], rfl, rfl, ⟨⟨_, rfl, (.refl _)⟩, rfl, ⟨⟨_, rfl, (.refl _)⟩, rfl, ⟨⟨_, rfl, (.refl _)⟩, rfl, ⟨⟨_, rfl, (.refl _)⟩, rfl, ⟨⟨_, rfl, (.refl _)⟩, rfl, ⟨⟨_, rfl, (.refl _)⟩, rfl, ⟨⟨_, rfl, (.refl _)⟩, rfl, trivial⟩⟩⟩⟩⟩⟩⟩, ⟨⟨_, rfl, (.refl _)⟩, rfl, rfl, ⟨⟨_, rfl, (.refl _)⟩, rfl, rfl, trivial⟩⟩⟩ ?_
                    clear h236
                    intro k
                    rintro ⟨y236_1, y236_2, y236_3⟩ h236
                    dsimp only at h236 ⊢
                    rw [f244_l236] at h236
                    refine AWc.seq ?_
                    refine AWc.seq ?_
                    refine AWc.rg hmix rfl rfl ?_
                    refine RegV.p0 rfl rfl rfl ?_
                    refine RegV.p0 rfl rfl rfl ?_
                    refine RegV.len (xs := j116_2) (e := (D.int .i64)) rfl rfl rfl rfl ?_
                    refine RegV.p0 (v := (.d (.bool (decide (y236_3 < ((j116_2.length : Nat) : Int)))))) rfl rfl rfl ?_
                    refine RegV.nil0 ?_
                    refine AWc.cond rfl (fun c246 => ?_) (fun c246 => ?_)
                    · have h236 := cond_pos c246 h236
                      refine AWc.skip ?_
                      refine AWc.seq ?_
                      refine AWc.block ?_
                      refine AWc.seq ?_
                      refine AWc.rg hmix rfl rfl ?_
                      refine RegV.p0 rfl rfl rfl ?_
                      refine RegV.p0 rfl rfl rfl ?_
                      obtain ⟨b256, h236⟩ := gd_some h236
                      refine RegV.iad (xs := j116_2) (e := (D.int .i64)) rfl rfl rfl rfl (fun _ => rfl) b256 rfl ?_
                      refine RegV.p0 (v := (.d (.int .i64 (rd j116_2 y236_3)))) rfl rfl rfl ?_
                      refine RegV.p0 rfl rfl rfl ?_
                      refine RegV.p0 (v := (.d (.bool (decide ((rd j116_2 y236_3) ≤ (IntKind.i64.wrap (Int.tmod (IntKind.u64.wrap a3) (IntKind.u64.wrap (IntKind.i64.wrap (((j116_1.length : Nat) : Int) + (1 : Int))))))))))) rfl rfl rfl ?_
                      refine RegV.nil0 ?_
                      refine AWc.cond rfl (fun c260 => ?_) (fun c260 => ?_)
                      · have h236 := cond_pos c260 h236
                        refine AWc.rg hmix rfl rfl ?_
                        refine RegV.p0 rfl rfl rfl ?_
                        refine RegV.p0 (v := (.d (.int .i64 (IntKind.i64.wrap (y236_3 + (1 : Int)))))) rfl rfl rfl ?_
                        refine RegV.p0 rfl rfl rfl ?_
                        refine RegV.p0 rfl rfl rfl ?_
                        obtain ⟨b267, h236⟩ := gd_some h236
                        refine RegV.iad (xs := j116_2) (e := (D.int .i64)) rfl rfl rfl rfl (fun _ => rfl) b267 rfl ?_
                        refine RegV.p0 (v := (.d (.int .i64 (rd j116_2 y236_3)))) rfl rfl rfl ?_
                        refine RegV.p0 rfl rfl rfl ?_
                        refine RegV.p0 rfl rfl rfl ?_
                        refine RegV.nil1 (by kernel_rfl) ?_
                        refine AWc.rg hmix rfl rfl ?_
                        refine RegV.p0 rfl rfl rfl ?_
                        refine RegV.p0 (v := (.d (.int .i64 (IntKind.i64.wrap (y236_3 + (1 : Int)))))) rfl rfl rfl ?_
                        refine RegV.p0 rfl rfl rfl ?_
                        refine RegV.nil0 ?_
                        exact ⟨((IntKind.i64.wrap (y236_3 + (1 : Int))), (rd j116_2 y236_3), (IntKind.i64.wrap (y236_3 + (1 : Int)))), h236, ⟨rfl, [], [], rfl, rfl, ⟨⟨_, rfl, (.refl _)⟩, rfl, ⟨⟨_, rfl, (.refl _)⟩, rfl, ⟨⟨_, rfl, (.refl _)⟩, rfl, ⟨⟨_, rfl, (.refl _)⟩, rfl, ⟨⟨_, rfl, (.refl _)⟩, rfl, ⟨⟨_, rfl, (.refl _)⟩, rfl, ⟨⟨_, rfl, (.refl _)⟩, rfl, trivial⟩⟩⟩⟩⟩⟩⟩, ⟨⟨_, rfl, (.refl _)⟩, rfl, rfl, ⟨⟨_, rfl, (.refl _)⟩, rfl, rfl, trivial⟩⟩⟩⟩
                      · have h236 := cond_neg c260 h236
                        refine AWc.skip ?_
                        refine AWc.rg hmix rfl rfl ?_
                        refine RegV.p0 rfl rfl rfl ?_
                        refine RegV.p0 (v := (.d (.int .i64 (IntKind.i64.wrap (y236_3 + (1 : Int)))))) rfl rfl rfl ?_
                        refine RegV.p0 rfl rfl rfl ?_
                        refine RegV.nil0 ?_
                        exact ⟨(y236_1, y236_2, (IntKind.i64.wrap (y236_3 + (1 : Int)))), h236, ⟨rfl, [], [], rfl, rfl, ⟨⟨_, rfl, (.refl _)⟩, rfl, ⟨⟨_, rfl, (.refl _)⟩, rfl, ⟨⟨_, rfl, (.refl _)⟩, rfl, ⟨⟨_, rfl, (.refl _)⟩, rfl, ⟨⟨_, rfl, (.refl _)⟩, rfl, ⟨⟨_, rfl, (.refl _)⟩, rfl, ⟨⟨_, rfl, (.refl _)⟩, rfl, trivial⟩⟩⟩⟩⟩⟩⟩, ⟨⟨_, rfl, (.refl _)⟩, rfl, rfl, ⟨⟨_, rfl, (.refl _)⟩, rfl, rfl, trivial⟩⟩⟩⟩
                    · have h236 := cond_neg c246 h236
                      cases h236
                      dsimp only at h
                      refine AWc.exit ?_
                      refine inBlk_eq ?_
                      exact ⟨(y236_1, y236_2), h, ⟨rfl, [], [], rfl, rfl, ⟨⟨_, rfl, (.refl _)⟩, rfl, ⟨⟨_, rfl, (.refl _)⟩, rfl, ⟨⟨_, rfl, (.refl _)⟩, rfl, ⟨⟨_, rfl, (.refl _)⟩, rfl, ⟨⟨_, rfl, (.refl _)⟩, rfl, trivial⟩⟩⟩⟩⟩, ⟨⟨_, rfl, (.refl _)⟩, rfl, rfl, trivial⟩⟩⟩
                  · rintro ⟨j277_1, j277_2⟩ h
                    dsimp only at h ⊢
                    unfold f244_j277 at h
                    refine AWc.seq ?_
                    refine AWc.rg hmix rfl rfl ?_
                    refine RegV.p0 rfl rfl rfl ?_
                    refine RegV.p0 rfl rfl rfl ?_
                    obtain ⟨b282, h⟩ := gd_some h
                    refine RegV.slc (xs := j116_1) (e := byteD) (lo := (0 : Int)) (hi := (IntKind.i64.wrap (Int.tmod (IntKind.u64.wrap a3) (IntKind.u64.wrap (IntKind.i64.wrap (((j116_1.length : Nat) : Int) + (1 : Int))))))) rfl rfl rfl b282 (fun _ => rfl) rfl ?_
                    refine RegV.p0 rfl rfl rfl ?_
                    obtain ⟨r284, e284, h⟩ := bind_some h
                    refine RegV.callS (q := false) (H' := [(1, (.tok ((List.map TRec.enc r284.1).length * 2))), (0, (.tok ((List.map byteD j116_1).length * 1)))]) (c' := 2) (show ACalls P (N 272) [(.d (.sl (List.map byteD (sl j116_1 (0 : Int) (IntKind.i64.wrap (Int.tmod (IntKind.u64.wrap a3) (IntKind.u64.wrap (IntKind.i64.wrap (((j116_1.length : Nat) : Int) + (1 : Int)))))))))), (.d (.int .u64 a1))] [] (.tup [(.ap 1 2 (List.map TRec.enc r284.1)), (.d (.int .i64 r284.2))]) [(1, (.tok ((List.map TRec.enc r284.1).length * 2)))] from ACalls.use (F272 hmix hc.2.2.2.2.1 e284) [(0, 1)] 1 rfl) rfl rfl rfl rfl (.cons (.refl _) (.cons (.refl _) .nil)) (.refl _) (fun h => by cases h) rfl hasNil rfl rfl rfl rfl ?_
                    refine RegV.p0 rfl rfl rfl ?_
                    refine RegV.p0 rfl rfl rfl ?_
                    refine RegV.p0 rfl rfl rfl ?_
                    refine RegV.p0 rfl rfl rfl ?_
                    refine RegV.p0 rfl rfl rfl ?_
                    refine RegV.nil0 ?_
                    refine AWc.seq ?_
                    refine AWc.rg hmix rfl rfl ?_
                    refine RegV.p0 rfl rfl rfl ?_
                    refine RegV.len (xs := r284.1) (e := TRec.enc) rfl rfl rfl rfl ?_
                    refine RegV.p0 rfl rfl rfl ?_
                    refine RegV.p0 (v := (.d (.bool (decide (((r284.1.length : Nat) : Int) = j277_1))))) rfl rfl rfl ?_
                    refine RegV.p0 rfl rfl rfl ?_
                    refine RegV.split (fun c297 => ?_) (fun c297 => ?_)
                    · have h := cond_pos c297 h
                      refine RegV.p0 rfl rfl rfl ?_
                      refine RegV.p0 rfl rfl rfl ?_
                      refine RegV.p0 (v := (.d (.bool (decide (r284.2 = j277_2))))) rfl rfl rfl ?_
                      refine RegV.p0 rfl rfl rfl ?_
                      refine RegV.p0 rfl rfl rfl ?_
                      refine RegV.nil0 ?_
                      have hr := Option.some.inj h
                      subst hr
                      exact AWc.ret (canQ (N := 169) (k := 0) (l' := [(8, (.d (.bool (decide (r284.2 = j277_2)))))]) (H' := []) rfl ⟨rfl, [], [], rfl, rfl, ⟨⟨_, rfl, (.refl _)⟩, rfl, trivial⟩,  trivial⟩ (doneA (.inr rfl) rfl ⟨trivial, trivial⟩ (.refl _) hasNil))
                    · have h := cond_neg c297 h
                      refine RegV.noS rfl rfl ?_
                      refine RegV.noS rfl rfl ?_
                      refine RegV.noS rfl rfl ?_
                      refine RegV.p0 rfl rfl rfl ?_
                      refine RegV.p0 rfl rfl rfl ?_
                      refine RegV.nil0 ?_
                      have hr := Option.some.inj h
                      subst hr
                      exact AWc.ret (canQ (N := 169) (k := 0) (l' := [(8, (.d (.bool false)))]) (H' := []) rfl ⟨rfl, [], [], rfl, rfl, ⟨⟨_, rfl, (.refl _)⟩, rfl, trivial⟩,  trivial⟩ (doneA (.inr rfl) rfl ⟨trivial, trivial⟩ (.refl _) hasNil))
end Go.Proofs.Abs
