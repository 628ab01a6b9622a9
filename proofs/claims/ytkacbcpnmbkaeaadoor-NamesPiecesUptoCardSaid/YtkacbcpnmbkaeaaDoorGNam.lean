/- Written by gen.py: functions of the program as Lean functions, and that the code comes to them. -/
import Derived.Test.YtkacbcpnmbkaeaaDoorAbsxf
set_option linter.unusedVariables false
set_option linter.unusedSimpArgs false
set_option maxRecDepth 100000
set_option maxHeartbeats 4000000
namespace Go.Proofs.Abs
open Go

/-- internal/stringslite.HasPrefix -/
def C319 (N : Nat → Nat) : AFunc := { n := 18, params := 2, res := [.tmp 4], body :=
 (.seq (.region false [⟨(some 4), .mv (.k (.d (.bool false))), none, []⟩])
  (.seq (.region false [⟨(some 5), .mv (.t 0), none, []⟩,
    ⟨(some 6), .slen (.t 5), none, [0]⟩,
    ⟨(some 7), .mv (.t 1), none, []⟩,
    ⟨(some 8), .slen (.t 7), none, [2]⟩,
    ⟨(some 9), .bin .geq (.t 6) (.t 8), none, [1, 3]⟩,
    ⟨(some 10), .mv (.t 9), none, [4]⟩,
    ⟨(some 11), .mv (.t 0), (some (10, true)), [5]⟩,
    ⟨(some 12), .mv (.t 1), (some (10, true)), [5]⟩,
    ⟨(some 13), .slen (.t 12), (some (10, true)), [7, 5]⟩,
    ⟨(some 14), .ssl (.t 11) none (some (.t 13)), (some (10, true)), [6, 8, 5]⟩,
    ⟨(some 15), .mv (.t 1), (some (10, true)), [5]⟩,
    ⟨(some 16), .bin .eql (.t 14) (.t 15), (some (10, true)), [9, 10, 5]⟩,
    ⟨(some 17), .pick (.t 10) (.t 16) (.k (.d (.bool false))), none, [5, 11]⟩,
    ⟨(some 4), .mv (.t 17), none, [12, 5, 0, 1, 2, 3, 4, 6, 7, 8, 9, 10, 11]⟩])
   .ret)) }
def HC319 (P : Program) (N : Nat → Nat) : Prop := HasF P (N 319) (C319 N)
def f319 (k : Nat) (a0 : (List UInt8)) (a1 : (List UInt8)) : Option Bool := cond (decide (((a0.length : Nat) : Int) ≥ ((a1.length : Nat) : Int))) (gd (0 ≤ (0 : Int) ∧ (0 : Int) ≤ ((a1.length : Nat) : Int) ∧ ((a1.length : Nat) : Int) ≤ ((a0.length : Nat) : Int)) (some (decide ((sl a0 (0 : Int) ((a1.length : Nat) : Int)) = a1)))) (some false)
theorem F319 {P : Program} {N : Nat → Nat} (hmix : P.follows .mixedOrders = true) (hc : HC319 P N) {k : Nat} {a0 : (List UInt8)} {a1 : (List UInt8)} {r : Bool} (h : f319 k a0 a1 = some r) :
    ACalls P (N 319) [(.d (.str a0)), (.d (.str a1))] [] (.d (.bool r)) [] := by
  refine acalls_canon (F := C319 N) hc 0 0 rfl ?_
  unfold f319 at h
  dsimp only [C319, startL]
  refine AWc.seq ?_
  refine AWc.rg hmix rfl rfl ?_
  refine RegV.p0 rfl rfl rfl ?_
  refine RegV.nil0 ?_
  refine AWc.seq ?_
  refine AWc.rg hmix rfl rfl ?_
  refine RegV.p0 rfl rfl rfl ?_
  refine RegV.p0 (v := (.d (.int .i64 ((a0.length : Nat) : Int)))) rfl rfl rfl ?_
  refine RegV.p0 rfl rfl rfl ?_
  refine RegV.p0 (v := (.d (.int .i64 ((a1.length : Nat) : Int)))) rfl rfl rfl ?_
  refine RegV.p0 (v := (.d (.bool (decide (((a0.length : Nat) : Int) ≥ ((a1.length : Nat) : Int)))))) rfl rfl rfl ?_
  refine RegV.p0 rfl rfl rfl ?_
  refine RegV.split (fun c13 => ?_) (fun c13 => ?_)
  · have h := cond_pos c13 h
    refine RegV.p0 rfl rfl rfl ?_
    refine RegV.p0 rfl rfl rfl ?_
    refine RegV.p0 (v := (.d (.int .i64 ((a1.length : Nat) : Int)))) rfl rfl rfl ?_
    obtain ⟨b17, h⟩ := gd_some h
    refine RegV.p1 (v := (.d (.str (sl a0 (0 : Int) ((a1.length : Nat) : Int))))) rfl rfl b17 rfl rfl ?_
    refine RegV.p0 rfl rfl rfl ?_
    refine RegV.p0 (v := (.d (.bool (decide ((sl a0 (0 : Int) ((a1.length : Nat) : Int)) = a1))))) rfl rfl rfl ?_
    refine RegV.p0 rfl rfl rfl ?_
    refine RegV.p0 rfl rfl rfl ?_
    refine RegV.nil0 ?_
    have hr := Option.some.inj h
    subst hr
    exact AWc.ret (canQ (N := 18) (k := 0) (l' := [(4, (.d (.bool (decide ((sl a0 (0 : Int) ((a1.length : Nat) : Int)) = a1)))))]) (H' := []) rfl ⟨rfl, [], [], rfl, rfl, ⟨⟨_, rfl, (.refl _)⟩, rfl, trivial⟩,  trivial⟩ (doneA (.inr rfl) rfl ⟨trivial, trivial⟩ (.refl _) hasNil))
  · have h := cond_neg c13 h
    refine RegV.noS rfl rfl ?_
    refine RegV.noS rfl rfl ?_
    refine RegV.noS rfl rfl ?_
    refine RegV.noS rfl rfl ?_
    refine RegV.noS rfl rfl ?_
    refine RegV.noS rfl rfl ?_
    refine RegV.p0 rfl rfl rfl ?_
    refine RegV.p0 rfl rfl rfl ?_
    refine RegV.nil0 ?_
    have hr := Option.some.inj h
    subst hr
    exact AWc.ret (canQ (N := 18) (k := 0) (l' := [(4, (.d (.bool false)))]) (H' := []) rfl ⟨rfl, [], [], rfl, rfl, ⟨⟨_, rfl, (.refl _)⟩, rfl, trivial⟩,  trivial⟩ (doneA (.inr rfl) rfl ⟨trivial, trivial⟩ (.refl _) hasNil))
/-- strings.HasPrefix -/
def C318 (N : Nat → Nat) : AFunc := { n := 8, params := 2, res := [.tmp 4], body :=
 (.seq (.region false [⟨(some 4), .mv (.k (.d (.bool false))), none, []⟩])
  (.seq (.region false [⟨(some 5), .mv (.t 0), none, []⟩,
    ⟨(some 6), .mv (.t 1), none, []⟩,
    ⟨(some 7), .call (.k (.d (.fn (N 319)))) [(.t 5), (.t 6)], none, [0, 1]⟩,
    ⟨(some 4), .mv (.t 7), none, [2, 0, 1]⟩])
   .ret)) }
def HC318 (P : Program) (N : Nat → Nat) : Prop := HasF P (N 318) (C318 N) ∧ HC319 P N
def f318 (k : Nat) (a0 : (List UInt8)) (a1 : (List UInt8)) : Option Bool := (f319 k a0 a1).bind fun r10 => some r10
theorem F318 {P : Program} {N : Nat → Nat} (hmix : P.follows .mixedOrders = true) (hc : HC318 P N) {k : Nat} {a0 : (List UInt8)} {a1 : (List UInt8)} {r : Bool} (h : f318 k a0 a1 = some r) :
    ACalls P (N 318) [(.d (.str a0)), (.d (.str a1))] [] (.d (.bool r)) [] := by
  refine acalls_canon (F := C318 N) hc.1 0 0 rfl ?_
  unfold f318 at h
  dsimp only [C318, startL]
  refine AWc.seq ?_
  refine AWc.rg hmix rfl rfl ?_
  refine RegV.p0 rfl rfl rfl ?_
  refine RegV.nil0 ?_
  refine AWc.seq ?_
  refine AWc.rg hmix rfl rfl ?_
  refine RegV.p0 rfl rfl rfl ?_
  refine RegV.p0 rfl rfl rfl ?_
  obtain ⟨r10, e10, h⟩ := bind_some h
  refine RegV.call0 (F319 hmix hc.2 e10) rfl rfl rfl rfl (.cons (.refl _) (.cons (.refl _) .nil)) rfl ?_
  refine RegV.p0 rfl rfl rfl ?_
  refine RegV.nil0 ?_
  have hr := Option.some.inj h
  subst hr
  exact AWc.ret (canQ (N := 8) (k := 0) (l' := [(4, (.d (.bool r10)))]) (H' := []) rfl ⟨rfl, [], [], rfl, rfl, ⟨⟨_, rfl, (.refl _)⟩, rfl, trivial⟩,  trivial⟩ (doneA (.inr rfl) rfl ⟨trivial, trivial⟩ (.refl _) hasNil))
/-- courant/names.Simple -/
def C320 (N : Nat → Nat) : AFunc := { n := 47, params := 1, res := [.tmp 2], body :=
 (.seq (.region false [⟨(some 2), .mv (.k (.d (.bool false))), none, []⟩])
  (.seq (.seq (.region false [⟨(some 5), .mv (.t 0), none, []⟩,
     ⟨(some 6), .slen (.t 5), none, [0]⟩,
     ⟨(some 7), .mv (.k (.d (.int .i64 0))), none, []⟩])
    (.block 0 (.loop (.seq (.region false [⟨(some 8), .bin .lss (.t 7) (.t 6), none, []⟩])
       (.seq (.cond (.t 8) (.skip)
         (.exit 0))
        (.seq (.block 1 (.seq (.region false [⟨(some 9), .mv (.t 7), none, []⟩,
            ⟨(some 3), .mv (.t 9), none, [0]⟩])
           (.seq (.region false [⟨(some 10), .mv (.t 0), none, []⟩,
             ⟨(some 11), .mv (.t 3), none, []⟩,
             ⟨(some 12), .idx (.t 10) (.t 11), none, [0, 1]⟩,
             ⟨(some 4), .mv (.t 12), none, [2, 0, 1]⟩])
            (.block 2 (.seq (.seq (.region false [⟨(some 14), .mv (.t 4), none, []⟩,
                ⟨(some 15), .bin .geq (.t 14) (.k (.d (.int .u8 97))), none, [0]⟩,
                ⟨(some 16), .mv (.t 15), none, [1]⟩,
                ⟨(some 17), .mv (.t 4), (some (16, true)), [2]⟩,
                ⟨(some 18), .bin .leq (.t 17) (.k (.d (.int .u8 122))), (some (16, true)), [3, 2]⟩,
                ⟨(some 19), .pick (.t 16) (.t 18) (.k (.d (.bool false))), none, [2, 4]⟩,
                ⟨(some 13), .mv (.t 19), none, [5, 2]⟩])
               (.cond (.t 13) (.skip)
                (.seq (.region false [⟨(some 20), .mv (.t 4), none, []⟩,
                  ⟨(some 21), .bin .geq (.t 20) (.k (.d (.int .u8 65))), none, [0]⟩,
                  ⟨(some 22), .mv (.t 21), none, [1]⟩,
                  ⟨(some 23), .mv (.t 4), (some (22, true)), [2]⟩,
                  ⟨(some 24), .bin .leq (.t 23) (.k (.d (.int .u8 90))), (some (22, true)), [3, 2]⟩,
                  ⟨(some 25), .pick (.t 22) (.t 24) (.k (.d (.bool false))), none, [2, 4]⟩,
                  ⟨(some 13), .mv (.t 25), none, [5, 2]⟩])
                 (.cond (.t 13) (.skip)
                  (.seq (.region false [⟨(some 26), .mv (.t 4), none, []⟩,
                    ⟨(some 27), .bin .eql (.t 26) (.k (.d (.int .u8 95))), none, [0]⟩,
                    ⟨(some 13), .mv (.t 27), none, [1]⟩])
                   (.cond (.t 13) (.skip)
                    (.region false [⟨(some 28), .mv (.t 3), none, []⟩,
                     ⟨(some 29), .bin .gtr (.t 28) (.k (.d (.int .i64 0))), none, [0]⟩,
                     ⟨(some 30), .mv (.t 29), none, [1]⟩,
                     ⟨(some 31), .mv (.t 4), (some (30, true)), [2]⟩,
                     ⟨(some 32), .bin .geq (.t 31) (.k (.d (.int .u8 48))), (some (30, true)), [3, 2]⟩,
                     ⟨(some 33), .pick (.t 30) (.t 32) (.k (.d (.bool false))), none, [2, 4]⟩,
                     ⟨(some 34), .mv (.t 33), none, [5, 2]⟩,
                     ⟨(some 35), .mv (.t 4), (some (34, true)), [6]⟩,
                     ⟨(some 36), .bin .leq (.t 35) (.k (.d (.int .u8 57))), (some (34, true)), [7, 6]⟩,
                     ⟨(some 37), .pick (.t 34) (.t 36) (.k (.d (.bool false))), none, [6, 8]⟩,
                     ⟨(some 13), .mv (.t 37), none, [9, 6]⟩])))))))
              (.cond (.t 13) (.skip)
               (.seq (.region false [⟨(some 2), .mv (.k (.d (.bool false))), none, []⟩])
                .ret)))))))
         (.region false [⟨(some 38), .bin .add (.t 7) (.k (.d (.int .i64 1))), none, []⟩,
          ⟨(some 7), .mv (.t 38), none, [0]⟩])))))))
   (.seq (.region false [⟨(some 39), .mv (.t 0), none, []⟩,
     ⟨(some 40), .slen (.t 39), none, [0]⟩,
     ⟨(some 41), .bin .gtr (.t 40) (.k (.d (.int .i64 0))), none, [1]⟩,
     ⟨(some 42), .mv (.t 41), none, [2]⟩,
     ⟨(some 43), .mv (.t 0), (some (42, true)), [3]⟩,
     ⟨(some 44), .slen (.t 43), (some (42, true)), [4, 3]⟩,
     ⟨(some 45), .bin .leq (.t 44) (.k (.d (.int .i64 100))), (some (42, true)), [5, 3]⟩,
     ⟨(some 46), .pick (.t 42) (.t 45) (.k (.d (.bool false))), none, [3, 6]⟩,
     ⟨(some 2), .mv (.t 46), none, [7, 3, 0, 1, 2, 4, 5, 6]⟩])
    .ret))) }
def HC320 (P : Program) (N : Nat → Nat) : Prop := HasF P (N 320) (C320 N)
def f320_j94 (k : Nat) (a0 : (List UInt8)) : Option Bool := cond (decide (((a0.length : Nat) : Int) > (0 : Int))) (some (decide (((a0.length : Nat) : Int) ≤ (100 : Int)))) (some false)
def f320_j60 (L : Int → Option (LR2 Unit Unit Bool)) (k : Nat) (y12_1 : Int) (a0 : (List UInt8)) (j60_1 : Bool) : Option (LR2 Unit Unit Bool) := cond j60_1 (cond j60_1 (L (IntKind.i64.wrap (y12_1 + (1 : Int)))) (some (.r false))) (cond (decide ((((a0.getD (y12_1).toNat 0).toNat : Nat) : Int) = (95 : Int))) (cond (decide ((((a0.getD (y12_1).toNat 0).toNat : Nat) : Int) = (95 : Int))) (L (IntKind.i64.wrap (y12_1 + (1 : Int)))) (some (.r false))) (cond (decide (y12_1 > (0 : Int))) (cond (decide ((((a0.getD (y12_1).toNat 0).toNat : Nat) : Int) ≥ (48 : Int))) (cond (decide ((((a0.getD (y12_1).toNat 0).toNat : Nat) : Int) ≤ (57 : Int))) (L (IntKind.i64.wrap (y12_1 + (1 : Int)))) (some (.r false))) (some (.r false))) (some (.r false))))
def f320_j48 (L : Int → Option (LR2 Unit Unit Bool)) (k : Nat) (y12_1 : Int) (a0 : (List UInt8)) (j48_1 : Bool) : Option (LR2 Unit Unit Bool) := cond j48_1 (cond j48_1 (L (IntKind.i64.wrap (y12_1 + (1 : Int)))) (some (.r false))) (cond (decide ((((a0.getD (y12_1).toNat 0).toNat : Nat) : Int) ≥ (65 : Int))) (f320_j60 (L) k y12_1 a0 (decide ((((a0.getD (y12_1).toNat 0).toNat : Nat) : Int) ≤ (90 : Int)))) (f320_j60 (L) k y12_1 a0 false))
def f320_l12 (a0 : (List UInt8)) : Nat → Int → Option (LR2 Unit Unit Bool)
  | 0, _ => none
  | k + 1, y12_1 => cond (decide (y12_1 < ((a0.length : Nat) : Int))) (gd (0 ≤ y12_1 ∧ y12_1 < ((a0.length : Nat) : Int)) (cond (decide ((((a0.getD (y12_1).toNat 0).toNat : Nat) : Int) ≥ (97 : Int))) (f320_j48 (f320_l12 a0 k) k y12_1 a0 (decide ((((a0.getD (y12_1).toNat 0).toNat : Nat) : Int) ≤ (122 : Int)))) (f320_j48 (f320_l12 a0 k) k y12_1 a0 false))) (some (.b0 ()))
def f320 (k : Nat) (a0 : (List UInt8)) : Option Bool := (f320_l12 a0 k (0 : Int)).bind fun o12 => (match o12 with | .b0 () => f320_j94 k a0 | .r x => some x | _ => none)
theorem F320 {P : Program} {N : Nat → Nat} (hmix : P.follows .mixedOrders = true) (hc : HC320 P N) {k : Nat} {a0 : (List UInt8)} {r : Bool} (h : f320 k a0 = some r) :
    ACalls P (N 320) [(.d (.str a0))] [] (.d (.bool r)) [] := by
  refine acalls_canon (F := C320 N) hc 0 0 rfl ?_
  unfold f320 at h
  dsimp only [C320, startL]
  refine AWc.seq ?_
  refine AWc.rg hmix rfl rfl ?_
  refine RegV.p0 rfl rfl rfl ?_
  refine RegV.nil0 ?_
  refine AWc.seqS (N := 47) 0 (fun (z : Unit) => [(0, (.d (.str a0)))]) (fun z => []) (fun z => f320_j94 k a0 = some r) rfl_le ?_ ?_
  · refine AWc.seq ?_
    refine AWc.rg hmix rfl rfl ?_
    refine RegV.p0 rfl rfl rfl ?_
    refine RegV.p0 (v := (.d (.int .i64 ((a0.length : Nat) : Int)))) rfl rfl rfl ?_
    refine RegV.p0 rfl rfl rfl ?_
    refine RegV.nil0 ?_
    obtain ⟨o12, h12, h⟩ := bind_some h
    refine AWc.block ?_
    refine AWc.loopK (N := 47) 0 (fun (x : Int) => [(0, (.d (.str a0))), (6, (.d (.int .i64 ((a0.length : Nat) : Int)))), (7, (.d (.int .i64 x)))]) (fun x => []) (fun k x => f320_l12 a0 k x = some o12) k (0 : Int) rfl_le (fun x hx => by cases hx) h12 ⟨rfl, [], [], rfl, rfl, ⟨⟨_, rfl, (.refl _)⟩, rfl, ⟨⟨_, rfl, (.refl _)⟩, rfl, ⟨⟨_, rfl, (.refl _)⟩, rfl, trivial⟩⟩⟩,  trivial⟩ ?_
    clear h12
    intro k
    intro y12_1 h12
    rw [f320_l12] at h12
    refine AWc.seq ?_
    refine AWc.rg hmix rfl rfl ?_
    refine RegV.p0 (v := (.d (.bool (decide (y12_1 < ((a0.length : Nat) : Int)))))) rfl rfl rfl ?_
    refine RegV.nil0 ?_
    refine AWc.seq ?_
    refine AWc.cond rfl (fun c19 => ?_) (fun c19 => ?_)
    · have h12 := cond_pos c19 h12
      refine AWc.skip ?_
      refine AWc.seq ?_
      refine AWc.block ?_
      refine AWc.seq ?_
      refine AWc.rg hmix rfl rfl ?_
      refine RegV.p0 rfl rfl rfl ?_
      refine RegV.p0 rfl rfl rfl ?_
      refine RegV.nil0 ?_
      refine AWc.seq ?_
      refine AWc.rg hmix rfl rfl ?_
      refine RegV.p0 rfl rfl rfl ?_
      refine RegV.p0 rfl rfl rfl ?_
      obtain ⟨b34, h12⟩ := gd_some h12
      refine RegV.p1 (v := (.d (.int .u8 (((a0.getD (y12_1).toNat 0).toNat : Nat) : Int)))) rfl rfl b34 rfl rfl ?_
      refine RegV.p0 rfl rfl rfl ?_
      refine RegV.nil0 ?_
      refine AWc.block ?_
      refine AWc.seq ?_
      refine AWc.seqS (N := 47) 0 (fun (z : Bool) => [(0, (.d (.str a0))), (3, (.d (.int .i64 y12_1))), (4, (.d (.int .u8 (((a0.getD (y12_1).toNat 0).toNat : Nat) : Int)))), (6, (.d (.int .i64 ((a0.length : Nat) : Int)))), (7, (.d (.int .i64 y12_1))), (13, (.d (.bool z))), (17, .any), (18, .any)]) (fun z => []) (fun z => f320_j48 (f320_l12 a0 k) k y12_1 a0 z = some o12) rfl_le ?_ ?_
      · refine AWc.rg hmix rfl rfl ?_
        refine RegV.p0 rfl rfl rfl ?_
        refine RegV.p0 (v := (.d (.bool (decide ((((a0.getD (y12_1).toNat 0).toNat : Nat) : Int) ≥ (97 : Int)))))) rfl rfl rfl ?_
        refine RegV.p0 rfl rfl rfl ?_
        refine RegV.split (fun c43 => ?_) (fun c43 => ?_)
        · have h12 := cond_pos c43 h12
          refine RegV.p0 rfl rfl rfl ?_
          refine RegV.p0 (v := (.d (.bool (decide ((((a0.getD (y12_1).toNat 0).toNat : Nat) : Int) ≤ (122 : Int)))))) rfl rfl rfl ?_
          refine RegV.p0 rfl rfl rfl ?_
          refine RegV.p0 rfl rfl rfl ?_
          refine RegV.nil0 ?_
          exact ⟨(decide ((((a0.getD (y12_1).toNat 0).toNat : Nat) : Int) ≤ (122 : Int))), h12, ⟨rfl, [], [], rfl, rfl, ⟨⟨_, rfl, (.refl _)⟩, rfl, ⟨⟨_, rfl, (.refl _)⟩, rfl, ⟨⟨_, rfl, (.refl _)⟩, rfl, ⟨⟨_, rfl, (.refl _)⟩, rfl, ⟨⟨_, rfl, (.refl _)⟩, rfl, ⟨⟨_, rfl, (.refl _)⟩, rfl, ⟨⟨_, rfl, (.any _)⟩, rfl, ⟨⟨_, rfl, (.any _)⟩, rfl, trivial⟩⟩⟩⟩⟩⟩⟩⟩,  trivial⟩⟩
        · have h12 := cond_neg c43 h12
          refine RegV.noS rfl rfl ?_
          refine RegV.noS rfl rfl ?_
          refine RegV.p0 rfl rfl rfl ?_
          refine RegV.p0 rfl rfl rfl ?_
          refine RegV.nil0 ?_
          exact ⟨false, h12, ⟨rfl, [], [], rfl, rfl, ⟨⟨_, rfl, (.refl _)⟩, rfl, ⟨⟨_, rfl, (.refl _)⟩, rfl, ⟨⟨_, rfl, (.refl _)⟩, rfl, ⟨⟨_, rfl, (.refl _)⟩, rfl, ⟨⟨_, rfl, (.refl _)⟩, rfl, ⟨⟨_, rfl, (.refl _)⟩, rfl, ⟨⟨_, rfl, (.any _)⟩, rfl, ⟨⟨_, rfl, (.any _)⟩, rfl, trivial⟩⟩⟩⟩⟩⟩⟩⟩,  trivial⟩⟩
      · intro j48_1 h12
        unfold f320_j48 at h12
        refine AWc.cond rfl (fun c48 => ?_) (fun c48 => ?_)
        · have h12 := cond_pos c48 h12
          refine AWc.skip ?_
          refine AWc.cond rfl (fun c83 => ?_) (fun c83 => ?_)
          · have h12 := cond_pos c83 h12
            refine AWc.skip ?_
            refine AWc.rg hmix rfl rfl ?_
            refine RegV.p0 (v := (.d (.int .i64 (IntKind.i64.wrap (y12_1 + (1 : Int)))))) rfl rfl rfl ?_
            refine RegV.p0 rfl rfl rfl ?_
            refine RegV.nil0 ?_
            exact ⟨(IntKind.i64.wrap (y12_1 + (1 : Int))), h12, ⟨rfl, [], [], rfl, rfl, ⟨⟨_, rfl, (.refl _)⟩, rfl, ⟨⟨_, rfl, (.refl _)⟩, rfl, ⟨⟨_, rfl, (.refl _)⟩, rfl, trivial⟩⟩⟩,  trivial⟩⟩
          · have h12 := cond_neg c83 h12
            refine AWc.seq ?_
            refine AWc.rg hmix rfl rfl ?_
            refine RegV.p0 rfl rfl rfl ?_
            refine RegV.nil0 ?_
            cases h12
            dsimp only at h
            have hr := Option.some.inj h
            subst hr
            exact AWc.ret (canQ (N := 47) (k := 0) (l' := [(2, (.d (.bool false)))]) (H' := []) rfl ⟨rfl, [], [], rfl, rfl, ⟨⟨_, rfl, (.refl _)⟩, rfl, trivial⟩,  trivial⟩ (doneA (.inr rfl) rfl ⟨trivial, trivial⟩ (.refl _) hasNil))
        · have h12 := cond_neg c48 h12
          refine AWc.seqS (N := 47) 0 (fun (z : Bool) => [(0, (.d (.str a0))), (3, (.d (.int .i64 y12_1))), (4, (.d (.int .u8 (((a0.getD (y12_1).toNat 0).toNat : Nat) : Int)))), (6, (.d (.int .i64 ((a0.length : Nat) : Int)))), (7, (.d (.int .i64 y12_1))), (13, (.d (.bool z))), (17, .any), (18, .any), (23, .any), (24, .any)]) (fun z => []) (fun z => f320_j60 (f320_l12 a0 k) k y12_1 a0 z = some o12) rfl_le ?_ ?_
          · refine AWc.rg hmix rfl rfl ?_
            refine RegV.p0 rfl rfl rfl ?_
            refine RegV.p0 (v := (.d (.bool (decide ((((a0.getD (y12_1).toNat 0).toNat : Nat) : Int) ≥ (65 : Int)))))) rfl rfl rfl ?_
            refine RegV.p0 rfl rfl rfl ?_
            refine RegV.split (fun c55 => ?_) (fun c55 => ?_)
            · have h12 := cond_pos c55 h12
              refine RegV.p0 rfl rfl rfl ?_
              refine RegV.p0 (v := (.d (.bool (decide ((((a0.getD (y12_1).toNat 0).toNat : Nat) : Int) ≤ (90 : Int)))))) rfl rfl rfl ?_
              refine RegV.p0 rfl rfl rfl ?_
              refine RegV.p0 rfl rfl rfl ?_
              refine RegV.nil0 ?_
              exact ⟨(decide ((((a0.getD (y12_1).toNat 0).toNat : Nat) : Int) ≤ (90 : Int))), h12, ⟨rfl, [], [], rfl, rfl, ⟨⟨_, rfl, (.refl _)⟩, rfl, ⟨⟨_, rfl, (.refl _)⟩, rfl, ⟨⟨_, rfl, (.refl _)⟩, rfl, ⟨⟨_, rfl, (.refl _)⟩, rfl, ⟨⟨_, rfl, (.refl _)⟩, rfl, ⟨⟨_, rfl, (.refl _)⟩, rfl, ⟨⟨_, rfl, (.refl _)⟩, rfl, ⟨⟨_, rfl, (.refl _)⟩, rfl, ⟨⟨_, rfl, (.any _)⟩, rfl, ⟨⟨_, rfl, (.any _)⟩, rfl, trivial⟩⟩⟩⟩⟩⟩⟩⟩⟩⟩,  trivial⟩⟩
            · have h12 := cond_neg c55 h12
              refine RegV.noS rfl rfl ?_
              refine RegV.noS rfl rfl ?_
              refine RegV.p0 rfl rfl rfl ?_
              refine RegV.p0 rfl rfl rfl ?_
              refine RegV.nil0 ?_
              exact ⟨false, h12, ⟨rfl, [], [], rfl, rfl, ⟨⟨_, rfl, (.refl _)⟩, rfl, ⟨⟨_, rfl, (.refl _)⟩, rfl, ⟨⟨_, rfl, (.refl _)⟩, rfl, ⟨⟨_, rfl, (.refl _)⟩, rfl, ⟨⟨_, rfl, (.refl _)⟩, rfl, ⟨⟨_, rfl, (.refl _)⟩, rfl, ⟨⟨_, rfl, (.refl _)⟩, rfl, ⟨⟨_, rfl, (.refl _)⟩, rfl, ⟨⟨_, rfl, (.any _)⟩, rfl, ⟨⟨_, rfl, (.any _)⟩, rfl, trivial⟩⟩⟩⟩⟩⟩⟩⟩⟩⟩,  trivial⟩⟩
          · intro j60_1 h12
            unfold f320_j60 at h12
            refine AWc.cond rfl (fun c60 => ?_) (fun c60 => ?_)
            · have h12 := cond_pos c60 h12
              refine AWc.skip ?_
              refine AWc.cond rfl (fun c83 => ?_) (fun c83 => ?_)
              · have h12 := cond_pos c83 h12
                refine AWc.skip ?_
                refine AWc.rg hmix rfl rfl ?_
                refine RegV.p0 (v := (.d (.int .i64 (IntKind.i64.wrap (y12_1 + (1 : Int)))))) rfl rfl rfl ?_
                refine RegV.p0 rfl rfl rfl ?_
                refine RegV.nil0 ?_
                exact ⟨(IntKind.i64.wrap (y12_1 + (1 : Int))), h12, ⟨rfl, [], [], rfl, rfl, ⟨⟨_, rfl, (.refl _)⟩, rfl, ⟨⟨_, rfl, (.refl _)⟩, rfl, ⟨⟨_, rfl, (.refl _)⟩, rfl, trivial⟩⟩⟩,  trivial⟩⟩
              · have h12 := cond_neg c83 h12
                refine AWc.seq ?_
                refine AWc.rg hmix rfl rfl ?_
                refine RegV.p0 rfl rfl rfl ?_
                refine RegV.nil0 ?_
                cases h12
                dsimp only at h
                have hr := Option.some.inj h
                subst hr
                exact AWc.ret (canQ (N := 47) (k := 0) (l' := [(2, (.d (.bool false)))]) (H' := []) rfl ⟨rfl, [], [], rfl, rfl, ⟨⟨_, rfl, (.refl _)⟩, rfl, trivial⟩,  trivial⟩ (doneA (.inr rfl) rfl ⟨trivial, trivial⟩ (.refl _) hasNil))
            · have h12 := cond_neg c60 h12
              refine AWc.seq ?_
              refine AWc.rg hmix rfl rfl ?_
              refine RegV.p0 rfl rfl rfl ?_
              refine RegV.p0 (v := (.d (.bool (decide ((((a0.getD (y12_1).toNat 0).toNat : Nat) : Int) = (95 : Int)))))) rfl rfl rfl ?_
              refine RegV.p0 rfl rfl rfl ?_
              refine RegV.nil0 ?_
              refine AWc.cond rfl (fun c68 => ?_) (fun c68 => ?_)
              · have h12 := cond_pos c68 h12
                refine AWc.skip ?_
                refine AWc.cond rfl (fun c83 => ?_) (fun c83 => ?_)
                · have h12 := cond_pos c83 h12
                  refine AWc.skip ?_
                  refine AWc.rg hmix rfl rfl ?_
                  refine RegV.p0 (v := (.d (.int .i64 (IntKind.i64.wrap (y12_1 + (1 : Int)))))) rfl rfl rfl ?_
                  refine RegV.p0 rfl rfl rfl ?_
                  refine RegV.nil0 ?_
                  exact ⟨(IntKind.i64.wrap (y12_1 + (1 : Int))), h12, ⟨rfl, [], [], rfl, rfl, ⟨⟨_, rfl, (.refl _)⟩, rfl, ⟨⟨_, rfl, (.refl _)⟩, rfl, ⟨⟨_, rfl, (.refl _)⟩, rfl, trivial⟩⟩⟩,  trivial⟩⟩
                · have h12 := cond_neg c83 h12
                  refine AWc.seq ?_
                  refine AWc.rg hmix rfl rfl ?_
                  refine RegV.p0 rfl rfl rfl ?_
                  refine RegV.nil0 ?_
                  cases h12
                  dsimp only at h
                  have hr := Option.some.inj h
                  subst hr
                  exact AWc.ret (canQ (N := 47) (k := 0) (l' := [(2, (.d (.bool false)))]) (H' := []) rfl ⟨rfl, [], [], rfl, rfl, ⟨⟨_, rfl, (.refl _)⟩, rfl, trivial⟩,  trivial⟩ (doneA (.inr rfl) rfl ⟨trivial, trivial⟩ (.refl _) hasNil))
              · have h12 := cond_neg c68 h12
                refine AWc.rg hmix rfl rfl ?_
                refine RegV.p0 rfl rfl rfl ?_
                refine RegV.p0 (v := (.d (.bool (decide (y12_1 > (0 : Int)))))) rfl rfl rfl ?_
                refine RegV.p0 rfl rfl rfl ?_
                refine RegV.split (fun c74 => ?_) (fun c74 => ?_)
                · have h12 := cond_pos c74 h12
                  refine RegV.p0 rfl rfl rfl ?_
                  refine RegV.p0 (v := (.d (.bool (decide ((((a0.getD (y12_1).toNat 0).toNat : Nat) : Int) ≥ (48 : Int)))))) rfl rfl rfl ?_
                  refine RegV.p0 rfl rfl rfl ?_
                  refine RegV.p0 rfl rfl rfl ?_
                  refine RegV.split (fun c78 => ?_) (fun c78 => ?_)
                  · have h12 := cond_pos c78 h12
                    refine RegV.p0 rfl rfl rfl ?_
                    refine RegV.p0 (v := (.d (.bool (decide ((((a0.getD (y12_1).toNat 0).toNat : Nat) : Int) ≤ (57 : Int)))))) rfl rfl rfl ?_
                    refine RegV.p0 rfl rfl rfl ?_
                    refine RegV.p0 rfl rfl rfl ?_
                    refine RegV.nil0 ?_
                    refine AWc.cond rfl (fun c83 => ?_) (fun c83 => ?_)
                    · have h12 := cond_pos c83 h12
                      refine AWc.skip ?_
                      refine AWc.rg hmix rfl rfl ?_
                      refine RegV.p0 (v := (.d (.int .i64 (IntKind.i64.wrap (y12_1 + (1 : Int)))))) rfl rfl rfl ?_
                      refine RegV.p0 rfl rfl rfl ?_
                      refine RegV.nil0 ?_
                      exact ⟨(IntKind.i64.wrap (y12_1 + (1 : Int))), h12, ⟨rfl, [], [], rfl, rfl, ⟨⟨_, rfl, (.refl _)⟩, rfl, ⟨⟨_, rfl, (.refl _)⟩, rfl, ⟨⟨_, rfl, (.refl _)⟩, rfl, trivial⟩⟩⟩,  trivial⟩⟩
                    · have h12 := cond_neg c83 h12
                      refine AWc.seq ?_
                      refine AWc.rg hmix rfl rfl ?_
                      refine RegV.p0 rfl rfl rfl ?_
                      refine RegV.nil0 ?_
                      cases h12
                      dsimp only at h
                      have hr := Option.some.inj h
                      subst hr
                      exact AWc.ret (canQ (N := 47) (k := 0) (l' := [(2, (.d (.bool false)))]) (H' := []) rfl ⟨rfl, [], [], rfl, rfl, ⟨⟨_, rfl, (.refl _)⟩, rfl, trivial⟩,  trivial⟩ (doneA (.inr rfl) rfl ⟨trivial, trivial⟩ (.refl _) hasNil))
                  · have h12 := cond_neg c78 h12
                    refine RegV.noS rfl rfl ?_
                    refine RegV.noS rfl rfl ?_
                    refine RegV.p0 rfl rfl rfl ?_
                    refine RegV.p0 rfl rfl rfl ?_
                    refine RegV.nil0 ?_
                    refine AWc.cond rfl (fun hc => by cases hc) (fun _ => ?_)
                    refine AWc.seq ?_
                    refine AWc.rg hmix rfl rfl ?_
                    refine RegV.p0 rfl rfl rfl ?_
                    refine RegV.nil0 ?_
                    cases h12
                    dsimp only at h
                    have hr := Option.some.inj h
                    subst hr
                    exact AWc.ret (canQ (N := 47) (k := 0) (l' := [(2, (.d (.bool false)))]) (H' := []) rfl ⟨rfl, [], [], rfl, rfl, ⟨⟨_, rfl, (.refl _)⟩, rfl, trivial⟩,  trivial⟩ (doneA (.inr rfl) rfl ⟨trivial, trivial⟩ (.refl _) hasNil))
                · have h12 := cond_neg c74 h12
                  refine RegV.noS rfl rfl ?_
                  refine RegV.noS rfl rfl ?_
                  refine RegV.p0 rfl rfl rfl ?_
                  refine RegV.p0 rfl rfl rfl ?_
                  refine RegV.noS rfl rfl ?_
                  refine RegV.noS rfl rfl ?_
                  refine RegV.p0 rfl rfl rfl ?_
                  refine RegV.p0 rfl rfl rfl ?_
                  refine RegV.nil0 ?_
                  refine AWc.cond rfl (fun hc => by cases hc) (fun _ => ?_)
                  refine AWc.seq ?_
                  refine AWc.rg hmix rfl rfl ?_
                  refine RegV.p0 rfl rfl rfl ?_
                  refine RegV.nil0 ?_
                  cases h12
                  dsimp only at h
                  have hr := Option.some.inj h
                  subst hr
                  exact AWc.ret (canQ (N := 47) (k := 0) (l' := [(2, (.d (.bool false)))]) (H' := []) rfl ⟨rfl, [], [], rfl, rfl, ⟨⟨_, rfl, (.refl _)⟩, rfl, trivial⟩,  trivial⟩ (doneA (.inr rfl) rfl ⟨trivial, trivial⟩ (.refl _) hasNil))
    · have h12 := cond_neg c19 h12
      cases h12
      dsimp only at h
      refine AWc.exit ?_
      refine inBlk_eq ?_
      exact ⟨(), h, ⟨rfl, [], [], rfl, rfl, ⟨⟨_, rfl, (.refl _)⟩, rfl, trivial⟩,  trivial⟩⟩
  · rintro ⟨⟩ h
    unfold f320_j94 at h
    refine AWc.seq ?_
    refine AWc.rg hmix rfl rfl ?_
    refine RegV.p0 rfl rfl rfl ?_
    refine RegV.p0 (v := (.d (.int .i64 ((a0.length : Nat) : Int)))) rfl rfl rfl ?_
    refine RegV.p0 (v := (.d (.bool (decide (((a0.length : Nat) : Int) > (0 : Int)))))) rfl rfl rfl ?_
    refine RegV.p0 rfl rfl rfl ?_
    refine RegV.split (fun c100 => ?_) (fun c100 => ?_)
    · have h := cond_pos c100 h
      refine RegV.p0 rfl rfl rfl ?_
      refine RegV.p0 (v := (.d (.int .i64 ((a0.length : Nat) : Int)))) rfl rfl rfl ?_
      refine RegV.p0 (v := (.d (.bool (decide (((a0.length : Nat) : Int) ≤ (100 : Int)))))) rfl rfl rfl ?_
      refine RegV.p0 rfl rfl rfl ?_
      refine RegV.p0 rfl rfl rfl ?_
      refine RegV.nil0 ?_
      have hr := Option.some.inj h
      subst hr
      exact AWc.ret (canQ (N := 47) (k := 0) (l' := [(2, (.d (.bool (decide (((a0.length : Nat) : Int) ≤ (100 : Int))))))]) (H' := []) rfl ⟨rfl, [], [], rfl, rfl, ⟨⟨_, rfl, (.refl _)⟩, rfl, trivial⟩,  trivial⟩ (doneA (.inr rfl) rfl ⟨trivial, trivial⟩ (.refl _) hasNil))
    · have h := cond_neg c100 h
      refine RegV.noS rfl rfl ?_
      refine RegV.noS rfl rfl ?_
      refine RegV.noS rfl rfl ?_
      refine RegV.p0 rfl rfl rfl ?_
      refine RegV.p0 rfl rfl rfl ?_
      refine RegV.nil0 ?_
      have hr := Option.some.inj h
      subst hr
      exact AWc.ret (canQ (N := 47) (k := 0) (l' := [(2, (.d (.bool false)))]) (H' := []) rfl ⟨rfl, [], [], rfl, rfl, ⟨⟨_, rfl, (.refl _)⟩, rfl, trivial⟩,  trivial⟩ (doneA (.inr rfl) rfl ⟨trivial, trivial⟩ (.refl _) hasNil))
def HC324 (P : Program) (N : Nat → Nat) : Prop := IdxB P (N 324)
def f324 (k : Nat) (a0 : List UInt8) (a1 : UInt8) : Option Int := some (Lib.indexByte a0 a1)
theorem F324 {P : Program} {N : Nat → Nat} (hmix : P.follows .mixedOrders = true) (hc : HC324 P N) {k : Nat} {a0 : List UInt8} {a1 : UInt8} {r : Int} (h : f324 k a0 a1 = some r) :
    ACalls P (N 324) [(.d (.str a0)), (.d (.int .u8 ((a1.toNat : Nat) : Int)))] [] (.d (.int .i64 r)) [] := by
  cases h
  exact idxB_calls hc a0 a1
/-- internal/stringslite.Index -/
def C323 (N : Nat → Nat) : AFunc := { n := 143, params := 2, res := [.tmp 4], body :=
 (.seq (.region false [⟨(some 4), .mv (.k (.d (.int .i64 0))), none, []⟩])
  (.seq (.region false [⟨(some 14), .mv (.t 1), none, []⟩,
    ⟨(some 15), .slen (.t 14), none, [0]⟩,
    ⟨(some 5), .mv (.t 15), none, [1, 0]⟩])
   (.seq (.block 0 (.seq (.region false [⟨(some 17), .mv (.t 5), none, []⟩,
       ⟨(some 18), .bin .eql (.t 17) (.k (.d (.int .i64 0))), none, [0]⟩,
       ⟨(some 19), .mv (.t 18), none, [1]⟩,
       ⟨(some 20), .mv (.t 1), (some (19, false)), [2]⟩,
       ⟨(some 21), .mv (.t 0), (some (19, false)), [2]⟩,
       ⟨(some 22), .bin .eql (.t 20) (.t 21), (some (19, false)), [3, 4, 2]⟩,
       ⟨(some 23), .pick (.t 19) (.k (.d (.bool true))) (.t 22), none, [2, 5]⟩,
       ⟨(some 16), .mv (.t 23), none, [6, 2]⟩])
      (.cond (.t 16) (.seq (.region false [⟨(some 4), .mv (.k (.d (.int .i64 0))), none, []⟩])
        .ret)
       (.seq (.region false [⟨(some 25), .mv (.t 5), none, []⟩,
         ⟨(some 26), .bin .eql (.t 25) (.k (.d (.int .i64 1))), none, [0]⟩,
         ⟨(some 24), .mv (.t 26), none, [1]⟩])
        (.cond (.t 24) (.seq (.region false [⟨(some 27), .mv (.t 0), none, []⟩,
           ⟨(some 28), .mv (.t 1), none, []⟩,
           ⟨(some 29), .idx (.t 28) (.k (.d (.int .i64 0))), none, [1]⟩,
           ⟨(some 30), .call (.k (.d (.fn (N 324)))) [(.t 27), (.t 29)], none, [0, 2]⟩,
           ⟨(some 4), .mv (.t 30), none, [3, 0, 1, 2]⟩])
          .ret)
         (.seq (.region false [⟨(some 32), .mv (.t 5), none, []⟩,
           ⟨(some 33), .mv (.t 0), none, []⟩,
           ⟨(some 34), .slen (.t 33), none, [1]⟩,
           ⟨(some 35), .bin .geq (.t 32) (.t 34), none, [0, 2]⟩,
           ⟨(some 31), .mv (.t 35), none, [3]⟩])
          (.cond (.t 31) (.seq (.region false [⟨(some 4), .mv (.k (.d (.int .i64 (-1)))), none, []⟩])
            .ret)
           (.seq (.region false [⟨(some 37), .mv (.t 5), none, []⟩,
             ⟨(some 38), .bad, none, []⟩,
             ⟨(some 39), .bin .leq (.t 37) (.t 38), none, [0, 1]⟩,
             ⟨(some 40), .mv (.t 39), none, [2]⟩,
             ⟨(some 41), .mv (.t 0), (some (40, true)), [3]⟩,
             ⟨(some 42), .slen (.t 41), (some (40, true)), [4, 3]⟩,
             ⟨(some 43), .bin .leq (.t 42) (.k (.d (.int .i64 64))), (some (40, true)), [5, 3]⟩,
             ⟨(some 44), .pick (.t 40) (.t 43) (.k (.d (.bool false))), none, [3, 6]⟩,
             ⟨(some 36), .mv (.t 44), none, [7, 3]⟩])
            (.cond (.t 36) (.seq (.region false [⟨(some 45), .mv (.t 0), none, []⟩,
               ⟨(some 46), .mv (.t 1), none, []⟩,
               ⟨(some 47), .call (.k (.d (.fn (N 329)))) [(.t 45), (.t 46)], none, [0, 1]⟩,
               ⟨(some 4), .mv (.t 47), none, [2, 0, 1]⟩])
              .ret)
             (.skip))))))))))
    (.seq (.region false [⟨(some 48), .mv (.t 1), none, []⟩,
      ⟨(some 49), .idx (.t 48) (.k (.d (.int .i64 0))), none, [0]⟩,
      ⟨(some 6), .mv (.t 49), none, [1, 0]⟩])
     (.seq (.region false [⟨(some 50), .mv (.t 1), none, []⟩,
       ⟨(some 51), .idx (.t 50) (.k (.d (.int .i64 1))), none, [0]⟩,
       ⟨(some 7), .mv (.t 51), none, [1, 0]⟩])
      (.seq (.region false [⟨(some 8), .mv (.k (.d (.int .i64 0))), none, []⟩])
       (.seq (.region false [⟨(some 52), .mv (.t 0), none, []⟩,
         ⟨(some 53), .slen (.t 52), none, [0]⟩,
         ⟨(some 54), .mv (.t 5), none, []⟩,
         ⟨(some 55), .bin .sub (.t 53) (.t 54), none, [1, 2]⟩,
         ⟨(some 56), .bin .add (.t 55) (.k (.d (.int .i64 1))), none, [3]⟩,
         ⟨(some 9), .mv (.t 56), none, [4, 0, 1, 2, 3]⟩])
        (.seq (.region false [⟨(some 10), .mv (.k (.d (.int .i64 0))), none, []⟩])
         (.seq (.block 1 (.loop (.seq (.seq (.region false [⟨(some 57), .mv (.t 8), none, []⟩,
               ⟨(some 58), .mv (.t 9), none, []⟩,
               ⟨(some 59), .bin .lss (.t 57) (.t 58), none, [0, 1]⟩])
              (.cond (.t 59) (.skip)
               (.exit 1)))
             (.block 2 (.seq (.seq (.region false [⟨(some 60), .mv (.t 0), none, []⟩,
                 ⟨(some 61), .mv (.t 8), none, []⟩,
                 ⟨(some 62), .idx (.t 60) (.t 61), none, [0, 1]⟩,
                 ⟨(some 63), .mv (.t 6), none, []⟩,
                 ⟨(some 64), .bin .neq (.t 62) (.t 63), none, [2, 3]⟩])
                (.cond (.t 64) (.seq (.region false [⟨(some 65), .mv (.t 0), none, []⟩,
                   ⟨(some 66), .mv (.t 8), none, []⟩,
                   ⟨(some 67), .bin .add (.t 66) (.k (.d (.int .i64 1))), none, [1]⟩,
                   ⟨(some 68), .mv (.t 9), none, []⟩,
                   ⟨(some 69), .ssl (.t 65) (some (.t 67)) (some (.t 68)), none, [0, 2, 3]⟩,
                   ⟨(some 70), .mv (.t 6), none, []⟩,
                   ⟨(some 71), .call (.k (.d (.fn (N 324)))) [(.t 69), (.t 70)], none, [4, 5]⟩,
                   ⟨(some 11), .mv (.t 71), none, [6, 0, 1, 2, 3, 4, 5]⟩])
                  (.seq (.seq (.region false [⟨(some 72), .mv (.t 11), none, []⟩,
                     ⟨(some 73), .bin .lss (.t 72) (.k (.d (.int .i64 0))), none, [0]⟩])
                    (.cond (.t 73) (.seq (.region false [⟨(some 4), .mv (.k (.d (.int .i64 (-1)))), none, []⟩])
                      .ret)
                     (.skip)))
                   (.region false [⟨(some 74), .mv (.t 8), none, []⟩,
                    ⟨(some 75), .mv (.t 11), none, []⟩,
                    ⟨(some 76), .bin .add (.t 75) (.k (.d (.int .i64 1))), none, [1]⟩,
                    ⟨(some 77), .bin .add (.t 74) (.t 76), none, [0, 2]⟩,
                    ⟨(some 8), .mv (.t 77), none, [3, 0, 1, 2]⟩])))
                 (.skip)))
               (.seq (.seq (.region false [⟨(some 78), .mv (.t 0), none, []⟩,
                  ⟨(some 79), .mv (.t 8), none, []⟩,
                  ⟨(some 80), .bin .add (.t 79) (.k (.d (.int .i64 1))), none, [1]⟩,
                  ⟨(some 81), .idx (.t 78) (.t 80), none, [0, 2]⟩,
                  ⟨(some 82), .mv (.t 7), none, []⟩,
                  ⟨(some 83), .bin .eql (.t 81) (.t 82), none, [3, 4]⟩,
                  ⟨(some 84), .mv (.t 83), none, [5]⟩,
                  ⟨(some 85), .mv (.t 0), (some (84, true)), [6]⟩,
                  ⟨(some 86), .mv (.t 8), (some (84, true)), [6]⟩,
                  ⟨(some 87), .mv (.t 8), (some (84, true)), [6]⟩,
                  ⟨(some 88), .mv (.t 5), (some (84, true)), [6]⟩,
                  ⟨(some 89), .bin .add (.t 87) (.t 88), (some (84, true)), [9, 10, 6]⟩,
                  ⟨(some 90), .ssl (.t 85) (some (.t 86)) (some (.t 89)), (some (84, true)), [7, 8, 11, 6]⟩,
                  ⟨(some 91), .mv (.t 1), (some (84, true)), [6]⟩,
                  ⟨(some 92), .bin .eql (.t 90) (.t 91), (some (84, true)), [12, 13, 6]⟩,
                  ⟨(some 93), .pick (.t 84) (.t 92) (.k (.d (.bool false))), none, [6, 14]⟩])
                 (.cond (.t 93) (.seq (.region false [⟨(some 94), .mv (.t 8), none, []⟩,
                    ⟨(some 4), .mv (.t 94), none, [0]⟩])
                   .ret)
                  (.skip)))
                (.seq (.region false [⟨(some 95), .mv (.t 8), none, []⟩,
                  ⟨(some 96), .bin .add (.t 95) (.k (.d (.int .i64 1))), none, [0]⟩,
                  ⟨(some 8), .mv (.t 96), none, [1, 0]⟩])
                 (.seq (.region false [⟨(some 97), .mv (.t 10), none, []⟩,
                   ⟨(some 98), .bin .add (.t 97) (.k (.d (.int .i64 1))), none, [0]⟩,
                   ⟨(some 10), .mv (.t 98), none, [1, 0]⟩])
                  (.seq (.region false [⟨(some 99), .mv (.t 5), none, []⟩,
                    ⟨(some 100), .bad, none, []⟩,
                    ⟨(some 101), .bin .leq (.t 99) (.t 100), none, [0, 1]⟩,
                    ⟨(some 102), .mv (.t 101), none, [2]⟩,
                    ⟨(some 103), .mv (.t 10), (some (102, true)), [3]⟩,
                    ⟨(some 104), .mv (.t 8), (some (102, true)), [3]⟩,
                    ⟨(some 105), .call (.k (.d (.fn (N 330)))) [(.t 104)], (some (102, true)), [5, 3]⟩,
                    ⟨(some 106), .bin .gtr (.t 103) (.t 105), (some (102, true)), [4, 6, 3]⟩,
                    ⟨(some 107), .pick (.t 102) (.t 106) (.k (.d (.bool false))), none, [3, 7]⟩])
                   (.cond (.t 107) (.seq (.region false [⟨(some 108), .mv (.t 0), none, []⟩,
                      ⟨(some 109), .mv (.t 8), none, []⟩,
                      ⟨(some 110), .ssl (.t 108) (some (.t 109)) none, none, [0, 1]⟩,
                      ⟨(some 111), .mv (.t 1), none, []⟩,
                      ⟨(some 112), .call (.k (.d (.fn (N 329)))) [(.t 110), (.t 111)], none, [2, 3]⟩,
                      ⟨(some 12), .mv (.t 112), none, [4, 0, 1, 2, 3]⟩])
                     (.seq (.seq (.region false [⟨(some 113), .mv (.t 12), none, []⟩,
                        ⟨(some 114), .bin .geq (.t 113) (.k (.d (.int .i64 0))), none, [0]⟩])
                       (.cond (.t 114) (.seq (.region false [⟨(some 115), .mv (.t 12), none, []⟩,
                          ⟨(some 116), .mv (.t 8), none, []⟩,
                          ⟨(some 117), .bin .add (.t 115) (.t 116), none, [0, 1]⟩,
                          ⟨(some 4), .mv (.t 117), none, [2, 0, 1]⟩])
                         .ret)
                        (.skip)))
                      (.seq (.region false [⟨(some 4), .mv (.k (.d (.int .i64 (-1)))), none, []⟩])
                       .ret)))
                    (.seq (.region false [⟨(some 118), .mv (.t 5), none, []⟩,
                      ⟨(some 119), .bad, none, []⟩,
                      ⟨(some 120), .bin .gtr (.t 118) (.t 119), none, [0, 1]⟩,
                      ⟨(some 121), .mv (.t 120), none, [2]⟩,
                      ⟨(some 122), .mv (.t 10), (some (121, true)), [3]⟩,
                      ⟨(some 123), .mv (.t 8), (some (121, true)), [3]⟩,
                      ⟨(some 124), .bin .shr (.t 123) (.k (.d (.int .u64 4))), (some (121, true)), [5, 3]⟩,
                      ⟨(some 125), .bin .add (.k (.d (.int .i64 4))) (.t 124), (some (121, true)), [6, 3]⟩,
                      ⟨(some 126), .bin .geq (.t 122) (.t 125), (some (121, true)), [4, 7, 3]⟩,
                      ⟨(some 127), .pick (.t 121) (.t 126) (.k (.d (.bool false))), none, [3, 8]⟩,
                      ⟨(some 128), .mv (.t 127), none, [9, 3]⟩,
                      ⟨(some 129), .mv (.t 8), (some (128, true)), [10]⟩,
                      ⟨(some 130), .mv (.t 9), (some (128, true)), [10]⟩,
                      ⟨(some 131), .bin .lss (.t 129) (.t 130), (some (128, true)), [11, 12, 10]⟩,
                      ⟨(some 132), .pick (.t 128) (.t 131) (.k (.d (.bool false))), none, [10, 13]⟩])
                     (.cond (.t 132) (.seq (.region false [⟨(some 133), .mv (.t 0), none, []⟩,
                        ⟨(some 134), .mv (.t 8), none, []⟩,
                        ⟨(some 135), .ssl (.t 133) (some (.t 134)) none, none, [0, 1]⟩,
                        ⟨(some 136), .mv (.t 1), none, []⟩,
                        ⟨(some 137), .call (.k (.d (.fn (N 331)))) [(.t 135), (.t 136)], none, [2, 3]⟩,
                        ⟨(some 13), .mv (.t 137), none, [4, 0, 1, 2, 3]⟩])
                       (.seq (.seq (.region false [⟨(some 138), .mv (.t 13), none, []⟩,
                          ⟨(some 139), .bin .lss (.t 138) (.k (.d (.int .i64 0))), none, [0]⟩])
                         (.cond (.t 139) (.seq (.region false [⟨(some 4), .mv (.k (.d (.int .i64 (-1)))), none, []⟩])
                           .ret)
                          (.skip)))
                        (.seq (.region false [⟨(some 140), .mv (.t 8), none, []⟩,
                          ⟨(some 141), .mv (.t 13), none, []⟩,
                          ⟨(some 142), .bin .add (.t 140) (.t 141), none, [0, 1]⟩,
                          ⟨(some 4), .mv (.t 142), none, [2, 0, 1]⟩])
                         .ret)))
                      (.skip)))))))))))))
          (.seq (.region false [⟨(some 4), .mv (.k (.d (.int .i64 (-1)))), none, []⟩])
           .ret)))))))))) }
def HC323 (P : Program) (N : Nat → Nat) : Prop := HasF P (N 323) (C323 N) ∧ HC324 P N
def f323_j24 (k : Nat) (a1 : (List UInt8)) (a0 : (List UInt8)) (j24_1 : Bool) : Option Int := cond j24_1 (some (0 : Int)) (cond (decide (((a1.length : Nat) : Int) = (1 : Int))) (gd (0 ≤ (0 : Int) ∧ (0 : Int) < ((a1.length : Nat) : Int)) ((f324 k a0 (a1.getD ((0 : Int)).toNat 0)).bind fun r43 => some r43)) (cond (decide (((a1.length : Nat) : Int) ≥ ((a0.length : Nat) : Int))) (some (-1 : Int)) (none)))
def f323 (k : Nat) (a0 : (List UInt8)) (a1 : (List UInt8)) : Option Int := cond (decide (((a1.length : Nat) : Int) = (0 : Int))) (f323_j24 k a1 a0 true) (f323_j24 k a1 a0 (decide (a1 = a0)))
theorem F323 {P : Program} {N : Nat → Nat} (hmix : P.follows .mixedOrders = true) (hc : HC323 P N) {k : Nat} {a0 : (List UInt8)} {a1 : (List UInt8)} {r : Int} (h : f323 k a0 a1 = some r) :
    ACalls P (N 323) [(.d (.str a0)), (.d (.str a1))] [] (.d (.int .i64 r)) [] := by
  refine acalls_canon (F := C323 N) hc.1 0 0 rfl ?_
  unfold f323 at h
  dsimp only [C323, startL]
  refine AWc.seq ?_
  refine AWc.rg hmix rfl rfl ?_
  refine RegV.p0 rfl rfl rfl ?_
  refine RegV.nil0 ?_
  refine AWc.seq ?_
  refine AWc.rg hmix rfl rfl ?_
  refine RegV.p0 rfl rfl rfl ?_
  refine RegV.p0 (v := (.d (.int .i64 ((a1.length : Nat) : Int)))) rfl rfl rfl ?_
  refine RegV.p0 rfl rfl rfl ?_
  refine RegV.nil0 ?_
  refine AWc.seq ?_
  refine AWc.block ?_
  refine AWc.seqS (N := 143) 0 (fun (z : Bool) => [(0, (.d (.str a0))), (1, (.d (.str a1))), (5, (.d (.int .i64 ((a1.length : Nat) : Int)))), (16, (.d (.bool z)))]) (fun z => []) (fun z => f323_j24 k a1 a0 z = some r) rfl_le ?_ ?_
  · refine AWc.rg hmix rfl rfl ?_
    refine RegV.p0 rfl rfl rfl ?_
    refine RegV.p0 (v := (.d (.bool (decide (((a1.length : Nat) : Int) = (0 : Int)))))) rfl rfl rfl ?_
    refine RegV.p0 rfl rfl rfl ?_
    refine RegV.split (fun c18 => ?_) (fun c18 => ?_)
    · have h := cond_pos c18 h
      refine RegV.noS rfl rfl ?_
      refine RegV.noS rfl rfl ?_
      refine RegV.noS rfl rfl ?_
      refine RegV.p0 rfl rfl rfl ?_
      refine RegV.p0 rfl rfl rfl ?_
      refine RegV.nil0 ?_
      exact ⟨true, h, ⟨rfl, [], [], rfl, rfl, ⟨⟨_, rfl, (.refl _)⟩, rfl, ⟨⟨_, rfl, (.refl _)⟩, rfl, ⟨⟨_, rfl, (.refl _)⟩, rfl, ⟨⟨_, rfl, (.refl _)⟩, rfl, trivial⟩⟩⟩⟩,  trivial⟩⟩
    · have h := cond_neg c18 h
      refine RegV.p0 rfl rfl rfl ?_
      refine RegV.p0 rfl rfl rfl ?_
      refine RegV.p0 (v := (.d (.bool (decide (a1 = a0))))) rfl rfl rfl ?_
      refine RegV.p0 rfl rfl rfl ?_
      refine RegV.p0 rfl rfl rfl ?_
      refine RegV.nil0 ?_
      exact ⟨(decide (a1 = a0)), h, ⟨rfl, [], [], rfl, rfl, ⟨⟨_, rfl, (.refl _)⟩, rfl, ⟨⟨_, rfl, (.refl _)⟩, rfl, ⟨⟨_, rfl, (.refl _)⟩, rfl, ⟨⟨_, rfl, (.refl _)⟩, rfl, trivial⟩⟩⟩⟩,  trivial⟩⟩
  · intro j24_1 h
    unfold f323_j24 at h
    refine AWc.cond rfl (fun c24 => ?_) (fun c24 => ?_)
    · have h := cond_pos c24 h
      refine AWc.seq ?_
      refine AWc.rg hmix rfl rfl ?_
      refine RegV.p0 rfl rfl rfl ?_
      refine RegV.nil0 ?_
      have hr := Option.some.inj h
      subst hr
      exact AWc.ret (canQ (N := 143) (k := 0) (l' := [(4, (.d (.int .i64 (0 : Int))))]) (H' := []) rfl ⟨rfl, [], [], rfl, rfl, ⟨⟨_, rfl, (.refl _)⟩, rfl, trivial⟩,  trivial⟩ (doneA (.inr rfl) rfl ⟨trivial, trivial⟩ (.refl _) hasNil))
    · have h := cond_neg c24 h
      refine AWc.seq ?_
      refine AWc.rg hmix rfl rfl ?_
      refine RegV.p0 rfl rfl rfl ?_
      refine RegV.p0 (v := (.d (.bool (decide (((a1.length : Nat) : Int) = (1 : Int)))))) rfl rfl rfl ?_
      refine RegV.p0 rfl rfl rfl ?_
      refine RegV.nil0 ?_
      refine AWc.cond rfl (fun c36 => ?_) (fun c36 => ?_)
      · have h := cond_pos c36 h
        refine AWc.seq ?_
        refine AWc.rg hmix rfl rfl ?_
        refine RegV.p0 rfl rfl rfl ?_
        refine RegV.p0 rfl rfl rfl ?_
        obtain ⟨b42, h⟩ := gd_some h
        refine RegV.p1 (v := (.d (.int .u8 (((a1.getD ((0 : Int)).toNat 0).toNat : Nat) : Int)))) rfl rfl b42 rfl rfl ?_
        obtain ⟨r43, e43, h⟩ := bind_some h
        refine RegV.call0 (F324 hmix hc.2 e43) rfl rfl rfl rfl (.cons (.refl _) (.cons (.refl _) .nil)) rfl ?_
        refine RegV.p0 rfl rfl rfl ?_
        refine RegV.nil0 ?_
        have hr := Option.some.inj h
        subst hr
        exact AWc.ret (canQ (N := 143) (k := 0) (l' := [(4, (.d (.int .i64 r43)))]) (H' := []) rfl ⟨rfl, [], [], rfl, rfl, ⟨⟨_, rfl, (.refl _)⟩, rfl, trivial⟩,  trivial⟩ (doneA (.inr rfl) rfl ⟨trivial, trivial⟩ (.refl _) hasNil))
      · have h := cond_neg c36 h
        refine AWc.seq ?_
        refine AWc.rg hmix rfl rfl ?_
        refine RegV.p0 rfl rfl rfl ?_
        refine RegV.p0 rfl rfl rfl ?_
        refine RegV.p0 (v := (.d (.int .i64 ((a0.length : Nat) : Int)))) rfl rfl rfl ?_
        refine RegV.p0 (v := (.d (.bool (decide (((a1.length : Nat) : Int) ≥ ((a0.length : Nat) : Int)))))) rfl rfl rfl ?_
        refine RegV.p0 rfl rfl rfl ?_
        refine RegV.nil0 ?_
        refine AWc.cond rfl (fun c54 => ?_) (fun c54 => ?_)
        · have h := cond_pos c54 h
          refine AWc.seq ?_
          refine AWc.rg hmix rfl rfl ?_
          refine RegV.p0 rfl rfl rfl ?_
          refine RegV.nil0 ?_
          have hr := Option.some.inj h
          subst hr
          exact AWc.ret (canQ (N := 143) (k := 0) (l' := [(4, (.d (.int .i64 (-1 : Int))))]) (H' := []) rfl ⟨rfl, [], [], rfl, rfl, ⟨⟨_, rfl, (.refl _)⟩, rfl, trivial⟩,  trivial⟩ (doneA (.inr rfl) rfl ⟨trivial, trivial⟩ (.refl _) hasNil))
        · have h := cond_neg c54 h
          refine AWc.seq ?_
          refine AWc.rg hmix rfl rfl ?_
          refine RegV.p0 rfl rfl rfl ?_
          cases h
/-- strings.Index -/
def C322 (N : Nat → Nat) : AFunc := { n := 8, params := 2, res := [.tmp 4], body :=
 (.seq (.region false [⟨(some 4), .mv (.k (.d (.int .i64 0))), none, []⟩])
  (.seq (.region false [⟨(some 5), .mv (.t 0), none, []⟩,
    ⟨(some 6), .mv (.t 1), none, []⟩,
    ⟨(some 7), .call (.k (.d (.fn (N 323)))) [(.t 5), (.t 6)], none, [0, 1]⟩,
    ⟨(some 4), .mv (.t 7), none, [2, 0, 1]⟩])
   .ret)) }
def HC322 (P : Program) (N : Nat → Nat) : Prop := HasF P (N 322) (C322 N) ∧ HC323 P N
def f322 (k : Nat) (a0 : (List UInt8)) (a1 : (List UInt8)) : Option Int := (f323 k a0 a1).bind fun r10 => some r10
theorem F322 {P : Program} {N : Nat → Nat} (hmix : P.follows .mixedOrders = true) (hc : HC322 P N) {k : Nat} {a0 : (List UInt8)} {a1 : (List UInt8)} {r : Int} (h : f322 k a0 a1 = some r) :
    ACalls P (N 322) [(.d (.str a0)), (.d (.str a1))] [] (.d (.int .i64 r)) [] := by
  refine acalls_canon (F := C322 N) hc.1 0 0 rfl ?_
  unfold f322 at h
  dsimp only [C322, startL]
  refine AWc.seq ?_
  refine AWc.rg hmix rfl rfl ?_
  refine RegV.p0 rfl rfl rfl ?_
  refine RegV.nil0 ?_
  refine AWc.seq ?_
  refine AWc.rg hmix rfl rfl ?_
  refine RegV.p0 rfl rfl rfl ?_
  refine RegV.p0 rfl rfl rfl ?_
  obtain ⟨r10, e10, h⟩ := bind_some h
  refine RegV.call0 (F323 hmix hc.2 e10) rfl rfl rfl rfl (.cons (.refl _) (.cons (.refl _) .nil)) rfl ?_
  refine RegV.p0 rfl rfl rfl ?_
  refine RegV.nil0 ?_
  have hr := Option.some.inj h
  subst hr
  exact AWc.ret (canQ (N := 8) (k := 0) (l' := [(4, (.d (.int .i64 r10)))]) (H' := []) rfl ⟨rfl, [], [], rfl, rfl, ⟨⟨_, rfl, (.refl _)⟩, rfl, trivial⟩,  trivial⟩ (doneA (.inr rfl) rfl ⟨trivial, trivial⟩ (.refl _) hasNil))
/-- strings.Contains -/
def C321 (N : Nat → Nat) : AFunc := { n := 9, params := 2, res := [.tmp 4], body :=
 (.seq (.region false [⟨(some 4), .mv (.k (.d (.bool false))), none, []⟩])
  (.seq (.region false [⟨(some 5), .mv (.t 0), none, []⟩,
    ⟨(some 6), .mv (.t 1), none, []⟩,
    ⟨(some 7), .call (.k (.d (.fn (N 322)))) [(.t 5), (.t 6)], none, [0, 1]⟩,
    ⟨(some 8), .bin .geq (.t 7) (.k (.d (.int .i64 0))), none, [2]⟩,
    ⟨(some 4), .mv (.t 8), none, [3, 2, 0, 1]⟩])
   .ret)) }
def HC321 (P : Program) (N : Nat → Nat) : Prop := HasF P (N 321) (C321 N) ∧ HC322 P N
def f321 (k : Nat) (a0 : (List UInt8)) (a1 : (List UInt8)) : Option Bool := (f322 k a0 a1).bind fun r10 => some (decide (r10 ≥ (0 : Int)))
theorem F321 {P : Program} {N : Nat → Nat} (hmix : P.follows .mixedOrders = true) (hc : HC321 P N) {k : Nat} {a0 : (List UInt8)} {a1 : (List UInt8)} {r : Bool} (h : f321 k a0 a1 = some r) :
    ACalls P (N 321) [(.d (.str a0)), (.d (.str a1))] [] (.d (.bool r)) [] := by
  refine acalls_canon (F := C321 N) hc.1 0 0 rfl ?_
  unfold f321 at h
  dsimp only [C321, startL]
  refine AWc.seq ?_
  refine AWc.rg hmix rfl rfl ?_
  refine RegV.p0 rfl rfl rfl ?_
  refine RegV.nil0 ?_
  refine AWc.seq ?_
  refine AWc.rg hmix rfl rfl ?_
  refine RegV.p0 rfl rfl rfl ?_
  refine RegV.p0 rfl rfl rfl ?_
  obtain ⟨r10, e10, h⟩ := bind_some h
  refine RegV.call0 (F322 hmix hc.2 e10) rfl rfl rfl rfl (.cons (.refl _) (.cons (.refl _) .nil)) rfl ?_
  refine RegV.p0 (v := (.d (.bool (decide (r10 ≥ (0 : Int)))))) rfl rfl rfl ?_
  refine RegV.p0 rfl rfl rfl ?_
  refine RegV.nil0 ?_
  have hr := Option.some.inj h
  subst hr
  exact AWc.ret (canQ (N := 9) (k := 0) (l' := [(4, (.d (.bool (decide (r10 ≥ (0 : Int))))))]) (H' := []) rfl ⟨rfl, [], [], rfl, rfl, ⟨⟨_, rfl, (.refl _)⟩, rfl, trivial⟩,  trivial⟩ (doneA (.inr rfl) rfl ⟨trivial, trivial⟩ (.refl _) hasNil))
/-- strings.splitSeq -/
def C334 (N : Nat → Nat) : AFunc := { n := 8, params := 3, res := [.tmp 6], body :=
 (.seq (.region false [⟨(some 3), .box (.t 0), none, []⟩,
   ⟨(some 4), .box (.t 1), none, []⟩,
   ⟨(some 5), .box (.t 2), none, []⟩,
   ⟨(some 6), .mv (.k (.d .nilf)), none, []⟩])
  (.seq (.region false [⟨(some 7), .mkfn (N 335) [(.t 4), (.t 3), (.t 5)], none, []⟩,
    ⟨(some 6), .mv (.t 7), none, [0]⟩])
   .ret)) }
def HC334 (P : Program) (N : Nat → Nat) : Prop := HasF P (N 334) (C334 N)
def f334 (k : Nat) (a0 : (List UInt8)) (a1 : (List UInt8)) (a2 : Int) : Option Unit := some ()
theorem F334 {P : Program} {N : Nat → Nat} (hmix : P.follows .mixedOrders = true) (hc : HC334 P N) {k : Nat} {a0 : (List UInt8)} {a1 : (List UInt8)} {a2 : Int} {r : Unit} (h : f334 k a0 a1 a2 = some r) :
    ACalls P (N 334) [(.d (.str a0)), (.d (.str a1)), (.d (.int .i64 a2))] [] (.fn (N 335) [(.ptr 0 0), (.ptr 1 0), (.ptr 2 0)]) [(0, (.cells [(.d (.str a1))])), (1, (.cells [(.d (.str a0))])), (2, (.cells [(.d (.int .i64 a2))]))] := by
  refine acalls_canon (F := C334 N) hc 0 3 rfl ?_
  unfold f334 at h
  dsimp only [C334, startL]
  refine AWc.seq ?_
  refine AWc.rg hmix rfl rfl ?_
  refine RegV.evS (own := false) (v := (.ptr 0 0)) (H' := [(0, (.cells [(.d (.str a0))]))]) (c' := 1) rfl rfl trivial rfl rfl rfl rfl rfl rfl ?_
  refine RegV.evS (own := false) (v := (.ptr 1 0)) (H' := [(1, (.cells [(.d (.str a1))])), (0, (.cells [(.d (.str a0))]))]) (c' := 2) rfl rfl trivial rfl rfl rfl rfl rfl rfl ?_
  refine RegV.evS (own := false) (v := (.ptr 2 0)) (H' := [(2, (.cells [(.d (.int .i64 a2))])), (1, (.cells [(.d (.str a1))])), (0, (.cells [(.d (.str a0))]))]) (c' := 3) rfl rfl trivial rfl rfl rfl rfl rfl rfl ?_
  refine RegV.p0 rfl rfl rfl ?_
  refine RegV.nil0 ?_
  refine AWc.seq ?_
  refine AWc.rg hmix rfl rfl ?_
  refine RegV.p0 (v := (.fn (N 335) [(.ptr 1 0), (.ptr 0 0), (.ptr 2 0)])) rfl rfl rfl ?_
  refine RegV.p0 rfl rfl rfl ?_
  refine RegV.nil0 ?_
  have hr := Option.some.inj h
  subst hr
  exact AWc.ret (canQ (N := 8) (k := 3) (l' := [(6, (.fn (N 335) [(.ptr 0 0), (.ptr 1 0), (.ptr 2 0)]))]) (H' := [(0, (.cells [(.d (.str a1))])), (1, (.cells [(.d (.str a0))])), (2, (.cells [(.d (.int .i64 a2))]))]) rfl ⟨rfl, [], [(0, 1), (1, 0)], rfl, rfl, ⟨⟨_, rfl, (.refl _)⟩, rfl, trivial⟩, ⟨⟨_, rfl, (.refl _)⟩, rfl, rfl, ⟨⟨_, rfl, (.refl _)⟩, rfl, rfl, ⟨⟨_, rfl, (.refl _)⟩, rfl, rfl, trivial⟩⟩⟩⟩ (doneA (.inr rfl) rfl ⟨trivial, trivial⟩ (.refl _) (hasCons rfl (hasCons rfl (hasCons rfl hasNil)))))
/-- strings.SplitSeq -/
def C333 (N : Nat → Nat) : AFunc := { n := 8, params := 2, res := [.tmp 4], body :=
 (.seq (.region false [⟨(some 4), .mv (.k (.d .nilf)), none, []⟩])
  (.seq (.region false [⟨(some 5), .mv (.t 0), none, []⟩,
    ⟨(some 6), .mv (.t 1), none, []⟩,
    ⟨(some 7), .call (.k (.d (.fn (N 334)))) [(.t 5), (.t 6), (.k (.d (.int .i64 0)))], none, [0, 1]⟩,
    ⟨(some 4), .mv (.t 7), none, [2, 0, 1]⟩])
   .ret)) }
def HC333 (P : Program) (N : Nat → Nat) : Prop := HasF P (N 333) (C333 N) ∧ HC334 P N
def f333 (k : Nat) (a0 : (List UInt8)) (a1 : (List UInt8)) : Option Unit := (f334 k a0 a1 (0 : Int)).bind fun r10 => some ()
theorem F333 {P : Program} {N : Nat → Nat} (hmix : P.follows .mixedOrders = true) (hc : HC333 P N) {k : Nat} {a0 : (List UInt8)} {a1 : (List UInt8)} {r : Unit} (h : f333 k a0 a1 = some r) :
    ACalls P (N 333) [(.d (.str a0)), (.d (.str a1))] [] (.fn (N 335) [(.ptr 0 0), (.ptr 1 0), (.ptr 2 0)]) [(0, (.cells [(.d (.str a1))])), (1, (.cells [(.d (.str a0))])), (2, (.cells [(.d (.int .i64 (0 : Int)))]))] := by
  refine acalls_canon (F := C333 N) hc.1 0 3 rfl ?_
  unfold f333 at h
  dsimp only [C333, startL]
  refine AWc.seq ?_
  refine AWc.rg hmix rfl rfl ?_
  refine RegV.p0 rfl rfl rfl ?_
  refine RegV.nil0 ?_
  refine AWc.seq ?_
  refine AWc.rg hmix rfl rfl ?_
  refine RegV.p0 rfl rfl rfl ?_
  refine RegV.p0 rfl rfl rfl ?_
  obtain ⟨r10, e10, h⟩ := bind_some h
  refine RegV.callS (q := false) (H' := [(0, (.cells [(.d (.str a1))])), (1, (.cells [(.d (.str a0))])), (2, (.cells [(.d (.int .i64 (0 : Int)))]))]) (c' := 3) (show ACalls P (N 334) [(.d (.str a0)), (.d (.str a1)), (.d (.int .i64 (0 : Int)))] [] (.fn (N 335) [(.ptr 0 0), (.ptr 1 0), (.ptr 2 0)]) [(0, (.cells [(.d (.str a1))])), (1, (.cells [(.d (.str a0))])), (2, (.cells [(.d (.int .i64 (0 : Int)))]))] from ACalls.use (F334 hmix hc.2 e10) [(0, 0), (1, 1), (2, 2)] 3 rfl) rfl rfl rfl rfl (.cons (.refl _) (.cons (.refl _) (.cons (.refl _) .nil))) (.refl _) (fun h => by cases h) rfl hasNil rfl rfl rfl rfl ?_
  refine RegV.p0 rfl rfl rfl ?_
  refine RegV.nil0 ?_
  have hr := Option.some.inj h
  subst hr
  exact AWc.ret (canQ (N := 8) (k := 3) (l' := [(4, (.fn (N 335) [(.ptr 0 0), (.ptr 1 0), (.ptr 2 0)]))]) (H' := [(0, (.cells [(.d (.str a1))])), (1, (.cells [(.d (.str a0))])), (2, (.cells [(.d (.int .i64 (0 : Int)))]))]) rfl ⟨rfl, [], [], rfl, rfl, ⟨⟨_, rfl, (.refl _)⟩, rfl, trivial⟩, ⟨⟨_, rfl, (.refl _)⟩, rfl, rfl, ⟨⟨_, rfl, (.refl _)⟩, rfl, rfl, ⟨⟨_, rfl, (.refl _)⟩, rfl, rfl, trivial⟩⟩⟩⟩ (doneA (.inr rfl) rfl ⟨trivial, trivial⟩ (.refl _) (hasCons rfl (hasCons rfl (hasCons rfl hasNil)))))
def L332_0a (N : Nat → Nat) : ACode :=
 (.region false [⟨(some 3), .mv (.t 9), none, []⟩])
def L332_0b (N : Nat → Nat) : ACode :=
 (.block 1 (.seq (.region false [⟨(some 10), .mv (.t 3), none, []⟩,
    ⟨(some 11), .call (.k (.d (.fn (N 320)))) [(.t 10)], none, [0]⟩,
    ⟨(some 12), .un .not (.t 11), none, [1]⟩])
   (.cond (.t 12) (.seq (.region false [⟨none, .store (.t 2) (.k (.d (.bool false))) 1, none, []⟩])
     .ret)
    (.skip))))
/-- courant/names.Full -/
def C332 (N : Nat → Nat) : AFunc := { n := 13, params := 1, res := [.cell 2 1 false], body :=
 (.seq (.region false [⟨(some 2), .alloc [(.bool false)], none, []⟩])
  (.seq (.seq (.region false [⟨(some 4), .mv (.t 0), none, []⟩,
     ⟨(some 5), .slen (.t 4), none, [0]⟩,
     ⟨(some 6), .bin .gtr (.t 5) (.k (.d (.int .i64 100))), none, [1]⟩])
    (.cond (.t 6) (.seq (.region false [⟨none, .store (.t 2) (.k (.d (.bool false))) 1, none, []⟩])
      .ret)
     (.skip)))
   (.seq (.seq (.region false [⟨(some 7), .mv (.t 0), none, []⟩,
      ⟨(some 8), .call (.k (.d (.fn (N 333)))) [(.t 7), (.k (.d (.str [46])))], none, [0]⟩])
     (.block 0 (.rangeFunc (.t 8) [9] (L332_0a N) (L332_0b N))))
    (.seq (.region false [⟨none, .store (.t 2) (.k (.d (.bool true))) 1, none, []⟩])
     .ret)))) }
def HCb332_26 (P : Program) (N : Nat → Nat) : Prop := True ∧ HC320 P N
def b332_26 (k : Nat) (a0 : Bool) (a1 : (List UInt8)) : Option (Unit ⊕ Unit) := (f320 k a1).bind fun r36 => cond (!r36) (some (.inl ())) (some (.inr ()))
theorem B332_26_0 {P : Program} {N : Nat → Nat} (hmix : P.follows .mixedOrders = true) (hc : HCb332_26 P N) {asg0 bd0 : Code} (ha0 : compCode P asg0 = L332_0a N) (hb0 : compCode P bd0 = L332_0b N) {k : Nat} {a0 : Bool} {a1 : (List UInt8)} {r : Unit} (h : b332_26 k a0 a1 = some (.inl r)) :
    ARound P 0 [(.d (.str a1))] [(0, (.lp 13 [(2, (.ptr 1 0))] [9] asg0 bd0 .ready none)), (1, (.cells [(.d (.bool a0))]))] (.d (.bool false)) [(0, (.lp 13 [(2, (.ptr 1 0))] [9] asg0 bd0 .done (some .ret))), (1, (.cells [(.d (.bool false))]))] := by
  refine around_gen 2 2 ha0 hb0 rfl rfl (fun ro => ?_)
  unfold b332_26 at h
  dsimp only [L332_0a, L332_0b, putArgs]
  refine AWc.rg hmix rfl rfl ?_
  refine RegV.p0 rfl rfl rfl ?_
  refine RegV.nil0 ?_
  refine asgDone rfl rfl ?_
  refine AWc.block ?_
  refine AWc.seq ?_
  refine AWc.rg hmix rfl rfl ?_
  refine RegV.p0 rfl rfl rfl ?_
  obtain ⟨r36, e36, h⟩ := bind_some h
  refine RegV.call0 (F320 hmix hc.2 e36) rfl rfl rfl rfl (.cons (.refl _) .nil) rfl ?_
  refine RegV.p0 (v := (.d (.bool (!r36)))) rfl rfl rfl ?_
  refine RegV.nil0 ?_
  refine AWc.cond rfl (fun c38 => ?_) (fun c38 => ?_)
  · have h := cond_pos c38 h
    refine AWc.seq ?_
    refine AWc.rg hmix rfl rfl ?_
    refine RegV.evN (own := false) (H' := [(1, (.cells [(.d (.bool false))])), (0, (.lp 13 [(2, (.ptr 1 0))] [9] asg0 bd0 .busy none))]) (c' := 2) rfl rfl (by exact ⟨rfl, Nat.le_of_ble_eq_true rfl, rfl⟩) rfl rfl rfl rfl ?_
    refine RegV.nil0 ?_
    have hr := Option.some.inj h
    have hr := Sum.inl.inj hr
    subst hr
    exact AWc.ret (canQ (N := 13) (k := 2) (l' := []) (H' := [(0, (.lp 13 [(2, (.ptr 1 0))] [9] asg0 bd0 .busy none)), (1, (.cells [(.d (.bool false))]))]) rfl ⟨rfl, [], [], rfl, rfl,  trivial, ⟨⟨_, rfl, (.refl _)⟩, rfl, rfl, ⟨⟨_, rfl, (.refl _)⟩, rfl, rfl, trivial⟩⟩⟩ (roundD rfl rfl rfl rfl (hasCons rfl (hasCons rfl hasNil))))
  · have h := cond_neg c38 h
    refine AWc.skip ?_
    cases h
theorem B332_26_1 {P : Program} {N : Nat → Nat} (hmix : P.follows .mixedOrders = true) (hc : HCb332_26 P N) {asg0 bd0 : Code} (ha0 : compCode P asg0 = L332_0a N) (hb0 : compCode P bd0 = L332_0b N) {k : Nat} {a0 : Bool} {a1 : (List UInt8)} {r : Unit} (h : b332_26 k a0 a1 = some (.inr r)) :
    ARound P 0 [(.d (.str a1))] [(0, (.lp 13 [(2, (.ptr 1 0))] [9] asg0 bd0 .ready none)), (1, (.cells [(.d (.bool a0))]))] (.d (.bool true)) [(0, (.lp 13 [(2, (.ptr 1 0))] [9] asg0 bd0 .ready none)), (1, (.cells [(.d (.bool a0))]))] := by
  refine around_gen 2 2 ha0 hb0 rfl rfl (fun ro => ?_)
  unfold b332_26 at h
  dsimp only [L332_0a, L332_0b, putArgs]
  refine AWc.rg hmix rfl rfl ?_
  refine RegV.p0 rfl rfl rfl ?_
  refine RegV.nil0 ?_
  refine asgDone rfl rfl ?_
  refine AWc.block ?_
  refine AWc.seq ?_
  refine AWc.rg hmix rfl rfl ?_
  refine RegV.p0 rfl rfl rfl ?_
  obtain ⟨r36, e36, h⟩ := bind_some h
  refine RegV.call0 (F320 hmix hc.2 e36) rfl rfl rfl rfl (.cons (.refl _) .nil) rfl ?_
  refine RegV.p0 (v := (.d (.bool (!r36)))) rfl rfl rfl ?_
  refine RegV.nil0 ?_
  refine AWc.cond rfl (fun c38 => ?_) (fun c38 => ?_)
  · have h := cond_pos c38 h
    refine AWc.seq ?_
    refine AWc.rg hmix rfl rfl ?_
    refine RegV.evN (own := false) (H' := [(1, (.cells [(.d (.bool false))])), (0, (.lp 13 [(2, (.ptr 1 0))] [9] asg0 bd0 .busy none))]) (c' := 2) rfl rfl (by exact ⟨rfl, Nat.le_of_ble_eq_true rfl, rfl⟩) rfl rfl rfl rfl ?_
    refine RegV.nil0 ?_
    cases h
  · have h := cond_neg c38 h
    refine AWc.skip ?_
    have hr := Option.some.inj h
    have hr := Sum.inr.inj hr
    subst hr
    exact (canQ (N := 13) (k := 2) (l' := []) (H' := [(0, (.lp 13 [(2, (.ptr 1 0))] [9] asg0 bd0 .busy none)), (1, (.cells [(.d (.bool a0))]))]) rfl ⟨rfl, [], [], rfl, rfl,  trivial, ⟨⟨_, rfl, (.refl _)⟩, rfl, rfl, ⟨⟨_, rfl, (.refl _)⟩, rfl, rfl, trivial⟩⟩⟩ (roundD rfl rfl rfl rfl (hasCons rfl (hasCons rfl hasNil))))
/-- strings.splitSeq$1 -/
def C335 (N : Nat → Nat) : AFunc := { n := 52, params := 4, res := [], body :=
 (.seq (.seq (.region false [⟨(some 9), .load (.t 1) 1 false, none, []⟩,
    ⟨(some 10), .slen (.t 9), none, [0]⟩,
    ⟨(some 11), .bin .eql (.t 10) (.k (.d (.int .i64 0))), none, [1]⟩])
   (.cond (.t 11) (.seq (.block 0 (.loop (.seq (.seq (.region false [⟨(some 12), .load (.t 2) 1 false, none, []⟩,
          ⟨(some 13), .slen (.t 12), none, [0]⟩,
          ⟨(some 14), .bin .gtr (.t 13) (.k (.d (.int .i64 0))), none, [1]⟩])
         (.cond (.t 14) (.skip)
          (.exit 0)))
        (.block 1 (.seq (.region false [⟨(some 16), .load (.t 2) 1 false, none, []⟩,
           ⟨(some 17), .call (.k (.d (.fn (N 336)))) [(.t 16)], none, [0]⟩,
           ⟨(some 15), .mv (.t 17), none, [1]⟩,
           ⟨(some 18), .ext (.t 15) 0, none, [2]⟩,
           ⟨(some 19), .ext (.t 15) 1, none, [2]⟩,
           ⟨(some 5), .mv (.t 18), none, [3, 1, 0, 2]⟩,
           ⟨(some 6), .mv (.t 19), none, [4, 5, 0, 1, 2, 3]⟩])
          (.seq (.seq (.region false [⟨(some 20), .mv (.t 0), none, []⟩,
             ⟨(some 21), .load (.t 2) 1 false, none, []⟩,
             ⟨(some 22), .mv (.t 6), none, []⟩,
             ⟨(some 23), .ssl (.t 21) none (some (.t 22)), none, [1, 2]⟩,
             ⟨(some 24), .call (.t 20) [(.t 23)], none, [0, 3]⟩,
             ⟨(some 25), .un .not (.t 24), none, [4]⟩])
            (.cond (.t 25) .ret
             (.skip)))
           (.region false [⟨(some 26), .load (.t 2) 1 false, none, []⟩,
            ⟨(some 27), .mv (.t 6), none, []⟩,
            ⟨(some 28), .ssl (.t 26) (some (.t 27)) none, none, [0, 1]⟩,
            ⟨none, .store (.t 2) (.t 28) 1, none, [2, 0, 1]⟩])))))))
     .ret)
    (.skip)))
  (.seq (.block 2 (.loop (.block 3 (.seq (.region false [⟨(some 29), .load (.t 2) 1 false, none, []⟩,
        ⟨(some 30), .load (.t 1) 1 false, none, []⟩,
        ⟨(some 31), .call (.k (.d (.fn (N 322)))) [(.t 29), (.t 30)], none, [0, 1]⟩,
        ⟨(some 7), .mv (.t 31), none, [2, 0, 1]⟩])
       (.seq (.seq (.region false [⟨(some 32), .mv (.t 7), none, []⟩,
          ⟨(some 33), .bin .lss (.t 32) (.k (.d (.int .i64 0))), none, [0]⟩])
         (.cond (.t 33) (.exit 2)
          (.skip)))
        (.seq (.region false [⟨(some 34), .load (.t 2) 1 false, none, []⟩,
          ⟨(some 35), .mv (.t 7), none, []⟩,
          ⟨(some 36), .load (.t 3) 1 false, none, []⟩,
          ⟨(some 37), .bin .add (.t 35) (.t 36), none, [1, 2]⟩,
          ⟨(some 38), .ssl (.t 34) none (some (.t 37)), none, [0, 3]⟩,
          ⟨(some 8), .mv (.t 38), none, [4, 0, 1, 2, 3]⟩])
         (.seq (.seq (.region false [⟨(some 39), .mv (.t 0), none, []⟩,
            ⟨(some 40), .mv (.t 8), none, []⟩,
            ⟨(some 41), .call (.t 39) [(.t 40)], none, [0, 1]⟩,
            ⟨(some 42), .un .not (.t 41), none, [2]⟩])
           (.cond (.t 42) .ret
            (.skip)))
          (.region false [⟨(some 43), .load (.t 2) 1 false, none, []⟩,
           ⟨(some 44), .mv (.t 7), none, []⟩,
           ⟨(some 45), .load (.t 1) 1 false, none, []⟩,
           ⟨(some 46), .slen (.t 45), none, [2]⟩,
           ⟨(some 47), .bin .add (.t 44) (.t 46), none, [1, 3]⟩,
           ⟨(some 48), .ssl (.t 43) (some (.t 47)) none, none, [0, 4]⟩,
           ⟨none, .store (.t 2) (.t 48) 1, none, [5, 0, 1, 2, 3, 4]⟩]))))))))
   (.region false [⟨(some 49), .mv (.t 0), none, []⟩,
    ⟨(some 50), .load (.t 2) 1 false, none, []⟩,
    ⟨(some 51), .call (.t 49) [(.t 50)], none, [0, 1]⟩]))) }
def HC335 (P : Program) (N : Nat → Nat) : Prop := HasF P (N 335) (C335 N) ∧ HC322 P N ∧ HCb332_26 P N
def f335_l10 (a2 : (List UInt8)) : Nat → Option (LR2 Unit Unit ((List UInt8) ⊕ (List UInt8)))
  | 0 => none
  | k + 1 => cond (decide (((a2.length : Nat) : Int) > (0 : Int))) (none) (some (.b0 ()))
def f335_l55 (a1 : (List UInt8)) (a3 : Int) (a0 : Bool) : Nat → (List UInt8) → Option (LR2 (List UInt8) Unit ((List UInt8) ⊕ (List UInt8)))
  | 0, _ => none
  | k + 1, y55_1 => (f322 k y55_1 a1).bind fun r63 => cond (decide (r63 < (0 : Int))) (some (.b0 y55_1)) (gd (0 ≤ (0 : Int) ∧ (0 : Int) ≤ (IntKind.i64.wrap (r63 + a3)) ∧ (IntKind.i64.wrap (r63 + a3)) ≤ ((y55_1.length : Nat) : Int)) ((b332_26 k a0 (sl y55_1 (0 : Int) (IntKind.i64.wrap (r63 + a3)))).bind fun or89 => (match or89 with | .inl r89 => some (.r (.inr y55_1)) | .inr r89 => gd (0 ≤ (IntKind.i64.wrap (r63 + ((a1.length : Nat) : Int))) ∧ (IntKind.i64.wrap (r63 + ((a1.length : Nat) : Int))) ≤ ((y55_1.length : Nat) : Int) ∧ ((y55_1.length : Nat) : Int) ≤ ((y55_1.length : Nat) : Int)) (f335_l55 a1 a3 a0 k (sl y55_1 (IntKind.i64.wrap (r63 + ((a1.length : Nat) : Int))) ((y55_1.length : Nat) : Int))))))
def f335 (k : Nat) (a0 : Bool) (a1 : (List UInt8)) (a2 : (List UInt8)) (a3 : Int) : Option ((List UInt8) ⊕ (List UInt8)) := cond (decide (((a1.length : Nat) : Int) = (0 : Int))) ((f335_l10 a2 k).bind fun o10 => (match o10 with | .b0 () => some (.inl a2) | _ => none)) ((f335_l55 a1 a3 a0 k a2).bind fun o55 => (match o55 with | .b0 x55_1 => (b332_26 k a0 x55_1).bind fun or107 => (match or107 with | .inl r107 => some (.inr x55_1) | .inr r107 => some (.inl x55_1)) | .r x => some x | _ => none))
theorem F335_0 {P : Program} {N : Nat → Nat} (hmix : P.follows .mixedOrders = true) (hc : HC335 P N) {asg0 bd0 : Code} (ha0 : compCode P asg0 = L332_0a N) (hb0 : compCode P bd0 = L332_0b N) {k : Nat} {a0 : Bool} {a1 : (List UInt8)} {a2 : (List UInt8)} {a3 : Int} {r : (List UInt8)} (h : f335 k a0 a1 a2 a3 = some (.inl r)) :
    ACalls P (N 335) [(.lf 0), (.ptr 2 0), (.ptr 3 0), (.ptr 4 0)] [(0, (.lp 13 [(2, (.ptr 1 0))] [9] asg0 bd0 .ready none)), (1, (.cells [(.d (.bool a0))])), (2, (.cells [(.d (.str a1))])), (3, (.cells [(.d (.str a2))])), (4, (.cells [(.d (.int .i64 a3))]))] (.tup []) [(0, (.lp 13 [(2, (.ptr 1 0))] [9] asg0 bd0 .ready none)), (1, (.cells [(.d (.bool a0))])), (2, (.cells [(.d (.str a1))])), (3, (.cells [(.d (.str r))])), (4, (.cells [(.d (.int .i64 a3))]))] := by
  refine acalls_canon (F := C335 N) hc.1 5 5 rfl ?_
  unfold f335 at h
  dsimp only [C335, startL]
  refine AWc.seq ?_
  refine AWc.seq ?_
  refine AWc.rg hmix rfl rfl ?_
  refine RegV.ld (v := (.d (.str a1))) (H' := [(2, (.cells [(.d (.str a1))])), (0, (.lp 13 [(2, (.ptr 1 0))] [9] asg0 bd0 .ready none)), (1, (.cells [(.d (.bool a0))])), (3, (.cells [(.d (.str a2))])), (4, (.cells [(.d (.int .i64 a3))]))]) rfl rfl trivial rfl rfl rfl rfl rfl ?_
  refine RegV.p0 (v := (.d (.int .i64 ((a1.length : Nat) : Int)))) rfl rfl rfl ?_
  refine RegV.p0 (v := (.d (.bool (decide (((a1.length : Nat) : Int) = (0 : Int)))))) rfl rfl rfl ?_
  refine RegV.nil0 ?_
  refine AWc.cond rfl (fun c8 => ?_) (fun c8 => ?_)
  · have h := cond_pos c8 h
    obtain ⟨o10, h10, h⟩ := bind_some h
    refine AWc.seqS (N := 52) 5 (fun (z : Unit) => []) (fun z => [(0, (.lp 13 [(2, (.ptr 1 0))] [9] asg0 bd0 .ready none)), (1, (.cells [(.d (.bool a0))])), (2, (.cells [(.d (.str a1))])), (3, (.cells [(.d (.str a2))])), (4, (.cells [(.d (.int .i64 a3))]))]) (fun z => o10 = .b0 z) rfl_le ?_ ?_
    · refine AWc.block ?_
      refine AWc.loopK (N := 52) 5 (fun (x : Unit) => [(0, (.lf 0)), (2, (.ptr 3 0))]) (fun x => [(0, (.lp 13 [(2, (.ptr 1 0))] [9] asg0 bd0 .ready none)), (3, (.cells [(.d (.str a2))])), (1, (.cells [(.d (.bool a0))])), (2, (.cells [(.d (.str a1))])), (4, (.cells [(.d (.int .i64 a3))]))]) (fun k x => f335_l10 a2 k = some o10) k () rfl_le (fun x hx => by cases hx) h10 ⟨rfl, [], [], rfl, rfl, ⟨⟨_, rfl, (.refl _)⟩, rfl, ⟨⟨_, rfl, (.refl _)⟩, rfl, trivial⟩⟩, ⟨⟨_, rfl, (.refl _)⟩, rfl, rfl, ⟨⟨_, rfl, (.refl _)⟩, rfl, rfl, ⟨⟨_, rfl, (.refl _)⟩, rfl, rfl, ⟨⟨_, rfl, (.refl _)⟩, rfl, rfl, ⟨⟨_, rfl, (.refl _)⟩, rfl, rfl, trivial⟩⟩⟩⟩⟩⟩ ?_
      clear h10
      intro k
      rintro ⟨⟩ h10
      rw [f335_l10] at h10
      refine AWc.seq ?_
      refine AWc.seq ?_
      refine AWc.rg hmix rfl rfl ?_
      refine RegV.ld (v := (.d (.str a2))) (H' := [(3, (.cells [(.d (.str a2))])), (0, (.lp 13 [(2, (.ptr 1 0))] [9] asg0 bd0 .ready none)), (1, (.cells [(.d (.bool a0))])), (2, (.cells [(.d (.str a1))])), (4, (.cells [(.d (.int .i64 a3))]))]) rfl rfl trivial rfl rfl rfl rfl rfl ?_
      refine RegV.p0 (v := (.d (.int .i64 ((a2.length : Nat) : Int)))) rfl rfl rfl ?_
      refine RegV.p0 (v := (.d (.bool (decide (((a2.length : Nat) : Int) > (0 : Int)))))) rfl rfl rfl ?_
      refine RegV.nil0 ?_
      refine AWc.cond rfl (fun c19 => ?_) (fun c19 => ?_)
      · have h10 := cond_pos c19 h10
        refine AWc.skip ?_
        refine AWc.block ?_
        refine AWc.seq ?_
        refine AWc.rg hmix rfl rfl ?_
        refine RegV.ld (v := (.d (.str a2))) (H' := [(3, (.cells [(.d (.str a2))])), (0, (.lp 13 [(2, (.ptr 1 0))] [9] asg0 bd0 .ready none)), (1, (.cells [(.d (.bool a0))])), (2, (.cells [(.d (.str a1))])), (4, (.cells [(.d (.int .i64 a3))]))]) rfl rfl trivial rfl rfl rfl rfl rfl ?_
        cases h10
      · have h10 := cond_neg c19 h10
        cases h10
        dsimp only at h
        refine AWc.exit ?_
        refine inBlk_eq ?_
        exact ⟨(), rfl, ⟨rfl, [], [], rfl, rfl,  trivial, ⟨⟨_, rfl, (.refl _)⟩, rfl, rfl, ⟨⟨_, rfl, (.refl _)⟩, rfl, rfl, ⟨⟨_, rfl, (.refl _)⟩, rfl, rfl, ⟨⟨_, rfl, (.refl _)⟩, rfl, rfl, ⟨⟨_, rfl, (.refl _)⟩, rfl, rfl, trivial⟩⟩⟩⟩⟩⟩⟩
    · rintro ⟨⟩ ho
      subst ho
      dsimp only at h
      have hr := Option.some.inj h
      have hr := Sum.inl.inj hr
      subst hr
      exact AWc.ret (canQ (N := 52) (k := 5) (l' := []) (H' := [(0, (.lp 13 [(2, (.ptr 1 0))] [9] asg0 bd0 .ready none)), (1, (.cells [(.d (.bool a0))])), (2, (.cells [(.d (.str a1))])), (3, (.cells [(.d (.str a2))])), (4, (.cells [(.d (.int .i64 a3))]))]) rfl ⟨rfl, [], [], rfl, rfl,  trivial, ⟨⟨_, rfl, (.refl _)⟩, rfl, rfl, ⟨⟨_, rfl, (.refl _)⟩, rfl, rfl, ⟨⟨_, rfl, (.refl _)⟩, rfl, rfl, ⟨⟨_, rfl, (.refl _)⟩, rfl, rfl, ⟨⟨_, rfl, (.refl _)⟩, rfl, rfl, trivial⟩⟩⟩⟩⟩⟩ (doneA (.inr rfl) rfl trivial (.refl _) (hasCons rfl (hasCons rfl (hasCons rfl (hasCons rfl (hasCons rfl hasNil)))))))
  · have h := cond_neg c8 h
    refine AWc.skip ?_
    obtain ⟨o55, h55, h⟩ := bind_some h
    refine AWc.seqS (N := 52) 5 (fun (z : (List UInt8)) => [(0, (.lf 0)), (2, (.ptr 3 0))]) (fun z => [(0, (.lp 13 [(2, (.ptr 1 0))] [9] asg0 bd0 .ready none)), (3, (.cells [(.d (.str z))])), (1, (.cells [(.d (.bool a0))])), (2, (.cells [(.d (.str a1))])), (4, (.cells [(.d (.int .i64 a3))]))]) (fun z => o55 = .b0 z) rfl_le ?_ ?_
    · refine AWc.block ?_
      refine AWc.loopK (N := 52) 5 (fun (x : (List UInt8)) => [(0, (.lf 0)), (1, (.ptr 2 0)), (2, (.ptr 3 0)), (3, (.ptr 4 0))]) (fun x => [(0, (.lp 13 [(2, (.ptr 1 0))] [9] asg0 bd0 .ready none)), (2, (.cells [(.d (.str a1))])), (3, (.cells [(.d (.str x))])), (4, (.cells [(.d (.int .i64 a3))])), (1, (.cells [(.d (.bool a0))]))]) (fun k x => f335_l55 a1 a3 a0 k x = some o55) k a2 rfl_le (fun x hx => by cases hx) h55 ⟨rfl, [], [], rfl, rfl, ⟨⟨_, rfl, (.refl _)⟩, rfl, ⟨⟨_, rfl, (.refl _)⟩, rfl, ⟨⟨_, rfl, (.refl _)⟩, rfl, ⟨⟨_, rfl, (.refl _)⟩, rfl, trivial⟩⟩⟩⟩, ⟨⟨_, rfl, (.refl _)⟩, rfl, rfl, ⟨⟨_, rfl, (.refl _)⟩, rfl, rfl, ⟨⟨_, rfl, (.refl _)⟩, rfl, rfl, ⟨⟨_, rfl, (.refl _)⟩, rfl, rfl, ⟨⟨_, rfl, (.refl _)⟩, rfl, rfl, trivial⟩⟩⟩⟩⟩⟩ ?_
      clear h55
      intro k
      intro y55_1 h55
      rw [f335_l55] at h55
      refine AWc.block ?_
      refine AWc.seq ?_
      refine AWc.rg hmix rfl rfl ?_
      refine RegV.ld (v := (.d (.str y55_1))) (H' := [(3, (.cells [(.d (.str y55_1))])), (0, (.lp 13 [(2, (.ptr 1 0))] [9] asg0 bd0 .ready none)), (2, (.cells [(.d (.str a1))])), (4, (.cells [(.d (.int .i64 a3))])), (1, (.cells [(.d (.bool a0))]))]) rfl rfl trivial rfl rfl rfl rfl rfl ?_
      refine RegV.ld (v := (.d (.str a1))) (H' := [(2, (.cells [(.d (.str a1))])), (3, (.cells [(.d (.str y55_1))])), (0, (.lp 13 [(2, (.ptr 1 0))] [9] asg0 bd0 .ready none)), (4, (.cells [(.d (.int .i64 a3))])), (1, (.cells [(.d (.bool a0))]))]) rfl rfl trivial rfl rfl rfl rfl rfl ?_
      obtain ⟨r63, e63, h55⟩ := bind_some h55
      refine RegV.call0 (F322 hmix hc.2.1 e63) rfl rfl rfl rfl (.cons (.refl _) (.cons (.refl _) .nil)) rfl ?_
      refine RegV.p0 rfl rfl rfl ?_
      refine RegV.nil0 ?_
      refine AWc.seq ?_
      refine AWc.seq ?_
      refine AWc.rg hmix rfl rfl ?_
      refine RegV.p0 rfl rfl rfl ?_
      refine RegV.p0 (v := (.d (.bool (decide (r63 < (0 : Int)))))) rfl rfl rfl ?_
      refine RegV.nil0 ?_
      refine AWc.cond rfl (fun c71 => ?_) (fun c71 => ?_)
      · have h55 := cond_pos c71 h55
        cases h55
        dsimp only at h
        refine AWc.exit ?_
        refine inBlk_ne rfl ?_
        refine inBlk_eq ?_
        exact ⟨y55_1, rfl, ⟨rfl, [], [], rfl, rfl, ⟨⟨_, rfl, (.refl _)⟩, rfl, ⟨⟨_, rfl, (.refl _)⟩, rfl, trivial⟩⟩, ⟨⟨_, rfl, (.refl _)⟩, rfl, rfl, ⟨⟨_, rfl, (.refl _)⟩, rfl, rfl, ⟨⟨_, rfl, (.refl _)⟩, rfl, rfl, ⟨⟨_, rfl, (.refl _)⟩, rfl, rfl, ⟨⟨_, rfl, (.refl _)⟩, rfl, rfl, trivial⟩⟩⟩⟩⟩⟩⟩
      · have h55 := cond_neg c71 h55
        refine AWc.skip ?_
        refine AWc.seq ?_
        refine AWc.rg hmix rfl rfl ?_
        refine RegV.ld (v := (.d (.str y55_1))) (H' := [(3, (.cells [(.d (.str y55_1))])), (2, (.cells [(.d (.str a1))])), (0, (.lp 13 [(2, (.ptr 1 0))] [9] asg0 bd0 .ready none)), (4, (.cells [(.d (.int .i64 a3))])), (1, (.cells [(.d (.bool a0))]))]) rfl rfl trivial rfl rfl rfl rfl rfl ?_
        refine RegV.p0 rfl rfl rfl ?_
        refine RegV.ld (v := (.d (.int .i64 a3))) (H' := [(4, (.cells [(.d (.int .i64 a3))])), (3, (.cells [(.d (.str y55_1))])), (2, (.cells [(.d (.str a1))])), (0, (.lp 13 [(2, (.ptr 1 0))] [9] asg0 bd0 .ready none)), (1, (.cells [(.d (.bool a0))]))]) rfl rfl trivial rfl rfl rfl rfl rfl ?_
        refine RegV.p0 (v := (.d (.int .i64 (IntKind.i64.wrap (r63 + a3))))) rfl rfl rfl ?_
        obtain ⟨b81, h55⟩ := gd_some h55
        refine RegV.p1 (v := (.d (.str (sl y55_1 (0 : Int) (IntKind.i64.wrap (r63 + a3)))))) rfl rfl b81 rfl rfl ?_
        refine RegV.p0 rfl rfl rfl ?_
        refine RegV.nil0 ?_
        refine AWc.seq ?_
        refine AWc.seq ?_
        refine AWc.rg hmix rfl rfl ?_
        refine RegV.p0 rfl rfl rfl ?_
        refine RegV.p0 rfl rfl rfl ?_
        obtain ⟨or89, e89, h55⟩ := bind_some h55
        rcases or89 with r89 | r89
        · dsimp only at h55
          refine RegV.yield (H' := [(0, (.lp 13 [(2, (.ptr 1 0))] [9] asg0 bd0 .done (some .ret))), (1, (.cells [(.d (.bool false))])), (4, (.cells [(.d (.int .i64 a3))])), (3, (.cells [(.d (.str y55_1))])), (2, (.cells [(.d (.str a1))]))]) (c' := 5) (show ARound P 0 [(.d (.str (sl y55_1 (0 : Int) (IntKind.i64.wrap (r63 + a3)))))] [(0, (.lp 13 [(2, (.ptr 1 0))] [9] asg0 bd0 .ready none)), (1, (.cells [(.d (.bool a0))]))] (.d (.bool false)) [(0, (.lp 13 [(2, (.ptr 1 0))] [9] asg0 bd0 .done (some .ret))), (1, (.cells [(.d (.bool false))]))] from ARound.use (B332_26_0 hmix hc.2.2 ha0 hb0 e89) [(0, 0), (1, 1)] 2 rfl) rfl rfl rfl (.cons (.refl _) .nil) rfl (hasCons rfl (hasCons rfl hasNil)) rfl rfl rfl rfl ?_
          refine RegV.p0 (v := (.d (.bool true))) rfl rfl rfl ?_
          refine RegV.nil0 ?_
          refine AWc.cond rfl (fun _ => ?_) (fun hc => by cases hc)
          cases h55
          dsimp only at h
          cases h
        · dsimp only at h55
          refine RegV.yield (H' := [(0, (.lp 13 [(2, (.ptr 1 0))] [9] asg0 bd0 .ready none)), (1, (.cells [(.d (.bool a0))])), (4, (.cells [(.d (.int .i64 a3))])), (3, (.cells [(.d (.str y55_1))])), (2, (.cells [(.d (.str a1))]))]) (c' := 5) (show ARound P 0 [(.d (.str (sl y55_1 (0 : Int) (IntKind.i64.wrap (r63 + a3)))))] [(0, (.lp 13 [(2, (.ptr 1 0))] [9] asg0 bd0 .ready none)), (1, (.cells [(.d (.bool a0))]))] (.d (.bool true)) [(0, (.lp 13 [(2, (.ptr 1 0))] [9] asg0 bd0 .ready none)), (1, (.cells [(.d (.bool a0))]))] from ARound.use (B332_26_1 hmix hc.2.2 ha0 hb0 e89) [(0, 0), (1, 1)] 2 rfl) rfl rfl rfl (.cons (.refl _) .nil) rfl (hasCons rfl (hasCons rfl hasNil)) rfl rfl rfl rfl ?_
          refine RegV.p0 (v := (.d (.bool false))) rfl rfl rfl ?_
          refine RegV.nil0 ?_
          refine AWc.cond rfl (fun hc => by cases hc) (fun _ => ?_)
          refine AWc.skip ?_
          refine AWc.rg hmix rfl rfl ?_
          refine RegV.ld (v := (.d (.str y55_1))) (H' := [(3, (.cells [(.d (.str y55_1))])), (0, (.lp 13 [(2, (.ptr 1 0))] [9] asg0 bd0 .ready none)), (1, (.cells [(.d (.bool a0))])), (4, (.cells [(.d (.int .i64 a3))])), (2, (.cells [(.d (.str a1))]))]) rfl rfl trivial rfl rfl rfl rfl rfl ?_
          refine RegV.p0 rfl rfl rfl ?_
          refine RegV.ld (v := (.d (.str a1))) (H' := [(2, (.cells [(.d (.str a1))])), (3, (.cells [(.d (.str y55_1))])), (0, (.lp 13 [(2, (.ptr 1 0))] [9] asg0 bd0 .ready none)), (1, (.cells [(.d (.bool a0))])), (4, (.cells [(.d (.int .i64 a3))]))]) rfl rfl trivial rfl rfl rfl rfl rfl ?_
          refine RegV.p0 (v := (.d (.int .i64 ((a1.length : Nat) : Int)))) rfl rfl rfl ?_
          refine RegV.p0 (v := (.d (.int .i64 (IntKind.i64.wrap (r63 + ((a1.length : Nat) : Int)))))) rfl rfl rfl ?_
          obtain ⟨b101, h55⟩ := gd_some h55
          refine RegV.p1 (v := (.d (.str (sl y55_1 (IntKind.i64.wrap (r63 + ((a1.length : Nat) : Int))) ((y55_1.length : Nat) : Int))))) rfl rfl b101 rfl rfl ?_
          refine RegV.evN (own := false) (H' := [(3, (.cells [(.d (.str (sl y55_1 (IntKind.i64.wrap (r63 + ((a1.length : Nat) : Int))) ((y55_1.length : Nat) : Int))))])), (2, (.cells [(.d (.str a1))])), (0, (.lp 13 [(2, (.ptr 1 0))] [9] asg0 bd0 .ready none)), (1, (.cells [(.d (.bool a0))])), (4, (.cells [(.d (.int .i64 a3))]))]) (c' := 5) rfl rfl (by exact ⟨rfl, Nat.le_of_ble_eq_true rfl, rfl⟩) rfl rfl rfl rfl ?_
          refine RegV.nil0 ?_
          exact ⟨(sl y55_1 (IntKind.i64.wrap (r63 + ((a1.length : Nat) : Int))) ((y55_1.length : Nat) : Int)), h55, ⟨rfl, [], [], rfl, rfl, ⟨⟨_, rfl, (.refl _)⟩, rfl, ⟨⟨_, rfl, (.refl _)⟩, rfl, ⟨⟨_, rfl, (.refl _)⟩, rfl, ⟨⟨_, rfl, (.refl _)⟩, rfl, trivial⟩⟩⟩⟩, ⟨⟨_, rfl, (.refl _)⟩, rfl, rfl, ⟨⟨_, rfl, (.refl _)⟩, rfl, rfl, ⟨⟨_, rfl, (.refl _)⟩, rfl, rfl, ⟨⟨_, rfl, (.refl _)⟩, rfl, rfl, ⟨⟨_, rfl, (.refl _)⟩, rfl, rfl, trivial⟩⟩⟩⟩⟩⟩⟩
    · intro x55_1 ho
      subst ho
      dsimp only at h
      refine AWc.rg hmix rfl rfl ?_
      refine RegV.p0 rfl rfl rfl ?_
      refine RegV.ld (v := (.d (.str x55_1))) (H' := [(3, (.cells [(.d (.str x55_1))])), (0, (.lp 13 [(2, (.ptr 1 0))] [9] asg0 bd0 .ready none)), (1, (.cells [(.d (.bool a0))])), (2, (.cells [(.d (.str a1))])), (4, (.cells [(.d (.int .i64 a3))]))]) rfl rfl trivial rfl rfl rfl rfl rfl ?_
      obtain ⟨or107, e107, h⟩ := bind_some h
      rcases or107 with r107 | r107
      · dsimp only at h
        refine RegV.yield (H' := [(0, (.lp 13 [(2, (.ptr 1 0))] [9] asg0 bd0 .done (some .ret))), (1, (.cells [(.d (.bool false))])), (3, (.cells [(.d (.str x55_1))])), (2, (.cells [(.d (.str a1))])), (4, (.cells [(.d (.int .i64 a3))]))]) (c' := 5) (show ARound P 0 [(.d (.str x55_1))] [(0, (.lp 13 [(2, (.ptr 1 0))] [9] asg0 bd0 .ready none)), (1, (.cells [(.d (.bool a0))]))] (.d (.bool false)) [(0, (.lp 13 [(2, (.ptr 1 0))] [9] asg0 bd0 .done (some .ret))), (1, (.cells [(.d (.bool false))]))] from ARound.use (B332_26_0 hmix hc.2.2 ha0 hb0 e107) [(0, 0), (1, 1)] 2 rfl) rfl rfl rfl (.cons (.refl _) .nil) rfl (hasCons rfl (hasCons rfl hasNil)) rfl rfl rfl rfl ?_
        refine RegV.nil0 ?_
        cases h
      · dsimp only at h
        refine RegV.yield (H' := [(0, (.lp 13 [(2, (.ptr 1 0))] [9] asg0 bd0 .ready none)), (1, (.cells [(.d (.bool a0))])), (3, (.cells [(.d (.str x55_1))])), (2, (.cells [(.d (.str a1))])), (4, (.cells [(.d (.int .i64 a3))]))]) (c' := 5) (show ARound P 0 [(.d (.str x55_1))] [(0, (.lp 13 [(2, (.ptr 1 0))] [9] asg0 bd0 .ready none)), (1, (.cells [(.d (.bool a0))]))] (.d (.bool true)) [(0, (.lp 13 [(2, (.ptr 1 0))] [9] asg0 bd0 .ready none)), (1, (.cells [(.d (.bool a0))]))] from ARound.use (B332_26_1 hmix hc.2.2 ha0 hb0 e107) [(0, 0), (1, 1)] 2 rfl) rfl rfl rfl (.cons (.refl _) .nil) rfl (hasCons rfl (hasCons rfl hasNil)) rfl rfl rfl rfl ?_
        refine RegV.nil0 ?_
        have hr := Option.some.inj h
        have hr := Sum.inl.inj hr
        subst hr
        exact canQ (N := 52) (k := 5) (l' := []) (H' := [(0, (.lp 13 [(2, (.ptr 1 0))] [9] asg0 bd0 .ready none)), (1, (.cells [(.d (.bool a0))])), (2, (.cells [(.d (.str a1))])), (3, (.cells [(.d (.str x55_1))])), (4, (.cells [(.d (.int .i64 a3))]))]) rfl ⟨rfl, [], [], rfl, rfl,  trivial, ⟨⟨_, rfl, (.refl _)⟩, rfl, rfl, ⟨⟨_, rfl, (.refl _)⟩, rfl, rfl, ⟨⟨_, rfl, (.refl _)⟩, rfl, rfl, ⟨⟨_, rfl, (.refl _)⟩, rfl, rfl, ⟨⟨_, rfl, (.refl _)⟩, rfl, rfl, trivial⟩⟩⟩⟩⟩⟩ (doneA (.inl rfl) rfl trivial (.refl _) (hasCons rfl (hasCons rfl (hasCons rfl (hasCons rfl (hasCons rfl hasNil))))))
theorem F335_1 {P : Program} {N : Nat → Nat} (hmix : P.follows .mixedOrders = true) (hc : HC335 P N) {asg0 bd0 : Code} (ha0 : compCode P asg0 = L332_0a N) (hb0 : compCode P bd0 = L332_0b N) {k : Nat} {a0 : Bool} {a1 : (List UInt8)} {a2 : (List UInt8)} {a3 : Int} {r : (List UInt8)} (h : f335 k a0 a1 a2 a3 = some (.inr r)) :
    ACalls P (N 335) [(.lf 0), (.ptr 2 0), (.ptr 3 0), (.ptr 4 0)] [(0, (.lp 13 [(2, (.ptr 1 0))] [9] asg0 bd0 .ready none)), (1, (.cells [(.d (.bool a0))])), (2, (.cells [(.d (.str a1))])), (3, (.cells [(.d (.str a2))])), (4, (.cells [(.d (.int .i64 a3))]))] (.tup []) [(0, (.lp 13 [(2, (.ptr 1 0))] [9] asg0 bd0 .done (some .ret))), (1, (.cells [(.d (.bool false))])), (2, (.cells [(.d (.str a1))])), (3, (.cells [(.d (.str r))])), (4, (.cells [(.d (.int .i64 a3))]))] := by
  refine acalls_canon (F := C335 N) hc.1 5 5 rfl ?_
  unfold f335 at h
  dsimp only [C335, startL]
  refine AWc.seq ?_
  refine AWc.seq ?_
  refine AWc.rg hmix rfl rfl ?_
  refine RegV.ld (v := (.d (.str a1))) (H' := [(2, (.cells [(.d (.str a1))])), (0, (.lp 13 [(2, (.ptr 1 0))] [9] asg0 bd0 .ready none)), (1, (.cells [(.d (.bool a0))])), (3, (.cells [(.d (.str a2))])), (4, (.cells [(.d (.int .i64 a3))]))]) rfl rfl trivial rfl rfl rfl rfl rfl ?_
  refine RegV.p0 (v := (.d (.int .i64 ((a1.length : Nat) : Int)))) rfl rfl rfl ?_
  refine RegV.p0 (v := (.d (.bool (decide (((a1.length : Nat) : Int) = (0 : Int)))))) rfl rfl rfl ?_
  refine RegV.nil0 ?_
  refine AWc.cond rfl (fun c8 => ?_) (fun c8 => ?_)
  · have h := cond_pos c8 h
    obtain ⟨o10, h10, h⟩ := bind_some h
    refine AWc.seqS (N := 52) 5 (fun (z : Unit) => []) (fun z => [(0, (.lp 13 [(2, (.ptr 1 0))] [9] asg0 bd0 .ready none)), (1, (.cells [(.d (.bool a0))])), (2, (.cells [(.d (.str a1))])), (3, (.cells [(.d (.str a2))])), (4, (.cells [(.d (.int .i64 a3))]))]) (fun z => o10 = .b0 z) rfl_le ?_ ?_
    · refine AWc.block ?_
      refine AWc.loopK (N := 52) 5 (fun (x : Unit) => [(0, (.lf 0)), (2, (.ptr 3 0))]) (fun x => [(0, (.lp 13 [(2, (.ptr 1 0))] [9] asg0 bd0 .ready none)), (3, (.cells [(.d (.str a2))])), (1, (.cells [(.d (.bool a0))])), (2, (.cells [(.d (.str a1))])), (4, (.cells [(.d (.int .i64 a3))]))]) (fun k x => f335_l10 a2 k = some o10) k () rfl_le (fun x hx => by cases hx) h10 ⟨rfl, [], [], rfl, rfl, ⟨⟨_, rfl, (.refl _)⟩, rfl, ⟨⟨_, rfl, (.refl _)⟩, rfl, trivial⟩⟩, ⟨⟨_, rfl, (.refl _)⟩, rfl, rfl, ⟨⟨_, rfl, (.refl _)⟩, rfl, rfl, ⟨⟨_, rfl, (.refl _)⟩, rfl, rfl, ⟨⟨_, rfl, (.refl _)⟩, rfl, rfl, ⟨⟨_, rfl, (.refl _)⟩, rfl, rfl, trivial⟩⟩⟩⟩⟩⟩ ?_
      clear h10
      intro k
      rintro ⟨⟩ h10
      rw [f335_l10] at h10
      refine AWc.seq ?_
      refine AWc.seq ?_
      refine AWc.rg hmix rfl rfl ?_
      refine RegV.ld (v := (.d (.str a2))) (H' := [(3, (.cells [(.d (.str a2))])), (0, (.lp 13 [(2, (.ptr 1 0))] [9] asg0 bd0 .ready none)), (1, (.cells [(.d (.bool a0))])), (2, (.cells [(.d (.str a1))])), (4, (.cells [(.d (.int .i64 a3))]))]) rfl rfl trivial rfl rfl rfl rfl rfl ?_
      refine RegV.p0 (v := (.d (.int .i64 ((a2.length : Nat) : Int)))) rfl rfl rfl ?_
      refine RegV.p0 (v := (.d (.bool (decide (((a2.length : Nat) : Int) > (0 : Int)))))) rfl rfl rfl ?_
      refine RegV.nil0 ?_
      refine AWc.cond rfl (fun c19 => ?_) (fun c19 => ?_)
      · have h10 := cond_pos c19 h10
        refine AWc.skip ?_
        refine AWc.block ?_
        refine AWc.seq ?_
        refine AWc.rg hmix rfl rfl ?_
        refine RegV.ld (v := (.d (.str a2))) (H' := [(3, (.cells [(.d (.str a2))])), (0, (.lp 13 [(2, (.ptr 1 0))] [9] asg0 bd0 .ready none)), (1, (.cells [(.d (.bool a0))])), (2, (.cells [(.d (.str a1))])), (4, (.cells [(.d (.int .i64 a3))]))]) rfl rfl trivial rfl rfl rfl rfl rfl ?_
        cases h10
      · have h10 := cond_neg c19 h10
        cases h10
        dsimp only at h
        refine AWc.exit ?_
        refine inBlk_eq ?_
        exact ⟨(), rfl, ⟨rfl, [], [], rfl, rfl,  trivial, ⟨⟨_, rfl, (.refl _)⟩, rfl, rfl, ⟨⟨_, rfl, (.refl _)⟩, rfl, rfl, ⟨⟨_, rfl, (.refl _)⟩, rfl, rfl, ⟨⟨_, rfl, (.refl _)⟩, rfl, rfl, ⟨⟨_, rfl, (.refl _)⟩, rfl, rfl, trivial⟩⟩⟩⟩⟩⟩⟩
    · rintro ⟨⟩ ho
      subst ho
      dsimp only at h
      cases h
  · have h := cond_neg c8 h
    refine AWc.skip ?_
    obtain ⟨o55, h55, h⟩ := bind_some h
    refine AWc.seqS (N := 52) 5 (fun (z : (List UInt8)) => [(0, (.lf 0)), (2, (.ptr 3 0))]) (fun z => [(0, (.lp 13 [(2, (.ptr 1 0))] [9] asg0 bd0 .ready none)), (3, (.cells [(.d (.str z))])), (1, (.cells [(.d (.bool a0))])), (2, (.cells [(.d (.str a1))])), (4, (.cells [(.d (.int .i64 a3))]))]) (fun z => o55 = .b0 z) rfl_le ?_ ?_
    · refine AWc.block ?_
      refine AWc.loopK (N := 52) 5 (fun (x : (List UInt8)) => [(0, (.lf 0)), (1, (.ptr 2 0)), (2, (.ptr 3 0)), (3, (.ptr 4 0))]) (fun x => [(0, (.lp 13 [(2, (.ptr 1 0))] [9] asg0 bd0 .ready none)), (2, (.cells [(.d (.str a1))])), (3, (.cells [(.d (.str x))])), (4, (.cells [(.d (.int .i64 a3))])), (1, (.cells [(.d (.bool a0))]))]) (fun k x => f335_l55 a1 a3 a0 k x = some o55) k a2 rfl_le (fun x hx => by cases hx) h55 ⟨rfl, [], [], rfl, rfl, ⟨⟨_, rfl, (.refl _)⟩, rfl, ⟨⟨_, rfl, (.refl _)⟩, rfl, ⟨⟨_, rfl, (.refl _)⟩, rfl, ⟨⟨_, rfl, (.refl _)⟩, rfl, trivial⟩⟩⟩⟩, ⟨⟨_, rfl, (.refl _)⟩, rfl, rfl, ⟨⟨_, rfl, (.refl _)⟩, rfl, rfl, ⟨⟨_, rfl, (.refl _)⟩, rfl, rfl, ⟨⟨_, rfl, (.refl _)⟩, rfl, rfl, ⟨⟨_, rfl, (.refl _)⟩, rfl, rfl, trivial⟩⟩⟩⟩⟩⟩ ?_
      clear h55
      intro k
      intro y55_1 h55
      rw [f335_l55] at h55
      refine AWc.block ?_
      refine AWc.seq ?_
      refine AWc.rg hmix rfl rfl ?_
      refine RegV.ld (v := (.d (.str y55_1))) (H' := [(3, (.cells [(.d (.str y55_1))])), (0, (.lp 13 [(2, (.ptr 1 0))] [9] asg0 bd0 .ready none)), (2, (.cells [(.d (.str a1))])), (4, (.cells [(.d (.int .i64 a3))])), (1, (.cells [(.d (.bool a0))]))]) rfl rfl trivial rfl rfl rfl rfl rfl ?_
      refine RegV.ld (v := (.d (.str a1))) (H' := [(2, (.cells [(.d (.str a1))])), (3, (.cells [(.d (.str y55_1))])), (0, (.lp 13 [(2, (.ptr 1 0))] [9] asg0 bd0 .ready none)), (4, (.cells [(.d (.int .i64 a3))])), (1, (.cells [(.d (.bool a0))]))]) rfl rfl trivial rfl rfl rfl rfl rfl ?_
      obtain ⟨r63, e63, h55⟩ := bind_some h55
      refine RegV.call0 (F322 hmix hc.2.1 e63) rfl rfl rfl rfl (.cons (.refl _) (.cons (.refl _) .nil)) rfl ?_
      refine RegV.p0 rfl rfl rfl ?_
      refine RegV.nil0 ?_
      refine AWc.seq ?_
      refine AWc.seq ?_
      refine AWc.rg hmix rfl rfl ?_
      refine RegV.p0 rfl rfl rfl ?_
      refine RegV.p0 (v := (.d (.bool (decide (r63 < (0 : Int)))))) rfl rfl rfl ?_
      refine RegV.nil0 ?_
      refine AWc.cond rfl (fun c71 => ?_) (fun c71 => ?_)
      · have h55 := cond_pos c71 h55
        cases h55
        dsimp only at h
        refine AWc.exit ?_
        refine inBlk_ne rfl ?_
        refine inBlk_eq ?_
        exact ⟨y55_1, rfl, ⟨rfl, [], [], rfl, rfl, ⟨⟨_, rfl, (.refl _)⟩, rfl, ⟨⟨_, rfl, (.refl _)⟩, rfl, trivial⟩⟩, ⟨⟨_, rfl, (.refl _)⟩, rfl, rfl, ⟨⟨_, rfl, (.refl _)⟩, rfl, rfl, ⟨⟨_, rfl, (.refl _)⟩, rfl, rfl, ⟨⟨_, rfl, (.refl _)⟩, rfl, rfl, ⟨⟨_, rfl, (.refl _)⟩, rfl, rfl, trivial⟩⟩⟩⟩⟩⟩⟩
      · have h55 := cond_neg c71 h55
        refine AWc.skip ?_
        refine AWc.seq ?_
        refine AWc.rg hmix rfl rfl ?_
        refine RegV.ld (v := (.d (.str y55_1))) (H' := [(3, (.cells [(.d (.str y55_1))])), (2, (.cells [(.d (.str a1))])), (0, (.lp 13 [(2, (.ptr 1 0))] [9] asg0 bd0 .ready none)), (4, (.cells [(.d (.int .i64 a3))])), (1, (.cells [(.d (.bool a0))]))]) rfl rfl trivial rfl rfl rfl rfl rfl ?_
        refine RegV.p0 rfl rfl rfl ?_
        refine RegV.ld (v := (.d (.int .i64 a3))) (H' := [(4, (.cells [(.d (.int .i64 a3))])), (3, (.cells [(.d (.str y55_1))])), (2, (.cells [(.d (.str a1))])), (0, (.lp 13 [(2, (.ptr 1 0))] [9] asg0 bd0 .ready none)), (1, (.cells [(.d (.bool a0))]))]) rfl rfl trivial rfl rfl rfl rfl rfl ?_
        refine RegV.p0 (v := (.d (.int .i64 (IntKind.i64.wrap (r63 + a3))))) rfl rfl rfl ?_
        obtain ⟨b81, h55⟩ := gd_some h55
        refine RegV.p1 (v := (.d (.str (sl y55_1 (0 : Int) (IntKind.i64.wrap (r63 + a3)))))) rfl rfl b81 rfl rfl ?_
        refine RegV.p0 rfl rfl rfl ?_
        refine RegV.nil0 ?_
        refine AWc.seq ?_
        refine AWc.seq ?_
        refine AWc.rg hmix rfl rfl ?_
        refine RegV.p0 rfl rfl rfl ?_
        refine RegV.p0 rfl rfl rfl ?_
        obtain ⟨or89, e89, h55⟩ := bind_some h55
        rcases or89 with r89 | r89
        · dsimp only at h55
          refine RegV.yield (H' := [(0, (.lp 13 [(2, (.ptr 1 0))] [9] asg0 bd0 .done (some .ret))), (1, (.cells [(.d (.bool false))])), (4, (.cells [(.d (.int .i64 a3))])), (3, (.cells [(.d (.str y55_1))])), (2, (.cells [(.d (.str a1))]))]) (c' := 5) (show ARound P 0 [(.d (.str (sl y55_1 (0 : Int) (IntKind.i64.wrap (r63 + a3)))))] [(0, (.lp 13 [(2, (.ptr 1 0))] [9] asg0 bd0 .ready none)), (1, (.cells [(.d (.bool a0))]))] (.d (.bool false)) [(0, (.lp 13 [(2, (.ptr 1 0))] [9] asg0 bd0 .done (some .ret))), (1, (.cells [(.d (.bool false))]))] from ARound.use (B332_26_0 hmix hc.2.2 ha0 hb0 e89) [(0, 0), (1, 1)] 2 rfl) rfl rfl rfl (.cons (.refl _) .nil) rfl (hasCons rfl (hasCons rfl hasNil)) rfl rfl rfl rfl ?_
          refine RegV.p0 (v := (.d (.bool true))) rfl rfl rfl ?_
          refine RegV.nil0 ?_
          refine AWc.cond rfl (fun _ => ?_) (fun hc => by cases hc)
          cases h55
          dsimp only at h
          have hr := Option.some.inj h
          have hr := Sum.inr.inj hr
          subst hr
          exact AWc.ret (canQ (N := 52) (k := 5) (l' := []) (H' := [(0, (.lp 13 [(2, (.ptr 1 0))] [9] asg0 bd0 .done (some .ret))), (1, (.cells [(.d (.bool false))])), (2, (.cells [(.d (.str a1))])), (3, (.cells [(.d (.str y55_1))])), (4, (.cells [(.d (.int .i64 a3))]))]) rfl ⟨rfl, [], [], rfl, rfl,  trivial, ⟨⟨_, rfl, (.refl _)⟩, rfl, rfl, ⟨⟨_, rfl, (.refl _)⟩, rfl, rfl, ⟨⟨_, rfl, (.refl _)⟩, rfl, rfl, ⟨⟨_, rfl, (.refl _)⟩, rfl, rfl, ⟨⟨_, rfl, (.refl _)⟩, rfl, rfl, trivial⟩⟩⟩⟩⟩⟩ (doneA (.inr rfl) rfl trivial (.refl _) (hasCons rfl (hasCons rfl (hasCons rfl (hasCons rfl (hasCons rfl hasNil)))))))
        · dsimp only at h55
          refine RegV.yield (H' := [(0, (.lp 13 [(2, (.ptr 1 0))] [9] asg0 bd0 .ready none)), (1, (.cells [(.d (.bool a0))])), (4, (.cells [(.d (.int .i64 a3))])), (3, (.cells [(.d (.str y55_1))])), (2, (.cells [(.d (.str a1))]))]) (c' := 5) (show ARound P 0 [(.d (.str (sl y55_1 (0 : Int) (IntKind.i64.wrap (r63 + a3)))))] [(0, (.lp 13 [(2, (.ptr 1 0))] [9] asg0 bd0 .ready none)), (1, (.cells [(.d (.bool a0))]))] (.d (.bool true)) [(0, (.lp 13 [(2, (.ptr 1 0))] [9] asg0 bd0 .ready none)), (1, (.cells [(.d (.bool a0))]))] from ARound.use (B332_26_1 hmix hc.2.2 ha0 hb0 e89) [(0, 0), (1, 1)] 2 rfl) rfl rfl rfl (.cons (.refl _) .nil) rfl (hasCons rfl (hasCons rfl hasNil)) rfl rfl rfl rfl ?_
          refine RegV.p0 (v := (.d (.bool false))) rfl rfl rfl ?_
          refine RegV.nil0 ?_
          refine AWc.cond rfl (fun hc => by cases hc) (fun _ => ?_)
          refine AWc.skip ?_
          refine AWc.rg hmix rfl rfl ?_
          refine RegV.ld (v := (.d (.str y55_1))) (H' := [(3, (.cells [(.d (.str y55_1))])), (0, (.lp 13 [(2, (.ptr 1 0))] [9] asg0 bd0 .ready none)), (1, (.cells [(.d (.bool a0))])), (4, (.cells [(.d (.int .i64 a3))])), (2, (.cells [(.d (.str a1))]))]) rfl rfl trivial rfl rfl rfl rfl rfl ?_
          refine RegV.p0 rfl rfl rfl ?_
          refine RegV.ld (v := (.d (.str a1))) (H' := [(2, (.cells [(.d (.str a1))])), (3, (.cells [(.d (.str y55_1))])), (0, (.lp 13 [(2, (.ptr 1 0))] [9] asg0 bd0 .ready none)), (1, (.cells [(.d (.bool a0))])), (4, (.cells [(.d (.int .i64 a3))]))]) rfl rfl trivial rfl rfl rfl rfl rfl ?_
          refine RegV.p0 (v := (.d (.int .i64 ((a1.length : Nat) : Int)))) rfl rfl rfl ?_
          refine RegV.p0 (v := (.d (.int .i64 (IntKind.i64.wrap (r63 + ((a1.length : Nat) : Int)))))) rfl rfl rfl ?_
          obtain ⟨b101, h55⟩ := gd_some h55
          refine RegV.p1 (v := (.d (.str (sl y55_1 (IntKind.i64.wrap (r63 + ((a1.length : Nat) : Int))) ((y55_1.length : Nat) : Int))))) rfl rfl b101 rfl rfl ?_
          refine RegV.evN (own := false) (H' := [(3, (.cells [(.d (.str (sl y55_1 (IntKind.i64.wrap (r63 + ((a1.length : Nat) : Int))) ((y55_1.length : Nat) : Int))))])), (2, (.cells [(.d (.str a1))])), (0, (.lp 13 [(2, (.ptr 1 0))] [9] asg0 bd0 .ready none)), (1, (.cells [(.d (.bool a0))])), (4, (.cells [(.d (.int .i64 a3))]))]) (c' := 5) rfl rfl (by exact ⟨rfl, Nat.le_of_ble_eq_true rfl, rfl⟩) rfl rfl rfl rfl ?_
          refine RegV.nil0 ?_
          exact ⟨(sl y55_1 (IntKind.i64.wrap (r63 + ((a1.length : Nat) : Int))) ((y55_1.length : Nat) : Int)), h55, ⟨rfl, [], [], rfl, rfl, ⟨⟨_, rfl, (.refl _)⟩, rfl, ⟨⟨_, rfl, (.refl _)⟩, rfl, ⟨⟨_, rfl, (.refl _)⟩, rfl, ⟨⟨_, rfl, (.refl _)⟩, rfl, trivial⟩⟩⟩⟩, ⟨⟨_, rfl, (.refl _)⟩, rfl, rfl, ⟨⟨_, rfl, (.refl _)⟩, rfl, rfl, ⟨⟨_, rfl, (.refl _)⟩, rfl, rfl, ⟨⟨_, rfl, (.refl _)⟩, rfl, rfl, ⟨⟨_, rfl, (.refl _)⟩, rfl, rfl, trivial⟩⟩⟩⟩⟩⟩⟩
    · intro x55_1 ho
      subst ho
      dsimp only at h
      refine AWc.rg hmix rfl rfl ?_
      refine RegV.p0 rfl rfl rfl ?_
      refine RegV.ld (v := (.d (.str x55_1))) (H' := [(3, (.cells [(.d (.str x55_1))])), (0, (.lp 13 [(2, (.ptr 1 0))] [9] asg0 bd0 .ready none)), (1, (.cells [(.d (.bool a0))])), (2, (.cells [(.d (.str a1))])), (4, (.cells [(.d (.int .i64 a3))]))]) rfl rfl trivial rfl rfl rfl rfl rfl ?_
      obtain ⟨or107, e107, h⟩ := bind_some h
      rcases or107 with r107 | r107
      · dsimp only at h
        refine RegV.yield (H' := [(0, (.lp 13 [(2, (.ptr 1 0))] [9] asg0 bd0 .done (some .ret))), (1, (.cells [(.d (.bool false))])), (3, (.cells [(.d (.str x55_1))])), (2, (.cells [(.d (.str a1))])), (4, (.cells [(.d (.int .i64 a3))]))]) (c' := 5) (show ARound P 0 [(.d (.str x55_1))] [(0, (.lp 13 [(2, (.ptr 1 0))] [9] asg0 bd0 .ready none)), (1, (.cells [(.d (.bool a0))]))] (.d (.bool false)) [(0, (.lp 13 [(2, (.ptr 1 0))] [9] asg0 bd0 .done (some .ret))), (1, (.cells [(.d (.bool false))]))] from ARound.use (B332_26_0 hmix hc.2.2 ha0 hb0 e107) [(0, 0), (1, 1)] 2 rfl) rfl rfl rfl (.cons (.refl _) .nil) rfl (hasCons rfl (hasCons rfl hasNil)) rfl rfl rfl rfl ?_
        refine RegV.nil0 ?_
        have hr := Option.some.inj h
        have hr := Sum.inr.inj hr
        subst hr
        exact canQ (N := 52) (k := 5) (l' := []) (H' := [(0, (.lp 13 [(2, (.ptr 1 0))] [9] asg0 bd0 .done (some .ret))), (1, (.cells [(.d (.bool false))])), (2, (.cells [(.d (.str a1))])), (3, (.cells [(.d (.str x55_1))])), (4, (.cells [(.d (.int .i64 a3))]))]) rfl ⟨rfl, [], [], rfl, rfl,  trivial, ⟨⟨_, rfl, (.refl _)⟩, rfl, rfl, ⟨⟨_, rfl, (.refl _)⟩, rfl, rfl, ⟨⟨_, rfl, (.refl _)⟩, rfl, rfl, ⟨⟨_, rfl, (.refl _)⟩, rfl, rfl, ⟨⟨_, rfl, (.refl _)⟩, rfl, rfl, trivial⟩⟩⟩⟩⟩⟩ (doneA (.inl rfl) rfl trivial (.refl _) (hasCons rfl (hasCons rfl (hasCons rfl (hasCons rfl (hasCons rfl hasNil))))))
      · dsimp only at h
        refine RegV.yield (H' := [(0, (.lp 13 [(2, (.ptr 1 0))] [9] asg0 bd0 .ready none)), (1, (.cells [(.d (.bool a0))])), (3, (.cells [(.d (.str x55_1))])), (2, (.cells [(.d (.str a1))])), (4, (.cells [(.d (.int .i64 a3))]))]) (c' := 5) (show ARound P 0 [(.d (.str x55_1))] [(0, (.lp 13 [(2, (.ptr 1 0))] [9] asg0 bd0 .ready none)), (1, (.cells [(.d (.bool a0))]))] (.d (.bool true)) [(0, (.lp 13 [(2, (.ptr 1 0))] [9] asg0 bd0 .ready none)), (1, (.cells [(.d (.bool a0))]))] from ARound.use (B332_26_1 hmix hc.2.2 ha0 hb0 e107) [(0, 0), (1, 1)] 2 rfl) rfl rfl rfl (.cons (.refl _) .nil) rfl (hasCons rfl (hasCons rfl hasNil)) rfl rfl rfl rfl ?_
        refine RegV.nil0 ?_
        cases h
def HC332 (P : Program) (N : Nat → Nat) : Prop := HasF P (N 332) (C332 N) ∧ HC333 P N ∧ HC335 P N
def f332 (k : Nat) (a0 : (List UInt8)) : Option Bool := cond (decide (((a0.length : Nat) : Int) > (100 : Int))) (some false) ((f333 k a0 ([46] : List UInt8)).bind fun r24 => (f335 k false ([46] : List UInt8) a0 (0 : Int)).bind fun orf26 => (match orf26 with | .inl rf26 => some true | .inr rf26 => some false))
theorem F332 {P : Program} {N : Nat → Nat} (hmix : P.follows .mixedOrders = true) (hc : HC332 P N) {k : Nat} {a0 : (List UInt8)} {r : Bool} (h : f332 k a0 = some r) :
    ACalls P (N 332) [(.d (.str a0))] [] (.d (.bool r)) [] := by
  refine acalls_canon (F := C332 N) hc.1 0 0 rfl ?_
  unfold f332 at h
  dsimp only [C332, startL]
  refine AWc.seq ?_
  refine AWc.rg hmix rfl rfl ?_
  refine RegV.evS (own := false) (v := (.ptr 0 0)) (H' := [(0, (.cells [(.d (.bool false))]))]) (c' := 1) rfl rfl trivial rfl rfl rfl rfl rfl rfl ?_
  refine RegV.nil0 ?_
  refine AWc.seq ?_
  refine AWc.seq ?_
  refine AWc.rg hmix rfl rfl ?_
  refine RegV.p0 rfl rfl rfl ?_
  refine RegV.p0 (v := (.d (.int .i64 ((a0.length : Nat) : Int)))) rfl rfl rfl ?_
  refine RegV.p0 (v := (.d (.bool (decide (((a0.length : Nat) : Int) > (100 : Int)))))) rfl rfl rfl ?_
  refine RegV.nil0 ?_
  refine AWc.cond rfl (fun c12 => ?_) (fun c12 => ?_)
  · have h := cond_pos c12 h
    refine AWc.seq ?_
    refine AWc.rg hmix rfl rfl ?_
    refine RegV.evN (own := false) (H' := [(0, (.cells [(.d (.bool false))]))]) (c' := 1) rfl rfl (by exact ⟨rfl, Nat.le_of_ble_eq_true rfl, rfl⟩) rfl rfl rfl rfl ?_
    refine RegV.nil0 ?_
    have hr := Option.some.inj h
    subst hr
    exact AWc.ret (canQ (N := 13) (k := 1) (l' := [(2, (.ptr 0 0))]) (H' := [(0, (.cells [(.d (.bool false))]))]) rfl ⟨rfl, [], [], rfl, rfl, ⟨⟨_, rfl, (.refl _)⟩, rfl, trivial⟩, ⟨⟨_, rfl, (.refl _)⟩, rfl, rfl, trivial⟩⟩ (doneA (.inr rfl) rfl ⟨trivial, trivial⟩ (.refl _) hasNil))
  · have h := cond_neg c12 h
    refine AWc.skip ?_
    refine AWc.seq ?_
    refine AWc.seq ?_
    refine AWc.rg hmix rfl rfl ?_
    refine RegV.p0 rfl rfl rfl ?_
    obtain ⟨r24, e24, h⟩ := bind_some h
    refine RegV.callS (q := false) (H' := [(1, (.cells [(.d (.str ([46] : List UInt8)))])), (2, (.cells [(.d (.str a0))])), (3, (.cells [(.d (.int .i64 (0 : Int)))])), (0, (.cells [(.d (.bool false))]))]) (c' := 4) (show ACalls P (N 333) [(.d (.str a0)), (.d (.str ([46] : List UInt8)))] [] (.fn (N 335) [(.ptr 1 0), (.ptr 2 0), (.ptr 3 0)]) [(1, (.cells [(.d (.str ([46] : List UInt8)))])), (2, (.cells [(.d (.str a0))])), (3, (.cells [(.d (.int .i64 (0 : Int)))]))] from ACalls.use (F333 hmix hc.2.1 e24) [(0, 1), (1, 2), (2, 3)] 3 rfl) rfl rfl rfl rfl (.cons (.refl _) (.cons (.refl _) .nil)) (.refl _) (fun h => by cases h) rfl hasNil rfl rfl rfl rfl ?_
    refine RegV.nil0 ?_
    refine AWc.block ?_
    refine AWc.rangeFunc [(2, (.ptr 0 0))] rfl rfl rfl rfl ⟨rfl, trivial⟩ (fun asgU26 bdU26 haU26 hbU26 => ?_)
    obtain ⟨orf26, ef26, h⟩ := bind_some h
    rcases orf26 with rf26 | rf26
    · dsimp only at h
      refine rfN (H' := [(0, (.cells [(.d (.bool false))])), (1, (.cells [(.d (.str ([46] : List UInt8)))])), (2, (.cells [(.d (.str rf26))])), (3, (.cells [(.d (.int .i64 (0 : Int)))]))]) (c' := 5) (show ACalls P (N 335) [(.lf 4), (.ptr 1 0), (.ptr 2 0), (.ptr 3 0)] [(4, (.lp 13 [(2, (.ptr 0 0))] [9] asgU26 bdU26 .ready none)), (0, (.cells [(.d (.bool false))])), (1, (.cells [(.d (.str ([46] : List UInt8)))])), (2, (.cells [(.d (.str a0))])), (3, (.cells [(.d (.int .i64 (0 : Int)))]))] (.tup []) [(4, (.lp 13 [(2, (.ptr 0 0))] [9] asgU26 bdU26 .ready none)), (0, (.cells [(.d (.bool false))])), (1, (.cells [(.d (.str ([46] : List UInt8)))])), (2, (.cells [(.d (.str rf26))])), (3, (.cells [(.d (.int .i64 (0 : Int)))]))] from ACalls.use (F335_0 hmix hc.2.2 haU26 hbU26 ef26) [(0, 4), (1, 0), (2, 1), (3, 2), (4, 3)] 5 rfl) (.cons (.refl _) (.cons (.refl _) (.cons (.refl _) (.cons (.refl _) .nil)))) (hasCons rfl (hasCons rfl (hasCons rfl (hasCons rfl (hasCons rfl hasNil))))) rfl rfl rfl rfl rfl ?_
      refine AWc.seq ?_
      refine AWc.rg hmix rfl rfl ?_
      refine RegV.evN (own := false) (H' := [(0, (.cells [(.d (.bool true))])), (1, (.cells [(.d (.str ([46] : List UInt8)))])), (2, (.cells [(.d (.str rf26))])), (3, (.cells [(.d (.int .i64 (0 : Int)))]))]) (c' := 5) rfl rfl (by exact ⟨rfl, Nat.le_of_ble_eq_true rfl, rfl⟩) rfl rfl rfl rfl ?_
      refine RegV.nil0 ?_
      have hr := Option.some.inj h
      subst hr
      exact AWc.ret (canQ (N := 13) (k := 1) (l' := [(2, (.ptr 0 0))]) (H' := [(0, (.cells [(.d (.bool true))]))]) rfl ⟨rfl, [], [], rfl, rfl, ⟨⟨_, rfl, (.refl _)⟩, rfl, trivial⟩, ⟨⟨_, rfl, (.refl _)⟩, rfl, rfl, trivial⟩⟩ (doneA (.inr rfl) rfl ⟨trivial, trivial⟩ (.refl _) hasNil))
    · dsimp only at h
      refine rfR (H' := [(0, (.cells [(.d (.bool false))])), (1, (.cells [(.d (.str ([46] : List UInt8)))])), (2, (.cells [(.d (.str rf26))])), (3, (.cells [(.d (.int .i64 (0 : Int)))]))]) (c' := 5) (show ACalls P (N 335) [(.lf 4), (.ptr 1 0), (.ptr 2 0), (.ptr 3 0)] [(4, (.lp 13 [(2, (.ptr 0 0))] [9] asgU26 bdU26 .ready none)), (0, (.cells [(.d (.bool false))])), (1, (.cells [(.d (.str ([46] : List UInt8)))])), (2, (.cells [(.d (.str a0))])), (3, (.cells [(.d (.int .i64 (0 : Int)))]))] (.tup []) [(4, (.lp 13 [(2, (.ptr 0 0))] [9] asgU26 bdU26 .done (some .ret))), (0, (.cells [(.d (.bool false))])), (1, (.cells [(.d (.str ([46] : List UInt8)))])), (2, (.cells [(.d (.str rf26))])), (3, (.cells [(.d (.int .i64 (0 : Int)))]))] from ACalls.use (F335_1 hmix hc.2.2 haU26 hbU26 ef26) [(0, 4), (1, 0), (2, 1), (3, 2), (4, 3)] 5 rfl) (.cons (.refl _) (.cons (.refl _) (.cons (.refl _) (.cons (.refl _) .nil)))) (hasCons rfl (hasCons rfl (hasCons rfl (hasCons rfl (hasCons rfl hasNil))))) rfl rfl rfl rfl rfl ?_
      have hr := Option.some.inj h
      subst hr
      exact canQ (N := 13) (k := 1) (l' := [(2, (.ptr 0 0))]) (H' := [(0, (.cells [(.d (.bool false))]))]) rfl ⟨rfl, [], [], rfl, rfl, ⟨⟨_, rfl, (.refl _)⟩, rfl, trivial⟩, ⟨⟨_, rfl, (.refl _)⟩, rfl, rfl, trivial⟩⟩ (doneA (.inr rfl) rfl ⟨trivial, trivial⟩ (.refl _) hasNil)
/-- courant/names.Primitive -/
def C337 (N : Nat → Nat) : AFunc := { n := 20, params := 1, res := [.tmp 2], body :=
 (.seq (.region false [⟨(some 2), .mv (.k (.d (.int .i64 0))), none, []⟩])
  (.seq (.seq (.region false [⟨(some 3), .mv (.t 0), none, []⟩])
    (.block 0 (.seq (.region false [⟨(some 5), .bin .eql (.t 3) (.k (.d (.str [110, 117, 108, 108]))), none, []⟩,
       ⟨(some 4), .mv (.t 5), none, [0]⟩])
      (.cond (.t 4) (.seq (.region false [⟨(some 2), .mv (.k (.d (.int .i64 1))), none, []⟩])
        .ret)
       (.seq (.region false [⟨(some 7), .bin .eql (.t 3) (.k (.d (.str [98, 111, 111, 108, 101, 97, 110]))), none, []⟩,
         ⟨(some 6), .mv (.t 7), none, [0]⟩])
        (.cond (.t 6) (.seq (.region false [⟨(some 2), .mv (.k (.d (.int .i64 2))), none, []⟩])
          .ret)
         (.seq (.region false [⟨(some 9), .bin .eql (.t 3) (.k (.d (.str [105, 110, 116]))), none, []⟩,
           ⟨(some 8), .mv (.t 9), none, [0]⟩])
          (.cond (.t 8) (.seq (.region false [⟨(some 2), .mv (.k (.d (.int .i64 3))), none, []⟩])
            .ret)
           (.seq (.region false [⟨(some 11), .bin .eql (.t 3) (.k (.d (.str [108, 111, 110, 103]))), none, []⟩,
             ⟨(some 10), .mv (.t 11), none, [0]⟩])
            (.cond (.t 10) (.seq (.region false [⟨(some 2), .mv (.k (.d (.int .i64 4))), none, []⟩])
              .ret)
             (.seq (.region false [⟨(some 13), .bin .eql (.t 3) (.k (.d (.str [102, 108, 111, 97, 116]))), none, []⟩,
               ⟨(some 12), .mv (.t 13), none, [0]⟩])
              (.cond (.t 12) (.seq (.region false [⟨(some 2), .mv (.k (.d (.int .i64 5))), none, []⟩])
                .ret)
               (.seq (.region false [⟨(some 15), .bin .eql (.t 3) (.k (.d (.str [100, 111, 117, 98, 108, 101]))), none, []⟩,
                 ⟨(some 14), .mv (.t 15), none, [0]⟩])
                (.cond (.t 14) (.seq (.region false [⟨(some 2), .mv (.k (.d (.int .i64 6))), none, []⟩])
                  .ret)
                 (.seq (.region false [⟨(some 17), .bin .eql (.t 3) (.k (.d (.str [98, 121, 116, 101, 115]))), none, []⟩,
                   ⟨(some 16), .mv (.t 17), none, [0]⟩])
                  (.cond (.t 16) (.seq (.region false [⟨(some 2), .mv (.k (.d (.int .i64 7))), none, []⟩])
                    .ret)
                   (.seq (.region false [⟨(some 19), .bin .eql (.t 3) (.k (.d (.str [115, 116, 114, 105, 110, 103]))), none, []⟩,
                     ⟨(some 18), .mv (.t 19), none, [0]⟩])
                    (.cond (.t 18) (.seq (.region false [⟨(some 2), .mv (.k (.d (.int .i64 8))), none, []⟩])
                      .ret)
                     (.skip)))))))))))))))))))
   (.seq (.region false [⟨(some 2), .mv (.k (.d (.int .i64 0))), none, []⟩])
    .ret))) }
def HC337 (P : Program) (N : Nat → Nat) : Prop := HasF P (N 337) (C337 N)
def f337 (k : Nat) (a0 : (List UInt8)) : Option Int := cond (decide (a0 = ([110, 117, 108, 108] : List UInt8))) (some (1 : Int)) (cond (decide (a0 = ([98, 111, 111, 108, 101, 97, 110] : List UInt8))) (some (2 : Int)) (cond (decide (a0 = ([105, 110, 116] : List UInt8))) (some (3 : Int)) (cond (decide (a0 = ([108, 111, 110, 103] : List UInt8))) (some (4 : Int)) (cond (decide (a0 = ([102, 108, 111, 97, 116] : List UInt8))) (some (5 : Int)) (cond (decide (a0 = ([100, 111, 117, 98, 108, 101] : List UInt8))) (some (6 : Int)) (cond (decide (a0 = ([98, 121, 116, 101, 115] : List UInt8))) (some (7 : Int)) (cond (decide (a0 = ([115, 116, 114, 105, 110, 103] : List UInt8))) (some (8 : Int)) (some (0 : Int)))))))))
theorem F337 {P : Program} {N : Nat → Nat} (hmix : P.follows .mixedOrders = true) (hc : HC337 P N) {k : Nat} {a0 : (List UInt8)} {r : Int} (h : f337 k a0 = some r) :
    ACalls P (N 337) [(.d (.str a0))] [] (.d (.int .i64 r)) [] := by
  refine acalls_canon (F := C337 N) hc 0 0 rfl ?_
  unfold f337 at h
  dsimp only [C337, startL]
  refine AWc.seq ?_
  refine AWc.rg hmix rfl rfl ?_
  refine RegV.p0 rfl rfl rfl ?_
  refine RegV.nil0 ?_
  refine AWc.seq ?_
  refine AWc.seq ?_
  refine AWc.rg hmix rfl rfl ?_
  refine RegV.p0 rfl rfl rfl ?_
  refine RegV.nil0 ?_
  refine AWc.block ?_
  refine AWc.seq ?_
  refine AWc.rg hmix rfl rfl ?_
  refine RegV.p0 (v := (.d (.bool (decide (a0 = ([110, 117, 108, 108] : List UInt8)))))) rfl rfl rfl ?_
  refine RegV.p0 rfl rfl rfl ?_
  refine RegV.nil0 ?_
  refine AWc.cond rfl (fun c16 => ?_) (fun c16 => ?_)
  · have h := cond_pos c16 h
    refine AWc.seq ?_
    refine AWc.rg hmix rfl rfl ?_
    refine RegV.p0 rfl rfl rfl ?_
    refine RegV.nil0 ?_
    have hr := Option.some.inj h
    subst hr
    exact AWc.ret (canQ (N := 20) (k := 0) (l' := [(2, (.d (.int .i64 (1 : Int))))]) (H' := []) rfl ⟨rfl, [], [], rfl, rfl, ⟨⟨_, rfl, (.refl _)⟩, rfl, trivial⟩,  trivial⟩ (doneA (.inr rfl) rfl ⟨trivial, trivial⟩ (.refl _) hasNil))
  · have h := cond_neg c16 h
    refine AWc.seq ?_
    refine AWc.rg hmix rfl rfl ?_
    refine RegV.p0 (v := (.d (.bool (decide (a0 = ([98, 111, 111, 108, 101, 97, 110] : List UInt8)))))) rfl rfl rfl ?_
    refine RegV.p0 rfl rfl rfl ?_
    refine RegV.nil0 ?_
    refine AWc.cond rfl (fun c27 => ?_) (fun c27 => ?_)
    · have h := cond_pos c27 h
      refine AWc.seq ?_
      refine AWc.rg hmix rfl rfl ?_
      refine RegV.p0 rfl rfl rfl ?_
      refine RegV.nil0 ?_
      have hr := Option.some.inj h
      subst hr
      exact AWc.ret (canQ (N := 20) (k := 0) (l' := [(2, (.d (.int .i64 (2 : Int))))]) (H' := []) rfl ⟨rfl, [], [], rfl, rfl, ⟨⟨_, rfl, (.refl _)⟩, rfl, trivial⟩,  trivial⟩ (doneA (.inr rfl) rfl ⟨trivial, trivial⟩ (.refl _) hasNil))
    · have h := cond_neg c27 h
      refine AWc.seq ?_
      refine AWc.rg hmix rfl rfl ?_
      refine RegV.p0 (v := (.d (.bool (decide (a0 = ([105, 110, 116] : List UInt8)))))) rfl rfl rfl ?_
      refine RegV.p0 rfl rfl rfl ?_
      refine RegV.nil0 ?_
      refine AWc.cond rfl (fun c38 => ?_) (fun c38 => ?_)
      · have h := cond_pos c38 h
        refine AWc.seq ?_
        refine AWc.rg hmix rfl rfl ?_
        refine RegV.p0 rfl rfl rfl ?_
        refine RegV.nil0 ?_
        have hr := Option.some.inj h
        subst hr
        exact AWc.ret (canQ (N := 20) (k := 0) (l' := [(2, (.d (.int .i64 (3 : Int))))]) (H' := []) rfl ⟨rfl, [], [], rfl, rfl, ⟨⟨_, rfl, (.refl _)⟩, rfl, trivial⟩,  trivial⟩ (doneA (.inr rfl) rfl ⟨trivial, trivial⟩ (.refl _) hasNil))
      · have h := cond_neg c38 h
        refine AWc.seq ?_
        refine AWc.rg hmix rfl rfl ?_
        refine RegV.p0 (v := (.d (.bool (decide (a0 = ([108, 111, 110, 103] : List UInt8)))))) rfl rfl rfl ?_
        refine RegV.p0 rfl rfl rfl ?_
        refine RegV.nil0 ?_
        refine AWc.cond rfl (fun c49 => ?_) (fun c49 => ?_)
        · have h := cond_pos c49 h
          refine AWc.seq ?_
          refine AWc.rg hmix rfl rfl ?_
          refine RegV.p0 rfl rfl rfl ?_
          refine RegV.nil0 ?_
          have hr := Option.some.inj h
          subst hr
          exact AWc.ret (canQ (N := 20) (k := 0) (l' := [(2, (.d (.int .i64 (4 : Int))))]) (H' := []) rfl ⟨rfl, [], [], rfl, rfl, ⟨⟨_, rfl, (.refl _)⟩, rfl, trivial⟩,  trivial⟩ (doneA (.inr rfl) rfl ⟨trivial, trivial⟩ (.refl _) hasNil))
        · have h := cond_neg c49 h
          refine AWc.seq ?_
          refine AWc.rg hmix rfl rfl ?_
          refine RegV.p0 (v := (.d (.bool (decide (a0 = ([102, 108, 111, 97, 116] : List UInt8)))))) rfl rfl rfl ?_
          refine RegV.p0 rfl rfl rfl ?_
          refine RegV.nil0 ?_
          refine AWc.cond rfl (fun c60 => ?_) (fun c60 => ?_)
          · have h := cond_pos c60 h
            refine AWc.seq ?_
            refine AWc.rg hmix rfl rfl ?_
            refine RegV.p0 rfl rfl rfl ?_
            refine RegV.nil0 ?_
            have hr := Option.some.inj h
            subst hr
            exact AWc.ret (canQ (N := 20) (k := 0) (l' := [(2, (.d (.int .i64 (5 : Int))))]) (H' := []) rfl ⟨rfl, [], [], rfl, rfl, ⟨⟨_, rfl, (.refl _)⟩, rfl, trivial⟩,  trivial⟩ (doneA (.inr rfl) rfl ⟨trivial, trivial⟩ (.refl _) hasNil))
          · have h := cond_neg c60 h
            refine AWc.seq ?_
            refine AWc.rg hmix rfl rfl ?_
            refine RegV.p0 (v := (.d (.bool (decide (a0 = ([100, 111, 117, 98, 108, 101] : List UInt8)))))) rfl rfl rfl ?_
            refine RegV.p0 rfl rfl rfl ?_
            refine RegV.nil0 ?_
            refine AWc.cond rfl (fun c71 => ?_) (fun c71 => ?_)
            · have h := cond_pos c71 h
              refine AWc.seq ?_
              refine AWc.rg hmix rfl rfl ?_
              refine RegV.p0 rfl rfl rfl ?_
              refine RegV.nil0 ?_
              have hr := Option.some.inj h
              subst hr
              exact AWc.ret (canQ (N := 20) (k := 0) (l' := [(2, (.d (.int .i64 (6 : Int))))]) (H' := []) rfl ⟨rfl, [], [], rfl, rfl, ⟨⟨_, rfl, (.refl _)⟩, rfl, trivial⟩,  trivial⟩ (doneA (.inr rfl) rfl ⟨trivial, trivial⟩ (.refl _) hasNil))
            · have h := cond_neg c71 h
              refine AWc.seq ?_
              refine AWc.rg hmix rfl rfl ?_
              refine RegV.p0 (v := (.d (.bool (decide (a0 = ([98, 121, 116, 101, 115] : List UInt8)))))) rfl rfl rfl ?_
              refine RegV.p0 rfl rfl rfl ?_
              refine RegV.nil0 ?_
              refine AWc.cond rfl (fun c82 => ?_) (fun c82 => ?_)
              · have h := cond_pos c82 h
                refine AWc.seq ?_
                refine AWc.rg hmix rfl rfl ?_
                refine RegV.p0 rfl rfl rfl ?_
                refine RegV.nil0 ?_
                have hr := Option.some.inj h
                subst hr
                exact AWc.ret (canQ (N := 20) (k := 0) (l' := [(2, (.d (.int .i64 (7 : Int))))]) (H' := []) rfl ⟨rfl, [], [], rfl, rfl, ⟨⟨_, rfl, (.refl _)⟩, rfl, trivial⟩,  trivial⟩ (doneA (.inr rfl) rfl ⟨trivial, trivial⟩ (.refl _) hasNil))
              · have h := cond_neg c82 h
                refine AWc.seq ?_
                refine AWc.rg hmix rfl rfl ?_
                refine RegV.p0 (v := (.d (.bool (decide (a0 = ([115, 116, 114, 105, 110, 103] : List UInt8)))))) rfl rfl rfl ?_
                refine RegV.p0 rfl rfl rfl ?_
                refine RegV.nil0 ?_
                refine AWc.cond rfl (fun c93 => ?_) (fun c93 => ?_)
                · have h := cond_pos c93 h
                  refine AWc.seq ?_
                  refine AWc.rg hmix rfl rfl ?_
                  refine RegV.p0 rfl rfl rfl ?_
                  refine RegV.nil0 ?_
                  have hr := Option.some.inj h
                  subst hr
                  exact AWc.ret (canQ (N := 20) (k := 0) (l' := [(2, (.d (.int .i64 (8 : Int))))]) (H' := []) rfl ⟨rfl, [], [], rfl, rfl, ⟨⟨_, rfl, (.refl _)⟩, rfl, trivial⟩,  trivial⟩ (doneA (.inr rfl) rfl ⟨trivial, trivial⟩ (.refl _) hasNil))
                · have h := cond_neg c93 h
                  refine AWc.skip ?_
                  refine AWc.seq ?_
                  refine AWc.rg hmix rfl rfl ?_
                  refine RegV.p0 rfl rfl rfl ?_
                  refine RegV.nil0 ?_
                  have hr := Option.some.inj h
                  subst hr
                  exact AWc.ret (canQ (N := 20) (k := 0) (l' := [(2, (.d (.int .i64 (0 : Int))))]) (H' := []) rfl ⟨rfl, [], [], rfl, rfl, ⟨⟨_, rfl, (.refl _)⟩, rfl, trivial⟩,  trivial⟩ (doneA (.inr rfl) rfl ⟨trivial, trivial⟩ (.refl _) hasNil))
/-- courant/names.Make -/
def C317 (N : Nat → Nat) : AFunc := { n := 48, params := 2, res := [.tmp 4, .tmp 5], body :=
 (.seq (.region false [⟨(some 4), .mv (.k (.d (.str []))), none, []⟩,
   ⟨(some 5), .mv (.k (.d (.bool false))), none, [0]⟩])
  (.seq (.region false [⟨(some 7), .mv (.t 0), none, []⟩,
    ⟨(some 6), .mv (.t 7), none, [0]⟩])
   (.seq (.block 0 (.seq (.region false [⟨(some 9), .mv (.t 0), none, []⟩,
       ⟨(some 10), .call (.k (.d (.fn (N 318)))) [(.t 9), (.k (.d (.str [46])))], none, [0]⟩,
       ⟨(some 8), .mv (.t 10), none, [1]⟩])
      (.cond (.t 8) (.seq (.region false [⟨(some 11), .mv (.t 0), none, []⟩,
         ⟨(some 12), .ssl (.t 11) (some (.k (.d (.int .i64 1)))) none, none, [0]⟩,
         ⟨(some 6), .mv (.t 12), none, [1, 0]⟩])
        (.seq (.region false [⟨(some 13), .mv (.t 6), none, []⟩,
          ⟨(some 14), .call (.k (.d (.fn (N 320)))) [(.t 13)], none, [0]⟩,
          ⟨(some 15), .un .not (.t 14), none, [1]⟩])
         (.cond (.t 15) (.seq (.region false [⟨(some 4), .mv (.k (.d (.str []))), none, []⟩,
            ⟨(some 5), .mv (.k (.d (.bool false))), none, [0]⟩])
           .ret)
          (.skip))))
       (.seq (.region false [⟨(some 17), .mv (.t 0), none, []⟩,
         ⟨(some 18), .call (.k (.d (.fn (N 321)))) [(.t 17), (.k (.d (.str [46])))], none, [0]⟩,
         ⟨(some 16), .mv (.t 18), none, [1]⟩])
        (.cond (.t 16) (.skip)
         (.seq (.region false [⟨(some 20), .mv (.t 0), none, []⟩,
           ⟨(some 21), .call (.k (.d (.fn (N 320)))) [(.t 20)], none, [0]⟩,
           ⟨(some 22), .un .not (.t 21), none, [1]⟩,
           ⟨(some 23), .mv (.t 22), none, [2, 1]⟩,
           ⟨(some 24), .mv (.t 1), (some (23, false)), [3]⟩,
           ⟨(some 25), .bin .neq (.t 24) (.k (.d (.str []))), (some (23, false)), [4, 3]⟩,
           ⟨(some 26), .mv (.t 25), (some (23, false)), [5, 3]⟩,
           ⟨(some 27), .mv (.t 1), (some (26, true)), [6]⟩,
           ⟨(some 28), .call (.k (.d (.fn (N 332)))) [(.t 27)], (some (26, true)), [7, 6]⟩,
           ⟨(some 29), .un .not (.t 28), (some (26, true)), [8, 6]⟩,
           ⟨(some 30), .pick (.t 26) (.t 29) (.k (.d (.bool false))), (some (23, false)), [6, 9, 3]⟩,
           ⟨(some 31), .pick (.t 23) (.k (.d (.bool true))) (.t 30), none, [3, 10]⟩,
           ⟨(some 19), .mv (.t 31), none, [11, 8]⟩])
          (.cond (.t 19) (.seq (.region false [⟨(some 4), .mv (.k (.d (.str []))), none, []⟩,
             ⟨(some 5), .mv (.k (.d (.bool false))), none, [0]⟩])
            .ret)
           (.seq (.region false [⟨(some 33), .mv (.t 1), none, []⟩,
             ⟨(some 34), .bin .neq (.t 33) (.k (.d (.str []))), none, [0]⟩,
             ⟨(some 32), .mv (.t 34), none, [1]⟩])
            (.cond (.t 32) (.region false [⟨(some 35), .mv (.t 1), none, []⟩,
              ⟨(some 36), .bin .add (.t 35) (.k (.d (.str [46]))), none, [0]⟩,
              ⟨(some 37), .mv (.t 0), none, []⟩,
              ⟨(some 38), .bin .add (.t 36) (.t 37), none, [1, 2]⟩,
              ⟨(some 6), .mv (.t 38), none, [3, 0, 1, 2]⟩])
             (.skip))))))))))
    (.seq (.seq (.region false [⟨(some 39), .mv (.t 6), none, []⟩,
       ⟨(some 40), .call (.k (.d (.fn (N 332)))) [(.t 39)], none, [0]⟩,
       ⟨(some 41), .un .not (.t 40), none, [1]⟩,
       ⟨(some 42), .mv (.t 41), none, [2, 1]⟩,
       ⟨(some 43), .mv (.t 6), (some (42, false)), [3]⟩,
       ⟨(some 44), .call (.k (.d (.fn (N 337)))) [(.t 43)], (some (42, false)), [4, 3]⟩,
       ⟨(some 45), .bin .neq (.t 44) (.k (.d (.int .i64 0))), (some (42, false)), [5, 3]⟩,
       ⟨(some 46), .pick (.t 42) (.k (.d (.bool true))) (.t 45), none, [3, 6]⟩])
      (.cond (.t 46) (.seq (.region false [⟨(some 4), .mv (.k (.d (.str []))), none, []⟩,
         ⟨(some 5), .mv (.k (.d (.bool false))), none, [0]⟩])
        .ret)
       (.skip)))
     (.seq (.region false [⟨(some 47), .mv (.t 6), none, []⟩,
       ⟨(some 4), .mv (.t 47), none, [0]⟩,
       ⟨(some 5), .mv (.k (.d (.bool true))), none, [1, 0]⟩])
      .ret))))) }
def HC317 (P : Program) (N : Nat → Nat) : Prop := HasF P (N 317) (C317 N) ∧ HC318 P N ∧ HC320 P N ∧ HC321 P N ∧ HC332 P N ∧ HC337 P N
def f317_j86 (k : Nat) (j86_1 : (List UInt8)) : Option ((List UInt8) × Bool) := (f332 k j86_1).bind fun r91 => cond (!r91) (some (([] : List UInt8), false)) ((f337 k j86_1).bind fun r95 => cond (decide (r95 ≠ (0 : Int))) (some (([] : List UInt8), false)) (some (j86_1, true)))
def f317_j64 (k : Nat) (a1 : (List UInt8)) (a0 : (List UInt8)) (j64_1 : Bool) : Option ((List UInt8) × Bool) := cond j64_1 (some (([] : List UInt8), false)) (cond (decide (a1 ≠ ([] : List UInt8))) (gd (a1.length + ([46] : List UInt8).length ≤ 9223372036854775807) (gd ((a1 ++ ([46] : List UInt8)).length + a0.length ≤ 9223372036854775807) (f317_j86 k ((a1 ++ ([46] : List UInt8)) ++ a0)))) (f317_j86 k a0))
def f317 (k : Nat) (a0 : (List UInt8)) (a1 : (List UInt8)) : Option ((List UInt8) × Bool) := (f318 k a0 ([46] : List UInt8)).bind fun r17 => cond r17 (gd (0 ≤ (1 : Int) ∧ (1 : Int) ≤ ((a0.length : Nat) : Int) ∧ ((a0.length : Nat) : Int) ≤ ((a0.length : Nat) : Int)) ((f320 k (sl a0 (1 : Int) ((a0.length : Nat) : Int))).bind fun r30 => cond (!r30) (some (([] : List UInt8), false)) (f317_j86 k (sl a0 (1 : Int) ((a0.length : Nat) : Int))))) ((f321 k a0 ([46] : List UInt8)).bind fun r44 => cond r44 (f317_j86 k a0) ((f320 k a0).bind fun r52 => cond (!r52) (f317_j64 k a1 a0 true) (cond (decide (a1 ≠ ([] : List UInt8))) ((f332 k a1).bind fun r59 => f317_j64 k a1 a0 (!r59)) (f317_j64 k a1 a0 false))))
theorem F317 {P : Program} {N : Nat → Nat} (hmix : P.follows .mixedOrders = true) (hc : HC317 P N) {k : Nat} {a0 : (List UInt8)} {a1 : (List UInt8)} {r : ((List UInt8) × Bool)} (h : f317 k a0 a1 = some r) :
    ACalls P (N 317) [(.d (.str a0)), (.d (.str a1))] [] (.tup [(.d (.str r.1)), (.d (.bool r.2))]) [] := by
  refine acalls_canon (F := C317 N) hc.1 0 0 rfl ?_
  unfold f317 at h
  dsimp only [C317, startL]
  refine AWc.seq ?_
  refine AWc.rg hmix rfl rfl ?_
  refine RegV.p0 rfl rfl rfl ?_
  refine RegV.p0 rfl rfl rfl ?_
  refine RegV.nil0 ?_
  refine AWc.seq ?_
  refine AWc.rg hmix rfl rfl ?_
  refine RegV.p0 rfl rfl rfl ?_
  refine RegV.p0 rfl rfl rfl ?_
  refine RegV.nil0 ?_
  refine AWc.seqS (N := 48) 0 (fun (z : (List UInt8)) => [(6, (.d (.str z)))]) (fun z => []) (fun z => f317_j86 k z = some r) rfl_le ?_ ?_
  · refine AWc.block ?_
    refine AWc.seq ?_
    refine AWc.rg hmix rfl rfl ?_
    refine RegV.p0 rfl rfl rfl ?_
    obtain ⟨r17, e17, h⟩ := bind_some h
    refine RegV.call0 (F318 hmix hc.2.1 e17) rfl rfl rfl rfl (.cons (.refl _) (.cons (.refl _) .nil)) rfl ?_
    refine RegV.p0 rfl rfl rfl ?_
    refine RegV.nil0 ?_
    refine AWc.cond rfl (fun c19 => ?_) (fun c19 => ?_)
    · have h := cond_pos c19 h
      refine AWc.seq ?_
      refine AWc.rg hmix rfl rfl ?_
      refine RegV.p0 rfl rfl rfl ?_
      obtain ⟨b24, h⟩ := gd_some h
      refine RegV.p1 (v := (.d (.str (sl a0 (1 : Int) ((a0.length : Nat) : Int))))) rfl rfl b24 rfl rfl ?_
      refine RegV.p0 rfl rfl rfl ?_
      refine RegV.nil0 ?_
      refine AWc.seq ?_
      refine AWc.rg hmix rfl rfl ?_
      refine RegV.p0 rfl rfl rfl ?_
      obtain ⟨r30, e30, h⟩ := bind_some h
      refine RegV.call0 (F320 hmix hc.2.2.1 e30) rfl rfl rfl rfl (.cons (.refl _) .nil) rfl ?_
      refine RegV.p0 (v := (.d (.bool (!r30)))) rfl rfl rfl ?_
      refine RegV.nil0 ?_
      refine AWc.cond rfl (fun c32 => ?_) (fun c32 => ?_)
      · have h := cond_pos c32 h
        refine AWc.seq ?_
        refine AWc.rg hmix rfl rfl ?_
        refine RegV.p0 rfl rfl rfl ?_
        refine RegV.p0 rfl rfl rfl ?_
        refine RegV.nil0 ?_
        have hr := Option.some.inj h
        subst hr
        exact AWc.ret (canQ (N := 48) (k := 0) (l' := [(4, (.d (.str ([] : List UInt8)))), (5, (.d (.bool false)))]) (H' := []) rfl ⟨rfl, [], [], rfl, rfl, ⟨⟨_, rfl, (.refl _)⟩, rfl, ⟨⟨_, rfl, (.refl _)⟩, rfl, trivial⟩⟩,  trivial⟩ (doneA (.inr rfl) rfl ⟨trivial, ⟨trivial, trivial⟩⟩ (.refl _) hasNil))
      · have h := cond_neg c32 h
        refine AWc.skip ?_
        exact ⟨(sl a0 (1 : Int) ((a0.length : Nat) : Int)), h, ⟨rfl, [], [], rfl, rfl, ⟨⟨_, rfl, (.refl _)⟩, rfl, trivial⟩,  trivial⟩⟩
    · have h := cond_neg c19 h
      refine AWc.seq ?_
      refine AWc.rg hmix rfl rfl ?_
      refine RegV.p0 rfl rfl rfl ?_
      obtain ⟨r44, e44, h⟩ := bind_some h
      refine RegV.call0 (F321 hmix hc.2.2.2.1 e44) rfl rfl rfl rfl (.cons (.refl _) (.cons (.refl _) .nil)) rfl ?_
      refine RegV.p0 rfl rfl rfl ?_
      refine RegV.nil0 ?_
      refine AWc.cond rfl (fun c46 => ?_) (fun c46 => ?_)
      · have h := cond_pos c46 h
        refine AWc.skip ?_
        exact ⟨a0, h, ⟨rfl, [], [], rfl, rfl, ⟨⟨_, rfl, (.refl _)⟩, rfl, trivial⟩,  trivial⟩⟩
      · have h := cond_neg c46 h
        refine AWc.seqS (N := 48) 0 (fun (z : Bool) => [(0, (.d (.str a0))), (1, (.d (.str a1))), (6, (.d (.str a0))), (19, (.d (.bool z)))]) (fun z => []) (fun z => f317_j64 k a1 a0 z = some r) rfl_le ?_ ?_
        · refine AWc.rg hmix rfl rfl ?_
          refine RegV.p0 rfl rfl rfl ?_
          obtain ⟨r52, e52, h⟩ := bind_some h
          refine RegV.call0 (F320 hmix hc.2.2.1 e52) rfl rfl rfl rfl (.cons (.refl _) .nil) rfl ?_
          refine RegV.p0 (v := (.d (.bool (!r52)))) rfl rfl rfl ?_
          refine RegV.p0 rfl rfl rfl ?_
          refine RegV.split (fun c54 => ?_) (fun c54 => ?_)
          · have h := cond_pos c54 h
            refine RegV.noS rfl rfl ?_
            refine RegV.noS rfl rfl ?_
            refine RegV.noS rfl rfl ?_
            refine RegV.noS rfl rfl ?_
            refine RegV.noS rfl rfl ?_
            refine RegV.noS rfl rfl ?_
            refine RegV.noS rfl rfl ?_
            refine RegV.p0 rfl rfl rfl ?_
            refine RegV.p0 rfl rfl rfl ?_
            refine RegV.nil0 ?_
            exact ⟨true, h, ⟨rfl, [], [], rfl, rfl, ⟨⟨_, rfl, (.refl _)⟩, rfl, ⟨⟨_, rfl, (.refl _)⟩, rfl, ⟨⟨_, rfl, (.refl _)⟩, rfl, ⟨⟨_, rfl, (.refl _)⟩, rfl, trivial⟩⟩⟩⟩,  trivial⟩⟩
          · have h := cond_neg c54 h
            refine RegV.p0 rfl rfl rfl ?_
            refine RegV.p0 (v := (.d (.bool (decide (a1 ≠ ([] : List UInt8)))))) rfl rfl rfl ?_
            refine RegV.p0 rfl rfl rfl ?_
            refine RegV.split (fun c57 => ?_) (fun c57 => ?_)
            · have h := cond_pos c57 h
              refine RegV.p0 rfl rfl rfl ?_
              obtain ⟨r59, e59, h⟩ := bind_some h
              refine RegV.call0 (F332 hmix hc.2.2.2.2.1 e59) rfl rfl rfl rfl (.cons (.refl _) .nil) rfl ?_
              refine RegV.p0 (v := (.d (.bool (!r59)))) rfl rfl rfl ?_
              refine RegV.p0 rfl rfl rfl ?_
              refine RegV.p0 rfl rfl rfl ?_
              refine RegV.p0 rfl rfl rfl ?_
              refine RegV.nil0 ?_
              exact ⟨(!r59), h, ⟨rfl, [], [], rfl, rfl, ⟨⟨_, rfl, (.refl _)⟩, rfl, ⟨⟨_, rfl, (.refl _)⟩, rfl, ⟨⟨_, rfl, (.refl _)⟩, rfl, ⟨⟨_, rfl, (.refl _)⟩, rfl, trivial⟩⟩⟩⟩,  trivial⟩⟩
            · have h := cond_neg c57 h
              refine RegV.noS rfl rfl ?_
              refine RegV.noS rfl rfl ?_
              refine RegV.noS rfl rfl ?_
              refine RegV.p0 rfl rfl rfl ?_
              refine RegV.p0 rfl rfl rfl ?_
              refine RegV.p0 rfl rfl rfl ?_
              refine RegV.nil0 ?_
              exact ⟨false, h, ⟨rfl, [], [], rfl, rfl, ⟨⟨_, rfl, (.refl _)⟩, rfl, ⟨⟨_, rfl, (.refl _)⟩, rfl, ⟨⟨_, rfl, (.refl _)⟩, rfl, ⟨⟨_, rfl, (.refl _)⟩, rfl, trivial⟩⟩⟩⟩,  trivial⟩⟩
        · intro j64_1 h
          unfold f317_j64 at h
          refine AWc.cond rfl (fun c64 => ?_) (fun c64 => ?_)
          · have h := cond_pos c64 h
            refine AWc.seq ?_
            refine AWc.rg hmix rfl rfl ?_
            refine RegV.p0 rfl rfl rfl ?_
            refine RegV.p0 rfl rfl rfl ?_
            refine RegV.nil0 ?_
            have hr := Option.some.inj h
            subst hr
            exact AWc.ret (canQ (N := 48) (k := 0) (l' := [(4, (.d (.str ([] : List UInt8)))), (5, (.d (.bool false)))]) (H' := []) rfl ⟨rfl, [], [], rfl, rfl, ⟨⟨_, rfl, (.refl _)⟩, rfl, ⟨⟨_, rfl, (.refl _)⟩, rfl, trivial⟩⟩,  trivial⟩ (doneA (.inr rfl) rfl ⟨trivial, ⟨trivial, trivial⟩⟩ (.refl _) hasNil))
          · have h := cond_neg c64 h
            refine AWc.seq ?_
            refine AWc.rg hmix rfl rfl ?_
            refine RegV.p0 rfl rfl rfl ?_
            refine RegV.p0 (v := (.d (.bool (decide (a1 ≠ ([] : List UInt8)))))) rfl rfl rfl ?_
            refine RegV.p0 rfl rfl rfl ?_
            refine RegV.nil0 ?_
            refine AWc.cond rfl (fun c77 => ?_) (fun c77 => ?_)
            · have h := cond_pos c77 h
              refine AWc.rg hmix rfl rfl ?_
              refine RegV.p0 rfl rfl rfl ?_
              obtain ⟨b81, h⟩ := gd_some h
              refine RegV.p1 (v := (.d (.str (a1 ++ ([46] : List UInt8))))) rfl rfl b81 rfl rfl ?_
              refine RegV.p0 rfl rfl rfl ?_
              obtain ⟨b83, h⟩ := gd_some h
              refine RegV.p1 (v := (.d (.str ((a1 ++ ([46] : List UInt8)) ++ a0)))) rfl rfl b83 rfl rfl ?_
              refine RegV.p0 rfl rfl rfl ?_
              refine RegV.nil0 ?_
              exact ⟨((a1 ++ ([46] : List UInt8)) ++ a0), h, ⟨rfl, [], [], rfl, rfl, ⟨⟨_, rfl, (.refl _)⟩, rfl, trivial⟩,  trivial⟩⟩
            · have h := cond_neg c77 h
              refine AWc.skip ?_
              exact ⟨a0, h, ⟨rfl, [], [], rfl, rfl, ⟨⟨_, rfl, (.refl _)⟩, rfl, trivial⟩,  trivial⟩⟩
  · intro j86_1 h
    unfold f317_j86 at h
    refine AWc.seq ?_
    refine AWc.seq ?_
    refine AWc.rg hmix rfl rfl ?_
    refine RegV.p0 rfl rfl rfl ?_
    obtain ⟨r91, e91, h⟩ := bind_some h
    refine RegV.call0 (F332 hmix hc.2.2.2.2.1 e91) rfl rfl rfl rfl (.cons (.refl _) .nil) rfl ?_
    refine RegV.p0 (v := (.d (.bool (!r91)))) rfl rfl rfl ?_
    refine RegV.p0 rfl rfl rfl ?_
    refine RegV.split (fun c93 => ?_) (fun c93 => ?_)
    · have h := cond_pos c93 h
      refine RegV.noS rfl rfl ?_
      refine RegV.noS rfl rfl ?_
      refine RegV.noS rfl rfl ?_
      refine RegV.p0 rfl rfl rfl ?_
      refine RegV.nil0 ?_
      refine AWc.cond rfl (fun _ => ?_) (fun hc => by cases hc)
      refine AWc.seq ?_
      refine AWc.rg hmix rfl rfl ?_
      refine RegV.p0 rfl rfl rfl ?_
      refine RegV.p0 rfl rfl rfl ?_
      refine RegV.nil0 ?_
      have hr := Option.some.inj h
      subst hr
      exact AWc.ret (canQ (N := 48) (k := 0) (l' := [(4, (.d (.str ([] : List UInt8)))), (5, (.d (.bool false)))]) (H' := []) rfl ⟨rfl, [], [], rfl, rfl, ⟨⟨_, rfl, (.refl _)⟩, rfl, ⟨⟨_, rfl, (.refl _)⟩, rfl, trivial⟩⟩,  trivial⟩ (doneA (.inr rfl) rfl ⟨trivial, ⟨trivial, trivial⟩⟩ (.refl _) hasNil))
    · have h := cond_neg c93 h
      refine RegV.p0 rfl rfl rfl ?_
      obtain ⟨r95, e95, h⟩ := bind_some h
      refine RegV.call0 (F337 hmix hc.2.2.2.2.2 e95) rfl rfl rfl rfl (.cons (.refl _) .nil) rfl ?_
      refine RegV.p0 (v := (.d (.bool (decide (r95 ≠ (0 : Int)))))) rfl rfl rfl ?_
      refine RegV.p0 rfl rfl rfl ?_
      refine RegV.nil0 ?_
      refine AWc.cond rfl (fun c98 => ?_) (fun c98 => ?_)
      · have h := cond_pos c98 h
        refine AWc.seq ?_
        refine AWc.rg hmix rfl rfl ?_
        refine RegV.p0 rfl rfl rfl ?_
        refine RegV.p0 rfl rfl rfl ?_
        refine RegV.nil0 ?_
        have hr := Option.some.inj h
        subst hr
        exact AWc.ret (canQ (N := 48) (k := 0) (l' := [(4, (.d (.str ([] : List UInt8)))), (5, (.d (.bool false)))]) (H' := []) rfl ⟨rfl, [], [], rfl, rfl, ⟨⟨_, rfl, (.refl _)⟩, rfl, ⟨⟨_, rfl, (.refl _)⟩, rfl, trivial⟩⟩,  trivial⟩ (doneA (.inr rfl) rfl ⟨trivial, ⟨trivial, trivial⟩⟩ (.refl _) hasNil))
      · have h := cond_neg c98 h
        refine AWc.skip ?_
        refine AWc.seq ?_
        refine AWc.rg hmix rfl rfl ?_
        refine RegV.p0 rfl rfl rfl ?_
        refine RegV.p0 rfl rfl rfl ?_
        refine RegV.p0 rfl rfl rfl ?_
        refine RegV.nil0 ?_
        have hr := Option.some.inj h
        subst hr
        exact AWc.ret (canQ (N := 48) (k := 0) (l' := [(4, (.d (.str j86_1))), (5, (.d (.bool true)))]) (H' := []) rfl ⟨rfl, [], [], rfl, rfl, ⟨⟨_, rfl, (.refl _)⟩, rfl, ⟨⟨_, rfl, (.refl _)⟩, rfl, trivial⟩⟩,  trivial⟩ (doneA (.inr rfl) rfl ⟨trivial, ⟨trivial, trivial⟩⟩ (.refl _) hasNil))
/-- courant/courantlaw03.awake -/
def C316 (N : Nat → Nat) : AFunc := { n := 15, params := 0, res := [.tmp 0], body :=
 (.seq (.region false [⟨(some 0), .mv (.k (.d (.bool false))), none, []⟩])
  (.seq (.region false [⟨(some 4), .call (.k (.d (.fn (N 317)))) [(.k (.d (.str [97]))), (.k (.d (.str [98, 46, 99])))], none, []⟩,
    ⟨(some 3), .mv (.t 4), none, [0]⟩,
    ⟨(some 5), .ext (.t 3) 0, none, [1]⟩,
    ⟨(some 6), .ext (.t 3) 1, none, [1]⟩,
    ⟨(some 1), .mv (.t 5), none, [2, 0, 1]⟩,
    ⟨(some 2), .mv (.t 6), none, [3, 4, 0, 1, 2]⟩])
   (.seq (.region false [⟨(some 7), .mv (.t 2), none, []⟩,
     ⟨(some 8), .mv (.t 7), none, [0]⟩,
     ⟨(some 9), .mv (.t 1), (some (8, true)), [1]⟩,
     ⟨(some 10), .bin .eql (.t 9) (.k (.d (.str [98, 46, 99, 46, 97]))), (some (8, true)), [2, 1]⟩,
     ⟨(some 11), .pick (.t 8) (.t 10) (.k (.d (.bool false))), none, [1, 3]⟩,
     ⟨(some 12), .mv (.t 11), none, [4, 1]⟩,
     ⟨(some 13), .call (.k (.d (.fn (N 320)))) [(.k (.d (.str [97, 95, 49])))], (some (12, true)), [5]⟩,
     ⟨(some 14), .pick (.t 12) (.t 13) (.k (.d (.bool false))), none, [5, 6]⟩,
     ⟨(some 0), .mv (.t 14), none, [7, 6, 0, 1, 2, 3, 4, 5]⟩])
    .ret))) }
def HC316 (P : Program) (N : Nat → Nat) : Prop := HasF P (N 316) (C316 N) ∧ HC317 P N ∧ HC320 P N
def f316 (k : Nat) : Option Bool := (f317 k ([97] : List UInt8) ([98, 46, 99] : List UInt8)).bind fun r8 => cond r8.2 (cond (decide (r8.1 = ([98, 46, 99, 46, 97] : List UInt8))) ((f320 k ([97, 95, 49] : List UInt8)).bind fun r23 => some r23) (some false)) (some false)
theorem F316 {P : Program} {N : Nat → Nat} (hmix : P.follows .mixedOrders = true) (hc : HC316 P N) {k : Nat} {r : Bool} (h : f316 k = some r) :
    ACalls P (N 316) [] [] (.d (.bool r)) [] := by
  refine acalls_canon (F := C316 N) hc.1 0 0 rfl ?_
  unfold f316 at h
  dsimp only [C316, startL]
  refine AWc.seq ?_
  refine AWc.rg hmix rfl rfl ?_
  refine RegV.p0 rfl rfl rfl ?_
  refine RegV.nil0 ?_
  refine AWc.seq ?_
  refine AWc.rg hmix rfl rfl ?_
  obtain ⟨r8, e8, h⟩ := bind_some h
  refine RegV.call0 (F317 hmix hc.2.1 e8) rfl rfl rfl rfl (.cons (.refl _) (.cons (.refl _) .nil)) rfl ?_
  refine RegV.p0 rfl rfl rfl ?_
  refine RegV.p0 rfl rfl rfl ?_
  refine RegV.p0 rfl rfl rfl ?_
  refine RegV.p0 rfl rfl rfl ?_
  refine RegV.p0 rfl rfl rfl ?_
  refine RegV.nil0 ?_
  refine AWc.seq ?_
  refine AWc.rg hmix rfl rfl ?_
  refine RegV.p0 rfl rfl rfl ?_
  refine RegV.p0 rfl rfl rfl ?_
  refine RegV.split (fun c18 => ?_) (fun c18 => ?_)
  · have h := cond_pos c18 h
    refine RegV.p0 rfl rfl rfl ?_
    refine RegV.p0 (v := (.d (.bool (decide (r8.1 = ([98, 46, 99, 46, 97] : List UInt8)))))) rfl rfl rfl ?_
    refine RegV.p0 rfl rfl rfl ?_
    refine RegV.p0 rfl rfl rfl ?_
    refine RegV.split (fun c22 => ?_) (fun c22 => ?_)
    · have h := cond_pos c22 h
      obtain ⟨r23, e23, h⟩ := bind_some h
      refine RegV.call0 (F320 hmix hc.2.2 e23) rfl rfl rfl rfl (.cons (.refl _) .nil) rfl ?_
      refine RegV.p0 rfl rfl rfl ?_
      refine RegV.p0 rfl rfl rfl ?_
      refine RegV.nil0 ?_
      have hr := Option.some.inj h
      subst hr
      exact AWc.ret (canQ (N := 15) (k := 0) (l' := [(0, (.d (.bool r23)))]) (H' := []) rfl ⟨rfl, [], [], rfl, rfl, ⟨⟨_, rfl, (.refl _)⟩, rfl, trivial⟩,  trivial⟩ (doneA (.inr rfl) rfl ⟨trivial, trivial⟩ (.refl _) hasNil))
    · have h := cond_neg c22 h
      refine RegV.noS rfl rfl ?_
      refine RegV.p0 rfl rfl rfl ?_
      refine RegV.p0 rfl rfl rfl ?_
      refine RegV.nil0 ?_
      have hr := Option.some.inj h
      subst hr
      exact AWc.ret (canQ (N := 15) (k := 0) (l' := [(0, (.d (.bool false)))]) (H' := []) rfl ⟨rfl, [], [], rfl, rfl, ⟨⟨_, rfl, (.refl _)⟩, rfl, trivial⟩,  trivial⟩ (doneA (.inr rfl) rfl ⟨trivial, trivial⟩ (.refl _) hasNil))
  · have h := cond_neg c18 h
    refine RegV.noS rfl rfl ?_
    refine RegV.noS rfl rfl ?_
    refine RegV.p0 rfl rfl rfl ?_
    refine RegV.p0 rfl rfl rfl ?_
    refine RegV.noS rfl rfl ?_
    refine RegV.p0 rfl rfl rfl ?_
    refine RegV.p0 rfl rfl rfl ?_
    refine RegV.nil0 ?_
    have hr := Option.some.inj h
    subst hr
    exact AWc.ret (canQ (N := 15) (k := 0) (l' := [(0, (.d (.bool false)))]) (H' := []) rfl ⟨rfl, [], [], rfl, rfl, ⟨⟨_, rfl, (.refl _)⟩, rfl, trivial⟩,  trivial⟩ (doneA (.inr rfl) rfl ⟨trivial, trivial⟩ (.refl _) hasNil))
/-- courant/courantref03.Simple -/
def C339 (N : Nat → Nat) : AFunc := { n := 53, params := 1, res := [.tmp 2], body :=
 (.seq (.region false [⟨(some 2), .mv (.k (.d (.bool false))), none, []⟩])
  (.seq (.seq (.region false [⟨(some 3), .mv (.k (.d (.int .i64 0))), none, []⟩])
    (.block 0 (.loop (.seq (.seq (.region false [⟨(some 5), .mv (.t 3), none, []⟩,
         ⟨(some 6), .mv (.t 0), none, []⟩,
         ⟨(some 7), .slen (.t 6), none, [1]⟩,
         ⟨(some 8), .bin .lss (.t 5) (.t 7), none, [0, 2]⟩])
        (.cond (.t 8) (.skip)
         (.exit 0)))
       (.seq (.block 1 (.seq (.region false [⟨(some 11), .mv (.t 0), none, []⟩,
           ⟨(some 12), .mv (.t 3), none, []⟩,
           ⟨(some 13), .idx (.t 11) (.t 12), none, [0, 1]⟩,
           ⟨(some 4), .mv (.t 13), none, [2, 0, 1]⟩])
          (.seq (.region false [⟨(some 14), .mv (.t 4), none, []⟩,
            ⟨(some 15), .bin .geq (.t 14) (.k (.d (.int .u8 97))), none, [0]⟩,
            ⟨(some 16), .mv (.t 15), none, [1]⟩,
            ⟨(some 17), .mv (.t 4), (some (16, true)), [2]⟩,
            ⟨(some 18), .bin .leq (.t 17) (.k (.d (.int .u8 122))), (some (16, true)), [3, 2]⟩,
            ⟨(some 19), .pick (.t 16) (.t 18) (.k (.d (.bool false))), none, [2, 4]⟩,
            ⟨(some 20), .mv (.t 19), none, [5, 2]⟩,
            ⟨(some 21), .mv (.t 4), (some (20, false)), [6]⟩,
            ⟨(some 22), .bin .geq (.t 21) (.k (.d (.int .u8 65))), (some (20, false)), [7, 6]⟩,
            ⟨(some 23), .mv (.t 22), (some (20, false)), [8, 6]⟩,
            ⟨(some 24), .mv (.t 4), (some (23, true)), [9]⟩,
            ⟨(some 25), .bin .leq (.t 24) (.k (.d (.int .u8 90))), (some (23, true)), [10, 9]⟩,
            ⟨(some 26), .pick (.t 23) (.t 25) (.k (.d (.bool false))), (some (20, false)), [9, 11, 6]⟩,
            ⟨(some 27), .pick (.t 20) (.k (.d (.bool true))) (.t 26), none, [6, 12]⟩,
            ⟨(some 28), .mv (.t 27), none, [13, 9]⟩,
            ⟨(some 29), .mv (.t 4), (some (28, false)), [14]⟩,
            ⟨(some 30), .bin .eql (.t 29) (.k (.d (.int .u8 95))), (some (28, false)), [15, 14]⟩,
            ⟨(some 31), .pick (.t 28) (.k (.d (.bool true))) (.t 30), none, [14, 16]⟩,
            ⟨(some 32), .mv (.t 31), none, [17, 14]⟩,
            ⟨(some 33), .mv (.t 3), (some (32, false)), [18]⟩,
            ⟨(some 34), .bin .gtr (.t 33) (.k (.d (.int .i64 0))), (some (32, false)), [19, 18]⟩,
            ⟨(some 35), .mv (.t 34), (some (32, false)), [20, 18]⟩,
            ⟨(some 36), .mv (.t 4), (some (35, true)), [21]⟩,
            ⟨(some 37), .bin .geq (.t 36) (.k (.d (.int .u8 48))), (some (35, true)), [22, 21]⟩,
            ⟨(some 38), .pick (.t 35) (.t 37) (.k (.d (.bool false))), (some (32, false)), [21, 23, 18]⟩,
            ⟨(some 39), .mv (.t 38), (some (32, false)), [24, 21, 18]⟩,
            ⟨(some 40), .mv (.t 4), (some (39, true)), [25]⟩,
            ⟨(some 41), .bin .leq (.t 40) (.k (.d (.int .u8 57))), (some (39, true)), [26, 25]⟩,
            ⟨(some 42), .pick (.t 39) (.t 41) (.k (.d (.bool false))), (some (32, false)), [25, 27, 18]⟩,
            ⟨(some 43), .pick (.t 32) (.k (.d (.bool true))) (.t 42), none, [18, 28]⟩,
            ⟨(some 44), .un .not (.t 43), none, [29]⟩])
           (.cond (.t 44) (.seq (.region false [⟨(some 2), .mv (.k (.d (.bool false))), none, []⟩])
             .ret)
            (.skip)))))
        (.region false [⟨(some 9), .mv (.t 3), none, []⟩,
         ⟨(some 10), .bin .add (.t 9) (.k (.d (.int .i64 1))), none, [0]⟩,
         ⟨(some 3), .mv (.t 10), none, [1, 0]⟩]))))))
   (.seq (.region false [⟨(some 45), .mv (.t 0), none, []⟩,
     ⟨(some 46), .slen (.t 45), none, [0]⟩,
     ⟨(some 47), .bin .geq (.t 46) (.k (.d (.int .i64 1))), none, [1]⟩,
     ⟨(some 48), .mv (.t 47), none, [2]⟩,
     ⟨(some 49), .mv (.t 0), (some (48, true)), [3]⟩,
     ⟨(some 50), .slen (.t 49), (some (48, true)), [4, 3]⟩,
     ⟨(some 51), .bin .leq (.t 50) (.k (.d (.int .i64 100))), (some (48, true)), [5, 3]⟩,
     ⟨(some 52), .pick (.t 48) (.t 51) (.k (.d (.bool false))), none, [3, 6]⟩,
     ⟨(some 2), .mv (.t 52), none, [7, 3, 0, 1, 2, 4, 5, 6]⟩])
    .ret))) }
def HC339 (P : Program) (N : Nat → Nat) : Prop := HasF P (N 339) (C339 N)
def f339_j78 (k : Nat) (a0 : (List UInt8)) : Option Bool := cond (decide (((a0.length : Nat) : Int) ≥ (1 : Int))) (some (decide (((a0.length : Nat) : Int) ≤ (100 : Int)))) (some false)
def f339_l10 (a0 : (List UInt8)) : Nat → Int → Option (LR2 Unit Unit Bool)
  | 0, _ => none
  | k + 1, y10_1 => cond (decide (y10_1 < ((a0.length : Nat) : Int))) (gd (0 ≤ y10_1 ∧ y10_1 < ((a0.length : Nat) : Int)) (cond (decide ((((a0.getD (y10_1).toNat 0).toNat : Nat) : Int) ≥ (97 : Int))) (cond (decide ((((a0.getD (y10_1).toNat 0).toNat : Nat) : Int) ≤ (122 : Int))) (f339_l10 a0 k (IntKind.i64.wrap (y10_1 + (1 : Int)))) (cond (decide ((((a0.getD (y10_1).toNat 0).toNat : Nat) : Int) ≥ (65 : Int))) (cond (decide ((((a0.getD (y10_1).toNat 0).toNat : Nat) : Int) ≤ (90 : Int))) (f339_l10 a0 k (IntKind.i64.wrap (y10_1 + (1 : Int)))) (cond (decide ((((a0.getD (y10_1).toNat 0).toNat : Nat) : Int) = (95 : Int))) (f339_l10 a0 k (IntKind.i64.wrap (y10_1 + (1 : Int)))) (cond (decide (y10_1 > (0 : Int))) (cond (decide ((((a0.getD (y10_1).toNat 0).toNat : Nat) : Int) ≥ (48 : Int))) (cond (!(decide ((((a0.getD (y10_1).toNat 0).toNat : Nat) : Int) ≤ (57 : Int)))) (some (.r false)) (f339_l10 a0 k (IntKind.i64.wrap (y10_1 + (1 : Int))))) (some (.r false))) (some (.r false))))) (cond (decide ((((a0.getD (y10_1).toNat 0).toNat : Nat) : Int) = (95 : Int))) (f339_l10 a0 k (IntKind.i64.wrap (y10_1 + (1 : Int)))) (cond (decide (y10_1 > (0 : Int))) (cond (decide ((((a0.getD (y10_1).toNat 0).toNat : Nat) : Int) ≥ (48 : Int))) (cond (!(decide ((((a0.getD (y10_1).toNat 0).toNat : Nat) : Int) ≤ (57 : Int)))) (some (.r false)) (f339_l10 a0 k (IntKind.i64.wrap (y10_1 + (1 : Int))))) (some (.r false))) (some (.r false)))))) (cond (decide ((((a0.getD (y10_1).toNat 0).toNat : Nat) : Int) ≥ (65 : Int))) (cond (decide ((((a0.getD (y10_1).toNat 0).toNat : Nat) : Int) ≤ (90 : Int))) (f339_l10 a0 k (IntKind.i64.wrap (y10_1 + (1 : Int)))) (cond (decide ((((a0.getD (y10_1).toNat 0).toNat : Nat) : Int) = (95 : Int))) (f339_l10 a0 k (IntKind.i64.wrap (y10_1 + (1 : Int)))) (cond (decide (y10_1 > (0 : Int))) (cond (decide ((((a0.getD (y10_1).toNat 0).toNat : Nat) : Int) ≥ (48 : Int))) (cond (!(decide ((((a0.getD (y10_1).toNat 0).toNat : Nat) : Int) ≤ (57 : Int)))) (some (.r false)) (f339_l10 a0 k (IntKind.i64.wrap (y10_1 + (1 : Int))))) (some (.r false))) (some (.r false))))) (cond (decide ((((a0.getD (y10_1).toNat 0).toNat : Nat) : Int) = (95 : Int))) (f339_l10 a0 k (IntKind.i64.wrap (y10_1 + (1 : Int)))) (cond (decide (y10_1 > (0 : Int))) (cond (decide ((((a0.getD (y10_1).toNat 0).toNat : Nat) : Int) ≥ (48 : Int))) (cond (!(decide ((((a0.getD (y10_1).toNat 0).toNat : Nat) : Int) ≤ (57 : Int)))) (some (.r false)) (f339_l10 a0 k (IntKind.i64.wrap (y10_1 + (1 : Int))))) (some (.r false))) (some (.r false))))))) (some (.b0 ()))
def f339 (k : Nat) (a0 : (List UInt8)) : Option Bool := (f339_l10 a0 k (0 : Int)).bind fun o10 => (match o10 with | .b0 () => f339_j78 k a0 | .r x => some x | _ => none)
theorem F339 {P : Program} {N : Nat → Nat} (hmix : P.follows .mixedOrders = true) (hc : HC339 P N) {k : Nat} {a0 : (List UInt8)} {r : Bool} (h : f339 k a0 = some r) :
    ACalls P (N 339) [(.d (.str a0))] [] (.d (.bool r)) [] := by
  refine acalls_canon (F := C339 N) hc 0 0 rfl ?_
  unfold f339 at h
  dsimp only [C339, startL]
  refine AWc.seq ?_
  refine AWc.rg hmix rfl rfl ?_
  refine RegV.p0 rfl rfl rfl ?_
  refine RegV.nil0 ?_
  refine AWc.seqS (N := 53) 0 (fun (z : Unit) => [(0, (.d (.str a0)))]) (fun z => []) (fun z => f339_j78 k a0 = some r) rfl_le ?_ ?_
  · refine AWc.seq ?_
    refine AWc.rg hmix rfl rfl ?_
    refine RegV.p0 rfl rfl rfl ?_
    refine RegV.nil0 ?_
    obtain ⟨o10, h10, h⟩ := bind_some h
    refine AWc.block ?_
    refine AWc.loopK (N := 53) 0 (fun (x : Int) => [(0, (.d (.str a0))), (3, (.d (.int .i64 x)))]) (fun x => []) (fun k x => f339_l10 a0 k x = some o10) k (0 : Int) rfl_le (fun x hx => by cases hx) h10 ⟨rfl, [], [], rfl, rfl, ⟨⟨_, rfl, (.refl _)⟩, rfl, ⟨⟨_, rfl, (.refl _)⟩, rfl, trivial⟩⟩,  trivial⟩ ?_
    clear h10
    intro k
    intro y10_1 h10
    rw [f339_l10] at h10
    refine AWc.seq ?_
    refine AWc.seq ?_
    refine AWc.rg hmix rfl rfl ?_
    refine RegV.p0 rfl rfl rfl ?_
    refine RegV.p0 rfl rfl rfl ?_
    refine RegV.p0 (v := (.d (.int .i64 ((a0.length : Nat) : Int)))) rfl rfl rfl ?_
    refine RegV.p0 (v := (.d (.bool (decide (y10_1 < ((a0.length : Nat) : Int)))))) rfl rfl rfl ?_
    refine RegV.nil0 ?_
    refine AWc.cond rfl (fun c20 => ?_) (fun c20 => ?_)
    · have h10 := cond_pos c20 h10
      refine AWc.skip ?_
      refine AWc.seq ?_
      refine AWc.block ?_
      refine AWc.seq ?_
      refine AWc.rg hmix rfl rfl ?_
      refine RegV.p0 rfl rfl rfl ?_
      refine RegV.p0 rfl rfl rfl ?_
      obtain ⟨b30, h10⟩ := gd_some h10
      refine RegV.p1 (v := (.d (.int .u8 (((a0.getD (y10_1).toNat 0).toNat : Nat) : Int)))) rfl rfl b30 rfl rfl ?_
      refine RegV.p0 rfl rfl rfl ?_
      refine RegV.nil0 ?_
      refine AWc.seq ?_
      refine AWc.rg hmix rfl rfl ?_
      refine RegV.p0 rfl rfl rfl ?_
      refine RegV.p0 (v := (.d (.bool (decide ((((a0.getD (y10_1).toNat 0).toNat : Nat) : Int) ≥ (97 : Int)))))) rfl rfl rfl ?_
      refine RegV.p0 rfl rfl rfl ?_
      refine RegV.split (fun c37 => ?_) (fun c37 => ?_)
      · have h10 := cond_pos c37 h10
        refine RegV.p0 rfl rfl rfl ?_
        refine RegV.p0 (v := (.d (.bool (decide ((((a0.getD (y10_1).toNat 0).toNat : Nat) : Int) ≤ (122 : Int)))))) rfl rfl rfl ?_
        refine RegV.p0 rfl rfl rfl ?_
        refine RegV.p0 rfl rfl rfl ?_
        refine RegV.split (fun c41 => ?_) (fun c41 => ?_)
        · have h10 := cond_pos c41 h10
          refine RegV.noS rfl rfl ?_
          refine RegV.noS rfl rfl ?_
          refine RegV.noS rfl rfl ?_
          refine RegV.noS rfl rfl ?_
          refine RegV.noS rfl rfl ?_
          refine RegV.noS rfl rfl ?_
          refine RegV.p0 rfl rfl rfl ?_
          refine RegV.p0 rfl rfl rfl ?_
          refine RegV.noS rfl rfl ?_
          refine RegV.noS rfl rfl ?_
          refine RegV.p0 rfl rfl rfl ?_
          refine RegV.p0 rfl rfl rfl ?_
          refine RegV.noS rfl rfl ?_
          refine RegV.noS rfl rfl ?_
          refine RegV.noS rfl rfl ?_
          refine RegV.noS rfl rfl ?_
          refine RegV.noS rfl rfl ?_
          refine RegV.noS rfl rfl ?_
          refine RegV.noS rfl rfl ?_
          refine RegV.noS rfl rfl ?_
          refine RegV.noS rfl rfl ?_
          refine RegV.noS rfl rfl ?_
          refine RegV.p0 rfl rfl rfl ?_
          refine RegV.p0 (v := (.d (.bool false))) rfl rfl rfl ?_
          refine RegV.nil0 ?_
          refine AWc.cond rfl (fun hc => by cases hc) (fun _ => ?_)
          refine AWc.skip ?_
          refine AWc.rg hmix rfl rfl ?_
          refine RegV.p0 rfl rfl rfl ?_
          refine RegV.p0 (v := (.d (.int .i64 (IntKind.i64.wrap (y10_1 + (1 : Int)))))) rfl rfl rfl ?_
          refine RegV.p0 rfl rfl rfl ?_
          refine RegV.nil0 ?_
          exact ⟨(IntKind.i64.wrap (y10_1 + (1 : Int))), h10, ⟨rfl, [], [], rfl, rfl, ⟨⟨_, rfl, (.refl _)⟩, rfl, ⟨⟨_, rfl, (.refl _)⟩, rfl, trivial⟩⟩,  trivial⟩⟩
        · have h10 := cond_neg c41 h10
          refine RegV.p0 rfl rfl rfl ?_
          refine RegV.p0 (v := (.d (.bool (decide ((((a0.getD (y10_1).toNat 0).toNat : Nat) : Int) ≥ (65 : Int)))))) rfl rfl rfl ?_
          refine RegV.p0 rfl rfl rfl ?_
          refine RegV.split (fun c44 => ?_) (fun c44 => ?_)
          · have h10 := cond_pos c44 h10
            refine RegV.p0 rfl rfl rfl ?_
            refine RegV.p0 (v := (.d (.bool (decide ((((a0.getD (y10_1).toNat 0).toNat : Nat) : Int) ≤ (90 : Int)))))) rfl rfl rfl ?_
            refine RegV.p0 rfl rfl rfl ?_
            refine RegV.p0 rfl rfl rfl ?_
            refine RegV.p0 rfl rfl rfl ?_
            refine RegV.split (fun c49 => ?_) (fun c49 => ?_)
            · have h10 := cond_pos c49 h10
              refine RegV.noS rfl rfl ?_
              refine RegV.noS rfl rfl ?_
              refine RegV.p0 rfl rfl rfl ?_
              refine RegV.p0 rfl rfl rfl ?_
              refine RegV.noS rfl rfl ?_
              refine RegV.noS rfl rfl ?_
              refine RegV.noS rfl rfl ?_
              refine RegV.noS rfl rfl ?_
              refine RegV.noS rfl rfl ?_
              refine RegV.noS rfl rfl ?_
              refine RegV.noS rfl rfl ?_
              refine RegV.noS rfl rfl ?_
              refine RegV.noS rfl rfl ?_
              refine RegV.noS rfl rfl ?_
              refine RegV.p0 rfl rfl rfl ?_
              refine RegV.p0 (v := (.d (.bool false))) rfl rfl rfl ?_
              refine RegV.nil0 ?_
              refine AWc.cond rfl (fun hc => by cases hc) (fun _ => ?_)
              refine AWc.skip ?_
              refine AWc.rg hmix rfl rfl ?_
              refine RegV.p0 rfl rfl rfl ?_
              refine RegV.p0 (v := (.d (.int .i64 (IntKind.i64.wrap (y10_1 + (1 : Int)))))) rfl rfl rfl ?_
              refine RegV.p0 rfl rfl rfl ?_
              refine RegV.nil0 ?_
              exact ⟨(IntKind.i64.wrap (y10_1 + (1 : Int))), h10, ⟨rfl, [], [], rfl, rfl, ⟨⟨_, rfl, (.refl _)⟩, rfl, ⟨⟨_, rfl, (.refl _)⟩, rfl, trivial⟩⟩,  trivial⟩⟩
            · have h10 := cond_neg c49 h10
              refine RegV.p0 rfl rfl rfl ?_
              refine RegV.p0 (v := (.d (.bool (decide ((((a0.getD (y10_1).toNat 0).toNat : Nat) : Int) = (95 : Int)))))) rfl rfl rfl ?_
              refine RegV.p0 rfl rfl rfl ?_
              refine RegV.p0 rfl rfl rfl ?_
              refine RegV.split (fun c53 => ?_) (fun c53 => ?_)
              · have h10 := cond_pos c53 h10
                refine RegV.noS rfl rfl ?_
                refine RegV.noS rfl rfl ?_
                refine RegV.noS rfl rfl ?_
                refine RegV.noS rfl rfl ?_
                refine RegV.noS rfl rfl ?_
                refine RegV.noS rfl rfl ?_
                refine RegV.noS rfl rfl ?_
                refine RegV.noS rfl rfl ?_
                refine RegV.noS rfl rfl ?_
                refine RegV.noS rfl rfl ?_
                refine RegV.p0 rfl rfl rfl ?_
                refine RegV.p0 (v := (.d (.bool false))) rfl rfl rfl ?_
                refine RegV.nil0 ?_
                refine AWc.cond rfl (fun hc => by cases hc) (fun _ => ?_)
                refine AWc.skip ?_
                refine AWc.rg hmix rfl rfl ?_
                refine RegV.p0 rfl rfl rfl ?_
                refine RegV.p0 (v := (.d (.int .i64 (IntKind.i64.wrap (y10_1 + (1 : Int)))))) rfl rfl rfl ?_
                refine RegV.p0 rfl rfl rfl ?_
                refine RegV.nil0 ?_
                exact ⟨(IntKind.i64.wrap (y10_1 + (1 : Int))), h10, ⟨rfl, [], [], rfl, rfl, ⟨⟨_, rfl, (.refl _)⟩, rfl, ⟨⟨_, rfl, (.refl _)⟩, rfl, trivial⟩⟩,  trivial⟩⟩
              · have h10 := cond_neg c53 h10
                refine RegV.p0 rfl rfl rfl ?_
                refine RegV.p0 (v := (.d (.bool (decide (y10_1 > (0 : Int)))))) rfl rfl rfl ?_
                refine RegV.p0 rfl rfl rfl ?_
                refine RegV.split (fun c56 => ?_) (fun c56 => ?_)
                · have h10 := cond_pos c56 h10
                  refine RegV.p0 rfl rfl rfl ?_
                  refine RegV.p0 (v := (.d (.bool (decide ((((a0.getD (y10_1).toNat 0).toNat : Nat) : Int) ≥ (48 : Int)))))) rfl rfl rfl ?_
                  refine RegV.p0 rfl rfl rfl ?_
                  refine RegV.p0 rfl rfl rfl ?_
                  refine RegV.split (fun c60 => ?_) (fun c60 => ?_)
                  · have h10 := cond_pos c60 h10
                    refine RegV.p0 rfl rfl rfl ?_
                    refine RegV.p0 (v := (.d (.bool (decide ((((a0.getD (y10_1).toNat 0).toNat : Nat) : Int) ≤ (57 : Int)))))) rfl rfl rfl ?_
                    refine RegV.p0 rfl rfl rfl ?_
                    refine RegV.p0 rfl rfl rfl ?_
                    refine RegV.p0 (v := (.d (.bool (!(decide ((((a0.getD (y10_1).toNat 0).toNat : Nat) : Int) ≤ (57 : Int))))))) rfl rfl rfl ?_
                    refine RegV.nil0 ?_
                    refine AWc.cond rfl (fun c66 => ?_) (fun c66 => ?_)
                    · have h10 := cond_pos c66 h10
                      refine AWc.seq ?_
                      refine AWc.rg hmix rfl rfl ?_
                      refine RegV.p0 rfl rfl rfl ?_
                      refine RegV.nil0 ?_
                      cases h10
                      dsimp only at h
                      have hr := Option.some.inj h
                      subst hr
                      exact AWc.ret (canQ (N := 53) (k := 0) (l' := [(2, (.d (.bool false)))]) (H' := []) rfl ⟨rfl, [], [], rfl, rfl, ⟨⟨_, rfl, (.refl _)⟩, rfl, trivial⟩,  trivial⟩ (doneA (.inr rfl) rfl ⟨trivial, trivial⟩ (.refl _) hasNil))
                    · have h10 := cond_neg c66 h10
                      refine AWc.skip ?_
                      refine AWc.rg hmix rfl rfl ?_
                      refine RegV.p0 rfl rfl rfl ?_
                      refine RegV.p0 (v := (.d (.int .i64 (IntKind.i64.wrap (y10_1 + (1 : Int)))))) rfl rfl rfl ?_
                      refine RegV.p0 rfl rfl rfl ?_
                      refine RegV.nil0 ?_
                      exact ⟨(IntKind.i64.wrap (y10_1 + (1 : Int))), h10, ⟨rfl, [], [], rfl, rfl, ⟨⟨_, rfl, (.refl _)⟩, rfl, ⟨⟨_, rfl, (.refl _)⟩, rfl, trivial⟩⟩,  trivial⟩⟩
                  · have h10 := cond_neg c60 h10
                    refine RegV.noS rfl rfl ?_
                    refine RegV.noS rfl rfl ?_
                    refine RegV.p0 rfl rfl rfl ?_
                    refine RegV.p0 rfl rfl rfl ?_
                    refine RegV.p0 (v := (.d (.bool true))) rfl rfl rfl ?_
                    refine RegV.nil0 ?_
                    refine AWc.cond rfl (fun _ => ?_) (fun hc => by cases hc)
                    refine AWc.seq ?_
                    refine AWc.rg hmix rfl rfl ?_
                    refine RegV.p0 rfl rfl rfl ?_
                    refine RegV.nil0 ?_
                    cases h10
                    dsimp only at h
                    have hr := Option.some.inj h
                    subst hr
                    exact AWc.ret (canQ (N := 53) (k := 0) (l' := [(2, (.d (.bool false)))]) (H' := []) rfl ⟨rfl, [], [], rfl, rfl, ⟨⟨_, rfl, (.refl _)⟩, rfl, trivial⟩,  trivial⟩ (doneA (.inr rfl) rfl ⟨trivial, trivial⟩ (.refl _) hasNil))
                · have h10 := cond_neg c56 h10
                  refine RegV.noS rfl rfl ?_
                  refine RegV.noS rfl rfl ?_
                  refine RegV.p0 rfl rfl rfl ?_
                  refine RegV.p0 rfl rfl rfl ?_
                  refine RegV.noS rfl rfl ?_
                  refine RegV.noS rfl rfl ?_
                  refine RegV.p0 rfl rfl rfl ?_
                  refine RegV.p0 rfl rfl rfl ?_
                  refine RegV.p0 (v := (.d (.bool true))) rfl rfl rfl ?_
                  refine RegV.nil0 ?_
                  refine AWc.cond rfl (fun _ => ?_) (fun hc => by cases hc)
                  refine AWc.seq ?_
                  refine AWc.rg hmix rfl rfl ?_
                  refine RegV.p0 rfl rfl rfl ?_
                  refine RegV.nil0 ?_
                  cases h10
                  dsimp only at h
                  have hr := Option.some.inj h
                  subst hr
                  exact AWc.ret (canQ (N := 53) (k := 0) (l' := [(2, (.d (.bool false)))]) (H' := []) rfl ⟨rfl, [], [], rfl, rfl, ⟨⟨_, rfl, (.refl _)⟩, rfl, trivial⟩,  trivial⟩ (doneA (.inr rfl) rfl ⟨trivial, trivial⟩ (.refl _) hasNil))
          · have h10 := cond_neg c44 h10
            refine RegV.noS rfl rfl ?_
            refine RegV.noS rfl rfl ?_
            refine RegV.p0 rfl rfl rfl ?_
            refine RegV.p0 rfl rfl rfl ?_
            refine RegV.p0 rfl rfl rfl ?_
            refine RegV.p0 rfl rfl rfl ?_
            refine RegV.p0 (v := (.d (.bool (decide ((((a0.getD (y10_1).toNat 0).toNat : Nat) : Int) = (95 : Int)))))) rfl rfl rfl ?_
            refine RegV.p0 rfl rfl rfl ?_
            refine RegV.p0 rfl rfl rfl ?_
            refine RegV.split (fun c53 => ?_) (fun c53 => ?_)
            · have h10 := cond_pos c53 h10
              refine RegV.noS rfl rfl ?_
              refine RegV.noS rfl rfl ?_
              refine RegV.noS rfl rfl ?_
              refine RegV.noS rfl rfl ?_
              refine RegV.noS rfl rfl ?_
              refine RegV.noS rfl rfl ?_
              refine RegV.noS rfl rfl ?_
              refine RegV.noS rfl rfl ?_
              refine RegV.noS rfl rfl ?_
              refine RegV.noS rfl rfl ?_
              refine RegV.p0 rfl rfl rfl ?_
              refine RegV.p0 (v := (.d (.bool false))) rfl rfl rfl ?_
              refine RegV.nil0 ?_
              refine AWc.cond rfl (fun hc => by cases hc) (fun _ => ?_)
              refine AWc.skip ?_
              refine AWc.rg hmix rfl rfl ?_
              refine RegV.p0 rfl rfl rfl ?_
              refine RegV.p0 (v := (.d (.int .i64 (IntKind.i64.wrap (y10_1 + (1 : Int)))))) rfl rfl rfl ?_
              refine RegV.p0 rfl rfl rfl ?_
              refine RegV.nil0 ?_
              exact ⟨(IntKind.i64.wrap (y10_1 + (1 : Int))), h10, ⟨rfl, [], [], rfl, rfl, ⟨⟨_, rfl, (.refl _)⟩, rfl, ⟨⟨_, rfl, (.refl _)⟩, rfl, trivial⟩⟩,  trivial⟩⟩
            · have h10 := cond_neg c53 h10
              refine RegV.p0 rfl rfl rfl ?_
              refine RegV.p0 (v := (.d (.bool (decide (y10_1 > (0 : Int)))))) rfl rfl rfl ?_
              refine RegV.p0 rfl rfl rfl ?_
              refine RegV.split (fun c56 => ?_) (fun c56 => ?_)
              · have h10 := cond_pos c56 h10
                refine RegV.p0 rfl rfl rfl ?_
                refine RegV.p0 (v := (.d (.bool (decide ((((a0.getD (y10_1).toNat 0).toNat : Nat) : Int) ≥ (48 : Int)))))) rfl rfl rfl ?_
                refine RegV.p0 rfl rfl rfl ?_
                refine RegV.p0 rfl rfl rfl ?_
                refine RegV.split (fun c60 => ?_) (fun c60 => ?_)
                · have h10 := cond_pos c60 h10
                  refine RegV.p0 rfl rfl rfl ?_
                  refine RegV.p0 (v := (.d (.bool (decide ((((a0.getD (y10_1).toNat 0).toNat : Nat) : Int) ≤ (57 : Int)))))) rfl rfl rfl ?_
                  refine RegV.p0 rfl rfl rfl ?_
                  refine RegV.p0 rfl rfl rfl ?_
                  refine RegV.p0 (v := (.d (.bool (!(decide ((((a0.getD (y10_1).toNat 0).toNat : Nat) : Int) ≤ (57 : Int))))))) rfl rfl rfl ?_
                  refine RegV.nil0 ?_
                  refine AWc.cond rfl (fun c66 => ?_) (fun c66 => ?_)
                  · have h10 := cond_pos c66 h10
                    refine AWc.seq ?_
                    refine AWc.rg hmix rfl rfl ?_
                    refine RegV.p0 rfl rfl rfl ?_
                    refine RegV.nil0 ?_
                    cases h10
                    dsimp only at h
                    have hr := Option.some.inj h
                    subst hr
                    exact AWc.ret (canQ (N := 53) (k := 0) (l' := [(2, (.d (.bool false)))]) (H' := []) rfl ⟨rfl, [], [], rfl, rfl, ⟨⟨_, rfl, (.refl _)⟩, rfl, trivial⟩,  trivial⟩ (doneA (.inr rfl) rfl ⟨trivial, trivial⟩ (.refl _) hasNil))
                  · have h10 := cond_neg c66 h10
                    refine AWc.skip ?_
                    refine AWc.rg hmix rfl rfl ?_
                    refine RegV.p0 rfl rfl rfl ?_
                    refine RegV.p0 (v := (.d (.int .i64 (IntKind.i64.wrap (y10_1 + (1 : Int)))))) rfl rfl rfl ?_
                    refine RegV.p0 rfl rfl rfl ?_
                    refine RegV.nil0 ?_
                    exact ⟨(IntKind.i64.wrap (y10_1 + (1 : Int))), h10, ⟨rfl, [], [], rfl, rfl, ⟨⟨_, rfl, (.refl _)⟩, rfl, ⟨⟨_, rfl, (.refl _)⟩, rfl, trivial⟩⟩,  trivial⟩⟩
                · have h10 := cond_neg c60 h10
                  refine RegV.noS rfl rfl ?_
                  refine RegV.noS rfl rfl ?_
                  refine RegV.p0 rfl rfl rfl ?_
                  refine RegV.p0 rfl rfl rfl ?_
                  refine RegV.p0 (v := (.d (.bool true))) rfl rfl rfl ?_
                  refine RegV.nil0 ?_
                  refine AWc.cond rfl (fun _ => ?_) (fun hc => by cases hc)
                  refine AWc.seq ?_
                  refine AWc.rg hmix rfl rfl ?_
                  refine RegV.p0 rfl rfl rfl ?_
                  refine RegV.nil0 ?_
                  cases h10
                  dsimp only at h
                  have hr := Option.some.inj h
                  subst hr
                  exact AWc.ret (canQ (N := 53) (k := 0) (l' := [(2, (.d (.bool false)))]) (H' := []) rfl ⟨rfl, [], [], rfl, rfl, ⟨⟨_, rfl, (.refl _)⟩, rfl, trivial⟩,  trivial⟩ (doneA (.inr rfl) rfl ⟨trivial, trivial⟩ (.refl _) hasNil))
              · have h10 := cond_neg c56 h10
                refine RegV.noS rfl rfl ?_
                refine RegV.noS rfl rfl ?_
                refine RegV.p0 rfl rfl rfl ?_
                refine RegV.p0 rfl rfl rfl ?_
                refine RegV.noS rfl rfl ?_
                refine RegV.noS rfl rfl ?_
                refine RegV.p0 rfl rfl rfl ?_
                refine RegV.p0 rfl rfl rfl ?_
                refine RegV.p0 (v := (.d (.bool true))) rfl rfl rfl ?_
                refine RegV.nil0 ?_
                refine AWc.cond rfl (fun _ => ?_) (fun hc => by cases hc)
                refine AWc.seq ?_
                refine AWc.rg hmix rfl rfl ?_
                refine RegV.p0 rfl rfl rfl ?_
                refine RegV.nil0 ?_
                cases h10
                dsimp only at h
                have hr := Option.some.inj h
                subst hr
                exact AWc.ret (canQ (N := 53) (k := 0) (l' := [(2, (.d (.bool false)))]) (H' := []) rfl ⟨rfl, [], [], rfl, rfl, ⟨⟨_, rfl, (.refl _)⟩, rfl, trivial⟩,  trivial⟩ (doneA (.inr rfl) rfl ⟨trivial, trivial⟩ (.refl _) hasNil))
      · have h10 := cond_neg c37 h10
        refine RegV.noS rfl rfl ?_
        refine RegV.noS rfl rfl ?_
        refine RegV.p0 rfl rfl rfl ?_
        refine RegV.p0 rfl rfl rfl ?_
        refine RegV.p0 rfl rfl rfl ?_
        refine RegV.p0 (v := (.d (.bool (decide ((((a0.getD (y10_1).toNat 0).toNat : Nat) : Int) ≥ (65 : Int)))))) rfl rfl rfl ?_
        refine RegV.p0 rfl rfl rfl ?_
        refine RegV.split (fun c44 => ?_) (fun c44 => ?_)
        · have h10 := cond_pos c44 h10
          refine RegV.p0 rfl rfl rfl ?_
          refine RegV.p0 (v := (.d (.bool (decide ((((a0.getD (y10_1).toNat 0).toNat : Nat) : Int) ≤ (90 : Int)))))) rfl rfl rfl ?_
          refine RegV.p0 rfl rfl rfl ?_
          refine RegV.p0 rfl rfl rfl ?_
          refine RegV.p0 rfl rfl rfl ?_
          refine RegV.split (fun c49 => ?_) (fun c49 => ?_)
          · have h10 := cond_pos c49 h10
            refine RegV.noS rfl rfl ?_
            refine RegV.noS rfl rfl ?_
            refine RegV.p0 rfl rfl rfl ?_
            refine RegV.p0 rfl rfl rfl ?_
            refine RegV.noS rfl rfl ?_
            refine RegV.noS rfl rfl ?_
            refine RegV.noS rfl rfl ?_
            refine RegV.noS rfl rfl ?_
            refine RegV.noS rfl rfl ?_
            refine RegV.noS rfl rfl ?_
            refine RegV.noS rfl rfl ?_
            refine RegV.noS rfl rfl ?_
            refine RegV.noS rfl rfl ?_
            refine RegV.noS rfl rfl ?_
            refine RegV.p0 rfl rfl rfl ?_
            refine RegV.p0 (v := (.d (.bool false))) rfl rfl rfl ?_
            refine RegV.nil0 ?_
            refine AWc.cond rfl (fun hc => by cases hc) (fun _ => ?_)
            refine AWc.skip ?_
            refine AWc.rg hmix rfl rfl ?_
            refine RegV.p0 rfl rfl rfl ?_
            refine RegV.p0 (v := (.d (.int .i64 (IntKind.i64.wrap (y10_1 + (1 : Int)))))) rfl rfl rfl ?_
            refine RegV.p0 rfl rfl rfl ?_
            refine RegV.nil0 ?_
            exact ⟨(IntKind.i64.wrap (y10_1 + (1 : Int))), h10, ⟨rfl, [], [], rfl, rfl, ⟨⟨_, rfl, (.refl _)⟩, rfl, ⟨⟨_, rfl, (.refl _)⟩, rfl, trivial⟩⟩,  trivial⟩⟩
          · have h10 := cond_neg c49 h10
            refine RegV.p0 rfl rfl rfl ?_
            refine RegV.p0 (v := (.d (.bool (decide ((((a0.getD (y10_1).toNat 0).toNat : Nat) : Int) = (95 : Int)))))) rfl rfl rfl ?_
            refine RegV.p0 rfl rfl rfl ?_
            refine RegV.p0 rfl rfl rfl ?_
            refine RegV.split (fun c53 => ?_) (fun c53 => ?_)
            · have h10 := cond_pos c53 h10
              refine RegV.noS rfl rfl ?_
              refine RegV.noS rfl rfl ?_
              refine RegV.noS rfl rfl ?_
              refine RegV.noS rfl rfl ?_
              refine RegV.noS rfl rfl ?_
              refine RegV.noS rfl rfl ?_
              refine RegV.noS rfl rfl ?_
              refine RegV.noS rfl rfl ?_
              refine RegV.noS rfl rfl ?_
              refine RegV.noS rfl rfl ?_
              refine RegV.p0 rfl rfl rfl ?_
              refine RegV.p0 (v := (.d (.bool false))) rfl rfl rfl ?_
              refine RegV.nil0 ?_
              refine AWc.cond rfl (fun hc => by cases hc) (fun _ => ?_)
              refine AWc.skip ?_
              refine AWc.rg hmix rfl rfl ?_
              refine RegV.p0 rfl rfl rfl ?_
              refine RegV.p0 (v := (.d (.int .i64 (IntKind.i64.wrap (y10_1 + (1 : Int)))))) rfl rfl rfl ?_
              refine RegV.p0 rfl rfl rfl ?_
              refine RegV.nil0 ?_
              exact ⟨(IntKind.i64.wrap (y10_1 + (1 : Int))), h10, ⟨rfl, [], [], rfl, rfl, ⟨⟨_, rfl, (.refl _)⟩, rfl, ⟨⟨_, rfl, (.refl _)⟩, rfl, trivial⟩⟩,  trivial⟩⟩
            · have h10 := cond_neg c53 h10
              refine RegV.p0 rfl rfl rfl ?_
              refine RegV.p0 (v := (.d (.bool (decide (y10_1 > (0 : Int)))))) rfl rfl rfl ?_
              refine RegV.p0 rfl rfl rfl ?_
              refine RegV.split (fun c56 => ?_) (fun c56 => ?_)
              · have h10 := cond_pos c56 h10
                refine RegV.p0 rfl rfl rfl ?_
                refine RegV.p0 (v := (.d (.bool (decide ((((a0.getD (y10_1).toNat 0).toNat : Nat) : Int) ≥ (48 : Int)))))) rfl rfl rfl ?_
                refine RegV.p0 rfl rfl rfl ?_
                refine RegV.p0 rfl rfl rfl ?_
                refine RegV.split (fun c60 => ?_) (fun c60 => ?_)
                · have h10 := cond_pos c60 h10
                  refine RegV.p0 rfl rfl rfl ?_
                  refine RegV.p0 (v := (.d (.bool (decide ((((a0.getD (y10_1).toNat 0).toNat : Nat) : Int) ≤ (57 : Int)))))) rfl rfl rfl ?_
                  refine RegV.p0 rfl rfl rfl ?_
                  refine RegV.p0 rfl rfl rfl ?_
                  refine RegV.p0 (v := (.d (.bool (!(decide ((((a0.getD (y10_1).toNat 0).toNat : Nat) : Int) ≤ (57 : Int))))))) rfl rfl rfl ?_
                  refine RegV.nil0 ?_
                  refine AWc.cond rfl (fun c66 => ?_) (fun c66 => ?_)
                  · have h10 := cond_pos c66 h10
                    refine AWc.seq ?_
                    refine AWc.rg hmix rfl rfl ?_
                    refine RegV.p0 rfl rfl rfl ?_
                    refine RegV.nil0 ?_
                    cases h10
                    dsimp only at h
                    have hr := Option.some.inj h
                    subst hr
                    exact AWc.ret (canQ (N := 53) (k := 0) (l' := [(2, (.d (.bool false)))]) (H' := []) rfl ⟨rfl, [], [], rfl, rfl, ⟨⟨_, rfl, (.refl _)⟩, rfl, trivial⟩,  trivial⟩ (doneA (.inr rfl) rfl ⟨trivial, trivial⟩ (.refl _) hasNil))
                  · have h10 := cond_neg c66 h10
                    refine AWc.skip ?_
                    refine AWc.rg hmix rfl rfl ?_
                    refine RegV.p0 rfl rfl rfl ?_
                    refine RegV.p0 (v := (.d (.int .i64 (IntKind.i64.wrap (y10_1 + (1 : Int)))))) rfl rfl rfl ?_
                    refine RegV.p0 rfl rfl rfl ?_
                    refine RegV.nil0 ?_
                    exact ⟨(IntKind.i64.wrap (y10_1 + (1 : Int))), h10, ⟨rfl, [], [], rfl, rfl, ⟨⟨_, rfl, (.refl _)⟩, rfl, ⟨⟨_, rfl, (.refl _)⟩, rfl, trivial⟩⟩,  trivial⟩⟩
                · have h10 := cond_neg c60 h10
                  refine RegV.noS rfl rfl ?_
                  refine RegV.noS rfl rfl ?_
                  refine RegV.p0 rfl rfl rfl ?_
                  refine RegV.p0 rfl rfl rfl ?_
                  refine RegV.p0 (v := (.d (.bool true))) rfl rfl rfl ?_
                  refine RegV.nil0 ?_
                  refine AWc.cond rfl (fun _ => ?_) (fun hc => by cases hc)
                  refine AWc.seq ?_
                  refine AWc.rg hmix rfl rfl ?_
                  refine RegV.p0 rfl rfl rfl ?_
                  refine RegV.nil0 ?_
                  cases h10
                  dsimp only at h
                  have hr := Option.some.inj h
                  subst hr
                  exact AWc.ret (canQ (N := 53) (k := 0) (l' := [(2, (.d (.bool false)))]) (H' := []) rfl ⟨rfl, [], [], rfl, rfl, ⟨⟨_, rfl, (.refl _)⟩, rfl, trivial⟩,  trivial⟩ (doneA (.inr rfl) rfl ⟨trivial, trivial⟩ (.refl _) hasNil))
              · have h10 := cond_neg c56 h10
                refine RegV.noS rfl rfl ?_
                refine RegV.noS rfl rfl ?_
                refine RegV.p0 rfl rfl rfl ?_
                refine RegV.p0 rfl rfl rfl ?_
                refine RegV.noS rfl rfl ?_
                refine RegV.noS rfl rfl ?_
                refine RegV.p0 rfl rfl rfl ?_
                refine RegV.p0 rfl rfl rfl ?_
                refine RegV.p0 (v := (.d (.bool true))) rfl rfl rfl ?_
                refine RegV.nil0 ?_
                refine AWc.cond rfl (fun _ => ?_) (fun hc => by cases hc)
                refine AWc.seq ?_
                refine AWc.rg hmix rfl rfl ?_
                refine RegV.p0 rfl rfl rfl ?_
                refine RegV.nil0 ?_
                cases h10
                dsimp only at h
                have hr := Option.some.inj h
                subst hr
                exact AWc.ret (canQ (N := 53) (k := 0) (l' := [(2, (.d (.bool false)))]) (H' := []) rfl ⟨rfl, [], [], rfl, rfl, ⟨⟨_, rfl, (.refl _)⟩, rfl, trivial⟩,  trivial⟩ (doneA (.inr rfl) rfl ⟨trivial, trivial⟩ (.refl _) hasNil))
        · have h10 := cond_neg c44 h10
          refine RegV.noS rfl rfl ?_
          refine RegV.noS rfl rfl ?_
          refine RegV.p0 rfl rfl rfl ?_
          refine RegV.p0 rfl rfl rfl ?_
          refine RegV.p0 rfl rfl rfl ?_
          refine RegV.p0 rfl rfl rfl ?_
          refine RegV.p0 (v := (.d (.bool (decide ((((a0.getD (y10_1).toNat 0).toNat : Nat) : Int) = (95 : Int)))))) rfl rfl rfl ?_
          refine RegV.p0 rfl rfl rfl ?_
          refine RegV.p0 rfl rfl rfl ?_
          refine RegV.split (fun c53 => ?_) (fun c53 => ?_)
          · have h10 := cond_pos c53 h10
            refine RegV.noS rfl rfl ?_
            refine RegV.noS rfl rfl ?_
            refine RegV.noS rfl rfl ?_
            refine RegV.noS rfl rfl ?_
            refine RegV.noS rfl rfl ?_
            refine RegV.noS rfl rfl ?_
            refine RegV.noS rfl rfl ?_
            refine RegV.noS rfl rfl ?_
            refine RegV.noS rfl rfl ?_
            refine RegV.noS rfl rfl ?_
            refine RegV.p0 rfl rfl rfl ?_
            refine RegV.p0 (v := (.d (.bool false))) rfl rfl rfl ?_
            refine RegV.nil0 ?_
            refine AWc.cond rfl (fun hc => by cases hc) (fun _ => ?_)
            refine AWc.skip ?_
            refine AWc.rg hmix rfl rfl ?_
            refine RegV.p0 rfl rfl rfl ?_
            refine RegV.p0 (v := (.d (.int .i64 (IntKind.i64.wrap (y10_1 + (1 : Int)))))) rfl rfl rfl ?_
            refine RegV.p0 rfl rfl rfl ?_
            refine RegV.nil0 ?_
            exact ⟨(IntKind.i64.wrap (y10_1 + (1 : Int))), h10, ⟨rfl, [], [], rfl, rfl, ⟨⟨_, rfl, (.refl _)⟩, rfl, ⟨⟨_, rfl, (.refl _)⟩, rfl, trivial⟩⟩,  trivial⟩⟩
          · have h10 := cond_neg c53 h10
            refine RegV.p0 rfl rfl rfl ?_
            refine RegV.p0 (v := (.d (.bool (decide (y10_1 > (0 : Int)))))) rfl rfl rfl ?_
            refine RegV.p0 rfl rfl rfl ?_
            refine RegV.split (fun c56 => ?_) (fun c56 => ?_)
            · have h10 := cond_pos c56 h10
              refine RegV.p0 rfl rfl rfl ?_
              refine RegV.p0 (v := (.d (.bool (decide ((((a0.getD (y10_1).toNat 0).toNat : Nat) : Int) ≥ (48 : Int)))))) rfl rfl rfl ?_
              refine RegV.p0 rfl rfl rfl ?_
              refine RegV.p0 rfl rfl rfl ?_
              refine RegV.split (fun c60 => ?_) (fun c60 => ?_)
              · have h10 := cond_pos c60 h10
                refine RegV.p0 rfl rfl rfl ?_
                refine RegV.p0 (v := (.d (.bool (decide ((((a0.getD (y10_1).toNat 0).toNat : Nat) : Int) ≤ (57 : Int)))))) rfl rfl rfl ?_
                refine RegV.p0 rfl rfl rfl ?_
                refine RegV.p0 rfl rfl rfl ?_
                refine RegV.p0 (v := (.d (.bool (!(decide ((((a0.getD (y10_1).toNat 0).toNat : Nat) : Int) ≤ (57 : Int))))))) rfl rfl rfl ?_
                refine RegV.nil0 ?_
                refine AWc.cond rfl (fun c66 => ?_) (fun c66 => ?_)
                · have h10 := cond_pos c66 h10
                  refine AWc.seq ?_
                  refine AWc.rg hmix rfl rfl ?_
                  refine RegV.p0 rfl rfl rfl ?_
                  refine RegV.nil0 ?_
                  cases h10
                  dsimp only at h
                  have hr := Option.some.inj h
                  subst hr
                  exact AWc.ret (canQ (N := 53) (k := 0) (l' := [(2, (.d (.bool false)))]) (H' := []) rfl ⟨rfl, [], [], rfl, rfl, ⟨⟨_, rfl, (.refl _)⟩, rfl, trivial⟩,  trivial⟩ (doneA (.inr rfl) rfl ⟨trivial, trivial⟩ (.refl _) hasNil))
                · have h10 := cond_neg c66 h10
                  refine AWc.skip ?_
                  refine AWc.rg hmix rfl rfl ?_
                  refine RegV.p0 rfl rfl rfl ?_
                  refine RegV.p0 (v := (.d (.int .i64 (IntKind.i64.wrap (y10_1 + (1 : Int)))))) rfl rfl rfl ?_
                  refine RegV.p0 rfl rfl rfl ?_
                  refine RegV.nil0 ?_
                  exact ⟨(IntKind.i64.wrap (y10_1 + (1 : Int))), h10, ⟨rfl, [], [], rfl, rfl, ⟨⟨_, rfl, (.refl _)⟩, rfl, ⟨⟨_, rfl, (.refl _)⟩, rfl, trivial⟩⟩,  trivial⟩⟩
              · have h10 := cond_neg c60 h10
                refine RegV.noS rfl rfl ?_
                refine RegV.noS rfl rfl ?_
                refine RegV.p0 rfl rfl rfl ?_
                refine RegV.p0 rfl rfl rfl ?_
                refine RegV.p0 (v := (.d (.bool true))) rfl rfl rfl ?_
                refine RegV.nil0 ?_
                refine AWc.cond rfl (fun _ => ?_) (fun hc => by cases hc)
                refine AWc.seq ?_
                refine AWc.rg hmix rfl rfl ?_
                refine RegV.p0 rfl rfl rfl ?_
                refine RegV.nil0 ?_
                cases h10
                dsimp only at h
                have hr := Option.some.inj h
                subst hr
                exact AWc.ret (canQ (N := 53) (k := 0) (l' := [(2, (.d (.bool false)))]) (H' := []) rfl ⟨rfl, [], [], rfl, rfl, ⟨⟨_, rfl, (.refl _)⟩, rfl, trivial⟩,  trivial⟩ (doneA (.inr rfl) rfl ⟨trivial, trivial⟩ (.refl _) hasNil))
            · have h10 := cond_neg c56 h10
              refine RegV.noS rfl rfl ?_
              refine RegV.noS rfl rfl ?_
              refine RegV.p0 rfl rfl rfl ?_
              refine RegV.p0 rfl rfl rfl ?_
              refine RegV.noS rfl rfl ?_
              refine RegV.noS rfl rfl ?_
              refine RegV.p0 rfl rfl rfl ?_
              refine RegV.p0 rfl rfl rfl ?_
              refine RegV.p0 (v := (.d (.bool true))) rfl rfl rfl ?_
              refine RegV.nil0 ?_
              refine AWc.cond rfl (fun _ => ?_) (fun hc => by cases hc)
              refine AWc.seq ?_
              refine AWc.rg hmix rfl rfl ?_
              refine RegV.p0 rfl rfl rfl ?_
              refine RegV.nil0 ?_
              cases h10
              dsimp only at h
              have hr := Option.some.inj h
              subst hr
              exact AWc.ret (canQ (N := 53) (k := 0) (l' := [(2, (.d (.bool false)))]) (H' := []) rfl ⟨rfl, [], [], rfl, rfl, ⟨⟨_, rfl, (.refl _)⟩, rfl, trivial⟩,  trivial⟩ (doneA (.inr rfl) rfl ⟨trivial, trivial⟩ (.refl _) hasNil))
    · have h10 := cond_neg c20 h10
      cases h10
      dsimp only at h
      refine AWc.exit ?_
      refine inBlk_eq ?_
      exact ⟨(), h, ⟨rfl, [], [], rfl, rfl, ⟨⟨_, rfl, (.refl _)⟩, rfl, trivial⟩,  trivial⟩⟩
  · rintro ⟨⟩ h
    unfold f339_j78 at h
    refine AWc.seq ?_
    refine AWc.rg hmix rfl rfl ?_
    refine RegV.p0 rfl rfl rfl ?_
    refine RegV.p0 (v := (.d (.int .i64 ((a0.length : Nat) : Int)))) rfl rfl rfl ?_
    refine RegV.p0 (v := (.d (.bool (decide (((a0.length : Nat) : Int) ≥ (1 : Int)))))) rfl rfl rfl ?_
    refine RegV.p0 rfl rfl rfl ?_
    refine RegV.split (fun c84 => ?_) (fun c84 => ?_)
    · have h := cond_pos c84 h
      refine RegV.p0 rfl rfl rfl ?_
      refine RegV.p0 (v := (.d (.int .i64 ((a0.length : Nat) : Int)))) rfl rfl rfl ?_
      refine RegV.p0 (v := (.d (.bool (decide (((a0.length : Nat) : Int) ≤ (100 : Int)))))) rfl rfl rfl ?_
      refine RegV.p0 rfl rfl rfl ?_
      refine RegV.p0 rfl rfl rfl ?_
      refine RegV.nil0 ?_
      have hr := Option.some.inj h
      subst hr
      exact AWc.ret (canQ (N := 53) (k := 0) (l' := [(2, (.d (.bool (decide (((a0.length : Nat) : Int) ≤ (100 : Int))))))]) (H' := []) rfl ⟨rfl, [], [], rfl, rfl, ⟨⟨_, rfl, (.refl _)⟩, rfl, trivial⟩,  trivial⟩ (doneA (.inr rfl) rfl ⟨trivial, trivial⟩ (.refl _) hasNil))
    · have h := cond_neg c84 h
      refine RegV.noS rfl rfl ?_
      refine RegV.noS rfl rfl ?_
      refine RegV.noS rfl rfl ?_
      refine RegV.p0 rfl rfl rfl ?_
      refine RegV.p0 rfl rfl rfl ?_
      refine RegV.nil0 ?_
      have hr := Option.some.inj h
      subst hr
      exact AWc.ret (canQ (N := 53) (k := 0) (l' := [(2, (.d (.bool false)))]) (H' := []) rfl ⟨rfl, [], [], rfl, rfl, ⟨⟨_, rfl, (.refl _)⟩, rfl, trivial⟩,  trivial⟩ (doneA (.inr rfl) rfl ⟨trivial, trivial⟩ (.refl _) hasNil))
/-- courant/courantref03.last -/
def C257 (N : Nat → Nat) : AFunc := { n := 16, params := 1, res := [.tmp 2], body :=
 (.seq (.region false [⟨(some 2), .mv (.k (.d (.int .i64 0))), none, []⟩])
  (.seq (.seq (.region false [⟨(some 4), .mv (.t 0), none, []⟩,
     ⟨(some 5), .slen (.t 4), none, [0]⟩,
     ⟨(some 6), .bin .sub (.t 5) (.k (.d (.int .i64 1))), none, [1]⟩,
     ⟨(some 3), .mv (.t 6), none, [2, 0, 1]⟩])
    (.block 0 (.loop (.seq (.seq (.region false [⟨(some 7), .mv (.t 3), none, []⟩,
         ⟨(some 8), .bin .geq (.t 7) (.k (.d (.int .i64 0))), none, [0]⟩])
        (.cond (.t 8) (.skip)
         (.exit 0)))
       (.seq (.block 1 (.seq (.region false [⟨(some 11), .mv (.t 0), none, []⟩,
           ⟨(some 12), .mv (.t 3), none, []⟩,
           ⟨(some 13), .idx (.t 11) (.t 12), none, [0, 1]⟩,
           ⟨(some 14), .bin .eql (.t 13) (.k (.d (.int .u8 46))), none, [2]⟩])
          (.cond (.t 14) (.seq (.region false [⟨(some 15), .mv (.t 3), none, []⟩,
             ⟨(some 2), .mv (.t 15), none, [0]⟩])
            .ret)
           (.skip))))
        (.region false [⟨(some 9), .mv (.t 3), none, []⟩,
         ⟨(some 10), .bin .sub (.t 9) (.k (.d (.int .i64 1))), none, [0]⟩,
         ⟨(some 3), .mv (.t 10), none, [1, 0]⟩]))))))
   (.seq (.region false [⟨(some 2), .mv (.k (.d (.int .i64 (-1)))), none, []⟩])
    .ret))) }
def HC257 (P : Program) (N : Nat → Nat) : Prop := HasF P (N 257) (C257 N)
def f257_l13 (a0 : (List UInt8)) : Nat → Int → Option (LR2 Unit Unit Int)
  | 0, _ => none
  | k + 1, y13_1 => cond (decide (y13_1 ≥ (0 : Int))) (gd (0 ≤ y13_1 ∧ y13_1 < ((a0.length : Nat) : Int)) (cond (decide ((((a0.getD (y13_1).toNat 0).toNat : Nat) : Int) = (46 : Int))) (some (.r y13_1)) (f257_l13 a0 k (IntKind.i64.wrap (y13_1 - (1 : Int)))))) (some (.b0 ()))
def f257 (k : Nat) (a0 : (List UInt8)) : Option Int := (f257_l13 a0 k (IntKind.i64.wrap (((a0.length : Nat) : Int) - (1 : Int)))).bind fun o13 => (match o13 with | .b0 () => some (-1 : Int) | .r x => some x | _ => none)
theorem F257 {P : Program} {N : Nat → Nat} (hmix : P.follows .mixedOrders = true) (hc : HC257 P N) {k : Nat} {a0 : (List UInt8)} {r : Int} (h : f257 k a0 = some r) :
    ACalls P (N 257) [(.d (.str a0))] [] (.d (.int .i64 r)) [] := by
  refine acalls_canon (F := C257 N) hc 0 0 rfl ?_
  unfold f257 at h
  dsimp only [C257, startL]
  refine AWc.seq ?_
  refine AWc.rg hmix rfl rfl ?_
  refine RegV.p0 rfl rfl rfl ?_
  refine RegV.nil0 ?_
  refine AWc.seq ?_
  refine AWc.seq ?_
  refine AWc.rg hmix rfl rfl ?_
  refine RegV.p0 rfl rfl rfl ?_
  refine RegV.p0 (v := (.d (.int .i64 ((a0.length : Nat) : Int)))) rfl rfl rfl ?_
  refine RegV.p0 (v := (.d (.int .i64 (IntKind.i64.wrap (((a0.length : Nat) : Int) - (1 : Int)))))) rfl rfl rfl ?_
  refine RegV.p0 rfl rfl rfl ?_
  refine RegV.nil0 ?_
  obtain ⟨o13, h13, h⟩ := bind_some h
  refine AWc.block ?_
  refine AWc.loopK (N := 16) 0 (fun (x : Int) => [(0, (.d (.str a0))), (3, (.d (.int .i64 x)))]) (fun x => []) (fun k x => f257_l13 a0 k x = some o13) k (IntKind.i64.wrap (((a0.length : Nat) : Int) - (1 : Int))) rfl_le (fun x hx => by cases hx) h13 ⟨rfl, [], [], rfl, rfl, ⟨⟨_, rfl, (.refl _)⟩, rfl, ⟨⟨_, rfl, (.refl _)⟩, rfl, trivial⟩⟩,  trivial⟩ ?_
  clear h13
  intro k
  intro y13_1 h13
  rw [f257_l13] at h13
  refine AWc.seq ?_
  refine AWc.seq ?_
  refine AWc.rg hmix rfl rfl ?_
  refine RegV.p0 rfl rfl rfl ?_
  refine RegV.p0 (v := (.d (.bool (decide (y13_1 ≥ (0 : Int)))))) rfl rfl rfl ?_
  refine RegV.nil0 ?_
  refine AWc.cond rfl (fun c21 => ?_) (fun c21 => ?_)
  · have h13 := cond_pos c21 h13
    refine AWc.skip ?_
    refine AWc.seq ?_
    refine AWc.block ?_
    refine AWc.seq ?_
    refine AWc.rg hmix rfl rfl ?_
    refine RegV.p0 rfl rfl rfl ?_
    refine RegV.p0 rfl rfl rfl ?_
    obtain ⟨b31, h13⟩ := gd_some h13
    refine RegV.p1 (v := (.d (.int .u8 (((a0.getD (y13_1).toNat 0).toNat : Nat) : Int)))) rfl rfl b31 rfl rfl ?_
    refine RegV.p0 (v := (.d (.bool (decide ((((a0.getD (y13_1).toNat 0).toNat : Nat) : Int) = (46 : Int)))))) rfl rfl rfl ?_
    refine RegV.nil0 ?_
    refine AWc.cond rfl (fun c33 => ?_) (fun c33 => ?_)
    · have h13 := cond_pos c33 h13
      refine AWc.seq ?_
      refine AWc.rg hmix rfl rfl ?_
      refine RegV.p0 rfl rfl rfl ?_
      refine RegV.p0 rfl rfl rfl ?_
      refine RegV.nil0 ?_
      cases h13
      dsimp only at h
      have hr := Option.some.inj h
      subst hr
      exact AWc.ret (canQ (N := 16) (k := 0) (l' := [(2, (.d (.int .i64 y13_1)))]) (H' := []) rfl ⟨rfl, [], [], rfl, rfl, ⟨⟨_, rfl, (.refl _)⟩, rfl, trivial⟩,  trivial⟩ (doneA (.inr rfl) rfl ⟨trivial, trivial⟩ (.refl _) hasNil))
    · have h13 := cond_neg c33 h13
      refine AWc.skip ?_
      refine AWc.rg hmix rfl rfl ?_
      refine RegV.p0 rfl rfl rfl ?_
      refine RegV.p0 (v := (.d (.int .i64 (IntKind.i64.wrap (y13_1 - (1 : Int)))))) rfl rfl rfl ?_
      refine RegV.p0 rfl rfl rfl ?_
      refine RegV.nil0 ?_
      exact ⟨(IntKind.i64.wrap (y13_1 - (1 : Int))), h13, ⟨rfl, [], [], rfl, rfl, ⟨⟨_, rfl, (.refl _)⟩, rfl, ⟨⟨_, rfl, (.refl _)⟩, rfl, trivial⟩⟩,  trivial⟩⟩
  · have h13 := cond_neg c21 h13
    cases h13
    dsimp only at h
    refine AWc.exit ?_
    refine inBlk_eq ?_
    refine AWc.seq ?_
    refine AWc.rg hmix rfl rfl ?_
    refine RegV.p0 rfl rfl rfl ?_
    refine RegV.nil0 ?_
    have hr := Option.some.inj h
    subst hr
    exact AWc.ret (canQ (N := 16) (k := 0) (l' := [(2, (.d (.int .i64 (-1 : Int))))]) (H' := []) rfl ⟨rfl, [], [], rfl, rfl, ⟨⟨_, rfl, (.refl _)⟩, rfl, trivial⟩,  trivial⟩ (doneA (.inr rfl) rfl ⟨trivial, trivial⟩ (.refl _) hasNil))
/-- courant/courantref03.Full -/
def C340 (N : Nat → Nat) : AFunc := { n := 32, params := 1, res := [.tmp 2], body :=
 (.seq (.region false [⟨(some 2), .mv (.k (.d (.bool false))), none, []⟩])
  (.seq (.region false [⟨(some 3), .mv (.k (.d (.int .i64 0))), none, []⟩])
   (.seq (.seq (.region false [⟨(some 4), .mv (.k (.d (.int .i64 0))), none, []⟩])
     (.block 0 (.loop (.seq (.seq (.region false [⟨(some 5), .mv (.t 4), none, []⟩,
          ⟨(some 6), .mv (.t 0), none, []⟩,
          ⟨(some 7), .slen (.t 6), none, [1]⟩,
          ⟨(some 8), .bin .leq (.t 5) (.t 7), none, [0, 2]⟩])
         (.cond (.t 8) (.skip)
          (.exit 0)))
        (.seq (.block 1 (.seq (.region false [⟨(some 11), .mv (.t 4), none, []⟩,
            ⟨(some 12), .mv (.t 0), none, []⟩,
            ⟨(some 13), .slen (.t 12), none, [1]⟩,
            ⟨(some 14), .bin .eql (.t 11) (.t 13), none, [0, 2]⟩,
            ⟨(some 15), .mv (.t 14), none, [3]⟩,
            ⟨(some 16), .mv (.t 0), (some (15, false)), [4]⟩,
            ⟨(some 17), .mv (.t 4), (some (15, false)), [4]⟩,
            ⟨(some 18), .idx (.t 16) (.t 17), (some (15, false)), [5, 6, 4]⟩,
            ⟨(some 19), .bin .eql (.t 18) (.k (.d (.int .u8 46))), (some (15, false)), [7, 4]⟩,
            ⟨(some 20), .pick (.t 15) (.k (.d (.bool true))) (.t 19), none, [4, 8]⟩])
           (.cond (.t 20) (.seq (.seq (.region false [⟨(some 21), .mv (.t 0), none, []⟩,
               ⟨(some 22), .mv (.t 3), none, []⟩,
               ⟨(some 23), .mv (.t 4), none, []⟩,
               ⟨(some 24), .ssl (.t 21) (some (.t 22)) (some (.t 23)), none, [0, 1, 2]⟩,
               ⟨(some 25), .call (.k (.d (.fn (N 339)))) [(.t 24)], none, [3]⟩,
               ⟨(some 26), .un .not (.t 25), none, [4]⟩])
              (.cond (.t 26) (.seq (.region false [⟨(some 2), .mv (.k (.d (.bool false))), none, []⟩])
                .ret)
               (.skip)))
             (.region false [⟨(some 27), .mv (.t 4), none, []⟩,
              ⟨(some 28), .bin .add (.t 27) (.k (.d (.int .i64 1))), none, [0]⟩,
              ⟨(some 3), .mv (.t 28), none, [1, 0]⟩]))
            (.skip))))
         (.region false [⟨(some 9), .mv (.t 4), none, []⟩,
          ⟨(some 10), .bin .add (.t 9) (.k (.d (.int .i64 1))), none, [0]⟩,
          ⟨(some 4), .mv (.t 10), none, [1, 0]⟩]))))))
    (.seq (.region false [⟨(some 29), .mv (.t 0), none, []⟩,
      ⟨(some 30), .slen (.t 29), none, [0]⟩,
      ⟨(some 31), .bin .leq (.t 30) (.k (.d (.int .i64 100))), none, [1]⟩,
      ⟨(some 2), .mv (.t 31), none, [2, 0, 1]⟩])
     .ret)))) }
def HC340 (P : Program) (N : Nat → Nat) : Prop := HasF P (N 340) (C340 N) ∧ HC339 P N
def f340_j71 (k : Nat) (a0 : (List UInt8)) : Option Bool := some (decide (((a0.length : Nat) : Int) ≤ (100 : Int)))
def f340_j42 (L : Int → Int → Option (LR2 Unit Unit Bool)) (k : Nat) (y14_1 : Int) (y14_2 : Int) (a0 : (List UInt8)) (j42_1 : Bool) : Option (LR2 Unit Unit Bool) := cond j42_1 (gd (0 ≤ y14_1 ∧ y14_1 ≤ y14_2 ∧ y14_2 ≤ ((a0.length : Nat) : Int)) ((f339 k (sl a0 y14_1 y14_2)).bind fun r51 => cond (!r51) (some (.r false)) (L (IntKind.i64.wrap (y14_2 + (1 : Int))) (IntKind.i64.wrap (y14_2 + (1 : Int)))))) (L y14_1 (IntKind.i64.wrap (y14_2 + (1 : Int))))
def f340_l14 (a0 : (List UInt8)) : Nat → Int → Int → Option (LR2 Unit Unit Bool)
  | 0, _, _ => none
  | k + 1, y14_1, y14_2 => cond (decide (y14_2 ≤ ((a0.length : Nat) : Int))) (cond (decide (y14_2 = ((a0.length : Nat) : Int))) (f340_j42 (f340_l14 a0 k) k y14_1 y14_2 a0 true) (gd (0 ≤ y14_2 ∧ y14_2 < ((a0.length : Nat) : Int)) (f340_j42 (f340_l14 a0 k) k y14_1 y14_2 a0 (decide ((((a0.getD (y14_2).toNat 0).toNat : Nat) : Int) = (46 : Int)))))) (some (.b0 ()))
def f340 (k : Nat) (a0 : (List UInt8)) : Option Bool := (f340_l14 a0 k (0 : Int) (0 : Int)).bind fun o14 => (match o14 with | .b0 () => f340_j71 k a0 | .r x => some x | _ => none)
theorem F340 {P : Program} {N : Nat → Nat} (hmix : P.follows .mixedOrders = true) (hc : HC340 P N) {k : Nat} {a0 : (List UInt8)} {r : Bool} (h : f340 k a0 = some r) :
    ACalls P (N 340) [(.d (.str a0))] [] (.d (.bool r)) [] := by
  refine acalls_canon (F := C340 N) hc.1 0 0 rfl ?_
  unfold f340 at h
  dsimp only [C340, startL]
  refine AWc.seq ?_
  refine AWc.rg hmix rfl rfl ?_
  refine RegV.p0 rfl rfl rfl ?_
  refine RegV.nil0 ?_
  refine AWc.seq ?_
  refine AWc.rg hmix rfl rfl ?_
  refine RegV.p0 rfl rfl rfl ?_
  refine RegV.nil0 ?_
  refine AWc.seqS (N := 32) 0 (fun (z : Unit) => [(0, (.d (.str a0)))]) (fun z => []) (fun z => f340_j71 k a0 = some r) rfl_le ?_ ?_
  · refine AWc.seq ?_
    refine AWc.rg hmix rfl rfl ?_
    refine RegV.p0 rfl rfl rfl ?_
    refine RegV.nil0 ?_
    obtain ⟨o14, h14, h⟩ := bind_some h
    refine AWc.block ?_
    refine AWc.loopK (N := 32) 0 (fun (x : (Int × Int)) => [(0, (.d (.str a0))), (3, (.d (.int .i64 x.1))), (4, (.d (.int .i64 x.2)))]) (fun x => []) (fun k x => f340_l14 a0 k x.1 x.2 = some o14) k ((0 : Int), (0 : Int)) rfl_le (fun x hx => by cases hx) h14 ⟨rfl, [], [], rfl, rfl, ⟨⟨_, rfl, (.refl _)⟩, rfl, ⟨⟨_, rfl, (.refl _)⟩, rfl, ⟨⟨_, rfl, (.refl _)⟩, rfl, trivial⟩⟩⟩,  trivial⟩ ?_
    clear h14
    intro k
    rintro ⟨y14_1, y14_2⟩ h14
    dsimp only at h14 ⊢
    rw [f340_l14] at h14
    refine AWc.seq ?_
    refine AWc.seq ?_
    refine AWc.rg hmix rfl rfl ?_
    refine RegV.p0 rfl rfl rfl ?_
    refine RegV.p0 rfl rfl rfl ?_
    refine RegV.p0 (v := (.d (.int .i64 ((a0.length : Nat) : Int)))) rfl rfl rfl ?_
    refine RegV.p0 (v := (.d (.bool (decide (y14_2 ≤ ((a0.length : Nat) : Int)))))) rfl rfl rfl ?_
    refine RegV.nil0 ?_
    refine AWc.cond rfl (fun c24 => ?_) (fun c24 => ?_)
    · have h14 := cond_pos c24 h14
      refine AWc.skip ?_
      refine AWc.seq ?_
      refine AWc.block ?_
      refine AWc.seqS (N := 32) 0 (fun (z : Bool) => [(0, (.d (.str a0))), (3, (.d (.int .i64 y14_1))), (4, (.d (.int .i64 y14_2))), (16, .any), (17, .any), (18, .any), (19, .any), (20, (.d (.bool z)))]) (fun z => []) (fun z => f340_j42 (f340_l14 a0 k) k y14_1 y14_2 a0 z = some o14) rfl_le ?_ ?_
      · refine AWc.rg hmix rfl rfl ?_
        refine RegV.p0 rfl rfl rfl ?_
        refine RegV.p0 rfl rfl rfl ?_
        refine RegV.p0 (v := (.d (.int .i64 ((a0.length : Nat) : Int)))) rfl rfl rfl ?_
        refine RegV.p0 (v := (.d (.bool (decide (y14_2 = ((a0.length : Nat) : Int)))))) rfl rfl rfl ?_
        refine RegV.p0 rfl rfl rfl ?_
        refine RegV.split (fun c36 => ?_) (fun c36 => ?_)
        · have h14 := cond_pos c36 h14
          refine RegV.noS rfl rfl ?_
          refine RegV.noS rfl rfl ?_
          refine RegV.noS rfl rfl ?_
          refine RegV.noS rfl rfl ?_
          refine RegV.p0 rfl rfl rfl ?_
          refine RegV.nil0 ?_
          exact ⟨true, h14, ⟨rfl, [], [], rfl, rfl, ⟨⟨_, rfl, (.refl _)⟩, rfl, ⟨⟨_, rfl, (.refl _)⟩, rfl, ⟨⟨_, rfl, (.refl _)⟩, rfl, ⟨⟨_, rfl, (.any _)⟩, rfl, ⟨⟨_, rfl, (.any _)⟩, rfl, ⟨⟨_, rfl, (.any _)⟩, rfl, ⟨⟨_, rfl, (.any _)⟩, rfl, ⟨⟨_, rfl, (.refl _)⟩, rfl, trivial⟩⟩⟩⟩⟩⟩⟩⟩,  trivial⟩⟩
        · have h14 := cond_neg c36 h14
          refine RegV.p0 rfl rfl rfl ?_
          refine RegV.p0 rfl rfl rfl ?_
          obtain ⟨b39, h14⟩ := gd_some h14
          refine RegV.p1 (v := (.d (.int .u8 (((a0.getD (y14_2).toNat 0).toNat : Nat) : Int)))) rfl rfl b39 rfl rfl ?_
          refine RegV.p0 (v := (.d (.bool (decide ((((a0.getD (y14_2).toNat 0).toNat : Nat) : Int) = (46 : Int)))))) rfl rfl rfl ?_
          refine RegV.p0 rfl rfl rfl ?_
          refine RegV.nil0 ?_
          exact ⟨(decide ((((a0.getD (y14_2).toNat 0).toNat : Nat) : Int) = (46 : Int))), h14, ⟨rfl, [], [], rfl, rfl, ⟨⟨_, rfl, (.refl _)⟩, rfl, ⟨⟨_, rfl, (.refl _)⟩, rfl, ⟨⟨_, rfl, (.refl _)⟩, rfl, ⟨⟨_, rfl, (.any _)⟩, rfl, ⟨⟨_, rfl, (.any _)⟩, rfl, ⟨⟨_, rfl, (.any _)⟩, rfl, ⟨⟨_, rfl, (.any _)⟩, rfl, ⟨⟨_, rfl, (.refl _)⟩, rfl, trivial⟩⟩⟩⟩⟩⟩⟩⟩,  trivial⟩⟩
      · intro j42_1 h14
        unfold f340_j42 at h14
        refine AWc.cond rfl (fun c42 => ?_) (fun c42 => ?_)
        · have h14 := cond_pos c42 h14
          refine AWc.seq ?_
          refine AWc.seq ?_
          refine AWc.rg hmix rfl rfl ?_
          refine RegV.p0 rfl rfl rfl ?_
          refine RegV.p0 rfl rfl rfl ?_
          refine RegV.p0 rfl rfl rfl ?_
          obtain ⟨b50, h14⟩ := gd_some h14
          refine RegV.p1 (v := (.d (.str (sl a0 y14_1 y14_2)))) rfl rfl b50 rfl rfl ?_
          obtain ⟨r51, e51, h14⟩ := bind_some h14
          refine RegV.call0 (F339 hmix hc.2 e51) rfl rfl rfl rfl (.cons (.refl _) .nil) rfl ?_
          refine RegV.p0 (v := (.d (.bool (!r51)))) rfl rfl rfl ?_
          refine RegV.nil0 ?_
          refine AWc.cond rfl (fun c53 => ?_) (fun c53 => ?_)
          · have h14 := cond_pos c53 h14
            refine AWc.seq ?_
            refine AWc.rg hmix rfl rfl ?_
            refine RegV.p0 rfl rfl rfl ?_
            refine RegV.nil0 ?_
            cases h14
            dsimp only at h
            have hr := Option.some.inj h
            subst hr
            exact AWc.ret (canQ (N := 32) (k := 0) (l' := [(2, (.d (.bool false)))]) (H' := []) rfl ⟨rfl, [], [], rfl, rfl, ⟨⟨_, rfl, (.refl _)⟩, rfl, trivial⟩,  trivial⟩ (doneA (.inr rfl) rfl ⟨trivial, trivial⟩ (.refl _) hasNil))
          · have h14 := cond_neg c53 h14
            refine AWc.skip ?_
            refine AWc.rg hmix rfl rfl ?_
            refine RegV.p0 rfl rfl rfl ?_
            refine RegV.p0 (v := (.d (.int .i64 (IntKind.i64.wrap (y14_2 + (1 : Int)))))) rfl rfl rfl ?_
            refine RegV.p0 rfl rfl rfl ?_
            refine RegV.nil0 ?_
            refine AWc.rg hmix rfl rfl ?_
            refine RegV.p0 rfl rfl rfl ?_
            refine RegV.p0 (v := (.d (.int .i64 (IntKind.i64.wrap (y14_2 + (1 : Int)))))) rfl rfl rfl ?_
            refine RegV.p0 rfl rfl rfl ?_
            refine RegV.nil0 ?_
            exact ⟨((IntKind.i64.wrap (y14_2 + (1 : Int))), (IntKind.i64.wrap (y14_2 + (1 : Int)))), h14, ⟨rfl, [], [], rfl, rfl, ⟨⟨_, rfl, (.refl _)⟩, rfl, ⟨⟨_, rfl, (.refl _)⟩, rfl, ⟨⟨_, rfl, (.refl _)⟩, rfl, trivial⟩⟩⟩,  trivial⟩⟩
        · have h14 := cond_neg c42 h14
          refine AWc.skip ?_
          refine AWc.rg hmix rfl rfl ?_
          refine RegV.p0 rfl rfl rfl ?_
          refine RegV.p0 (v := (.d (.int .i64 (IntKind.i64.wrap (y14_2 + (1 : Int)))))) rfl rfl rfl ?_
          refine RegV.p0 rfl rfl rfl ?_
          refine RegV.nil0 ?_
          exact ⟨(y14_1, (IntKind.i64.wrap (y14_2 + (1 : Int)))), h14, ⟨rfl, [], [], rfl, rfl, ⟨⟨_, rfl, (.refl _)⟩, rfl, ⟨⟨_, rfl, (.refl _)⟩, rfl, ⟨⟨_, rfl, (.refl _)⟩, rfl, trivial⟩⟩⟩,  trivial⟩⟩
    · have h14 := cond_neg c24 h14
      cases h14
      dsimp only at h
      refine AWc.exit ?_
      refine inBlk_eq ?_
      exact ⟨(), h, ⟨rfl, [], [], rfl, rfl, ⟨⟨_, rfl, (.refl _)⟩, rfl, trivial⟩,  trivial⟩⟩
  · rintro ⟨⟩ h
    unfold f340_j71 at h
    refine AWc.seq ?_
    refine AWc.rg hmix rfl rfl ?_
    refine RegV.p0 rfl rfl rfl ?_
    refine RegV.p0 (v := (.d (.int .i64 ((a0.length : Nat) : Int)))) rfl rfl rfl ?_
    refine RegV.p0 (v := (.d (.bool (decide (((a0.length : Nat) : Int) ≤ (100 : Int)))))) rfl rfl rfl ?_
    refine RegV.p0 rfl rfl rfl ?_
    refine RegV.nil0 ?_
    have hr := Option.some.inj h
    subst hr
    exact AWc.ret (canQ (N := 32) (k := 0) (l' := [(2, (.d (.bool (decide (((a0.length : Nat) : Int) ≤ (100 : Int))))))]) (H' := []) rfl ⟨rfl, [], [], rfl, rfl, ⟨⟨_, rfl, (.refl _)⟩, rfl, trivial⟩,  trivial⟩ (doneA (.inr rfl) rfl ⟨trivial, trivial⟩ (.refl _) hasNil))
/-- courant/courantref03.Primitive -/
def C341 (N : Nat → Nat) : AFunc := { n := 20, params := 1, res := [.tmp 2], body :=
 (.seq (.region false [⟨(some 2), .mv (.k (.d (.int .i64 0))), none, []⟩])
  (.seq (.region false [⟨(some 5), .bslice 8 1 [(.str [])] [(0, (.k (.d (.str [110, 117, 108, 108])))), (1, (.k (.d (.str [98, 111, 111, 108, 101, 97, 110])))), (2, (.k (.d (.str [105, 110, 116])))), (3, (.k (.d (.str [108, 111, 110, 103])))), (4, (.k (.d (.str [102, 108, 111, 97, 116])))), (5, (.k (.d (.str [100, 111, 117, 98, 108, 101])))), (6, (.k (.d (.str [98, 121, 116, 101, 115])))), (7, (.k (.d (.str [115, 116, 114, 105, 110, 103]))))], none, []⟩,
    ⟨(some 3), .mv (.t 5), none, [0]⟩])
   (.seq (.seq (.region false [⟨(some 4), .mv (.k (.d (.int .i64 0))), none, []⟩])
     (.block 0 (.loop (.seq (.seq (.region false [⟨(some 6), .mv (.t 4), none, []⟩,
          ⟨(some 7), .mv (.t 3), none, []⟩,
          ⟨(some 8), .len (.t 7), none, [1]⟩,
          ⟨(some 9), .bin .lss (.t 6) (.t 8), none, [0, 2]⟩])
         (.cond (.t 9) (.skip)
          (.exit 0)))
        (.seq (.block 1 (.seq (.region false [⟨(some 12), .mv (.t 3), none, []⟩,
            ⟨(some 13), .mv (.t 4), none, []⟩,
            ⟨(some 14), .iaddr (.t 12) (.t 13) 1, none, [0, 1]⟩,
            ⟨(some 15), .load (.t 14) 1 false, none, [2]⟩,
            ⟨(some 16), .mv (.t 0), none, []⟩,
            ⟨(some 17), .bin .eql (.t 15) (.t 16), none, [3, 4]⟩])
           (.cond (.t 17) (.seq (.region false [⟨(some 18), .mv (.t 4), none, []⟩,
              ⟨(some 19), .bin .add (.t 18) (.k (.d (.int .i64 1))), none, [0]⟩,
              ⟨(some 2), .mv (.t 19), none, [1, 0]⟩])
             .ret)
            (.skip))))
         (.region false [⟨(some 10), .mv (.t 4), none, []⟩,
          ⟨(some 11), .bin .add (.t 10) (.k (.d (.int .i64 1))), none, [0]⟩,
          ⟨(some 4), .mv (.t 11), none, [1, 0]⟩]))))))
    (.seq (.region false [⟨(some 2), .mv (.k (.d (.int .i64 0))), none, []⟩])
     .ret)))) }
def HC341 (P : Program) (N : Nat → Nat) : Prop := HasF P (N 341) (C341 N)
def f341_l15 (a0 : (List UInt8)) : Nat → Int → Option (LR2 Unit Unit Int)
  | 0, _ => none
  | k + 1, y15_1 => cond (decide (y15_1 < ((([([110, 117, 108, 108] : List UInt8), ([98, 111, 111, 108, 101, 97, 110] : List UInt8), ([105, 110, 116] : List UInt8), ([108, 111, 110, 103] : List UInt8), ([102, 108, 111, 97, 116] : List UInt8), ([100, 111, 117, 98, 108, 101] : List UInt8), ([98, 121, 116, 101, 115] : List UInt8), ([115, 116, 114, 105, 110, 103] : List UInt8)] : List (List UInt8)).length : Nat) : Int))) (gd (0 ≤ y15_1 ∧ y15_1 < ((([([110, 117, 108, 108] : List UInt8), ([98, 111, 111, 108, 101, 97, 110] : List UInt8), ([105, 110, 116] : List UInt8), ([108, 111, 110, 103] : List UInt8), ([102, 108, 111, 97, 116] : List UInt8), ([100, 111, 117, 98, 108, 101] : List UInt8), ([98, 121, 116, 101, 115] : List UInt8), ([115, 116, 114, 105, 110, 103] : List UInt8)] : List (List UInt8)).length : Nat) : Int)) (cond (decide ((rd ([([110, 117, 108, 108] : List UInt8), ([98, 111, 111, 108, 101, 97, 110] : List UInt8), ([105, 110, 116] : List UInt8), ([108, 111, 110, 103] : List UInt8), ([102, 108, 111, 97, 116] : List UInt8), ([100, 111, 117, 98, 108, 101] : List UInt8), ([98, 121, 116, 101, 115] : List UInt8), ([115, 116, 114, 105, 110, 103] : List UInt8)] : List (List UInt8)) y15_1) = a0)) (some (.r (IntKind.i64.wrap (y15_1 + (1 : Int))))) (f341_l15 a0 k (IntKind.i64.wrap (y15_1 + (1 : Int)))))) (some (.b0 ()))
def f341 (k : Nat) (a0 : (List UInt8)) : Option Int := (f341_l15 a0 k (0 : Int)).bind fun o15 => (match o15 with | .b0 () => some (0 : Int) | .r x => some x | _ => none)
theorem F341 {P : Program} {N : Nat → Nat} (hmix : P.follows .mixedOrders = true) (hc : HC341 P N) {k : Nat} {a0 : (List UInt8)} {r : Int} (h : f341 k a0 = some r) :
    ACalls P (N 341) [(.d (.str a0))] [] (.d (.int .i64 r)) [] := by
  refine acalls_canon (F := C341 N) hc 0 0 rfl ?_
  unfold f341 at h
  dsimp only [C341, startL]
  refine AWc.seq ?_
  refine AWc.rg hmix rfl rfl ?_
  refine RegV.p0 rfl rfl rfl ?_
  refine RegV.nil0 ?_
  refine AWc.seq ?_
  refine AWc.rg hmix rfl rfl ?_
  refine RegV.p1 (v := (.d (.sl (List.map D.str ([([110, 117, 108, 108] : List UInt8), ([98, 111, 111, 108, 101, 97, 110] : List UInt8), ([105, 110, 116] : List UInt8), ([108, 111, 110, 103] : List UInt8), ([102, 108, 111, 97, 116] : List UInt8), ([100, 111, 117, 98, 108, 101] : List UInt8), ([98, 121, 116, 101, 115] : List UInt8), ([115, 116, 114, 105, 110, 103] : List UInt8)] : List (List UInt8)))))) rfl rfl (by exact ⟨rfl, Nat.le_of_ble_eq_true rfl, mapLen (e := D.str) (xs := ([([110, 117, 108, 108] : List UInt8), ([98, 111, 111, 108, 101, 97, 110] : List UInt8), ([105, 110, 116] : List UInt8), ([108, 111, 110, 103] : List UInt8), ([102, 108, 111, 97, 116] : List UInt8), ([100, 111, 117, 98, 108, 101] : List UInt8), ([98, 121, 116, 101, 115] : List UInt8), ([115, 116, 114, 105, 110, 103] : List UInt8)] : List (List UInt8))) (z := 1) (fun _ => rfl)⟩) rfl rfl ?_
  refine RegV.p0 rfl rfl rfl ?_
  refine RegV.nil0 ?_
  refine AWc.seq ?_
  refine AWc.seq ?_
  refine AWc.rg hmix rfl rfl ?_
  refine RegV.p0 rfl rfl rfl ?_
  refine RegV.nil0 ?_
  obtain ⟨o15, h15, h⟩ := bind_some h
  refine AWc.block ?_
  refine AWc.loopK (N := 20) 0 (fun (x : Int) => [(0, (.d (.str a0))), (3, (.d (.sl (List.map D.str ([([110, 117, 108, 108] : List UInt8), ([98, 111, 111, 108, 101, 97, 110] : List UInt8), ([105, 110, 116] : List UInt8), ([108, 111, 110, 103] : List UInt8), ([102, 108, 111, 97, 116] : List UInt8), ([100, 111, 117, 98, 108, 101] : List UInt8), ([98, 121, 116, 101, 115] : List UInt8), ([115, 116, 114, 105, 110, 103] : List UInt8)] : List (List UInt8)))))), (4, (.d (.int .i64 x)))]) (fun x => []) (fun k x => f341_l15 a0 k x = some o15) k (0 : Int) rfl_le (fun x hx => by cases hx) h15 ⟨rfl, [], [], rfl, rfl, ⟨⟨_, rfl, (.refl _)⟩, rfl, ⟨⟨_, rfl, (.refl _)⟩, rfl, ⟨⟨_, rfl, (.refl _)⟩, rfl, trivial⟩⟩⟩,  trivial⟩ ?_
  clear h15
  intro k
  intro y15_1 h15
  rw [f341_l15] at h15
  refine AWc.seq ?_
  refine AWc.seq ?_
  refine AWc.rg hmix rfl rfl ?_
  refine RegV.p0 rfl rfl rfl ?_
  refine RegV.p0 rfl rfl rfl ?_
  refine RegV.len (xs := ([([110, 117, 108, 108] : List UInt8), ([98, 111, 111, 108, 101, 97, 110] : List UInt8), ([105, 110, 116] : List UInt8), ([108, 111, 110, 103] : List UInt8), ([102, 108, 111, 97, 116] : List UInt8), ([100, 111, 117, 98, 108, 101] : List UInt8), ([98, 121, 116, 101, 115] : List UInt8), ([115, 116, 114, 105, 110, 103] : List UInt8)] : List (List UInt8))) (e := D.str) rfl rfl rfl rfl ?_
  refine RegV.p0 (v := (.d (.bool (decide (y15_1 < ((([([110, 117, 108, 108] : List UInt8), ([98, 111, 111, 108, 101, 97, 110] : List UInt8), ([105, 110, 116] : List UInt8), ([108, 111, 110, 103] : List UInt8), ([102, 108, 111, 97, 116] : List UInt8), ([100, 111, 117, 98, 108, 101] : List UInt8), ([98, 121, 116, 101, 115] : List UInt8), ([115, 116, 114, 105, 110, 103] : List UInt8)] : List (List UInt8)).length : Nat) : Int)))))) rfl rfl rfl ?_
  refine RegV.nil0 ?_
  refine AWc.cond rfl (fun c25 => ?_) (fun c25 => ?_)
  · have h15 := cond_pos c25 h15
    refine AWc.skip ?_
    refine AWc.seq ?_
    refine AWc.block ?_
    refine AWc.seq ?_
    refine AWc.rg hmix rfl rfl ?_
    refine RegV.p0 rfl rfl rfl ?_
    refine RegV.p0 rfl rfl rfl ?_
    obtain ⟨b35, h15⟩ := gd_some h15
    refine RegV.iad (xs := ([([110, 117, 108, 108] : List UInt8), ([98, 111, 111, 108, 101, 97, 110] : List UInt8), ([105, 110, 116] : List UInt8), ([108, 111, 110, 103] : List UInt8), ([102, 108, 111, 97, 116] : List UInt8), ([100, 111, 117, 98, 108, 101] : List UInt8), ([98, 121, 116, 101, 115] : List UInt8), ([115, 116, 114, 105, 110, 103] : List UInt8)] : List (List UInt8))) (e := D.str) rfl rfl rfl rfl (fun _ => rfl) b35 rfl ?_
    refine RegV.p0 (v := (.d (.str (rd ([([110, 117, 108, 108] : List UInt8), ([98, 111, 111, 108, 101, 97, 110] : List UInt8), ([105, 110, 116] : List UInt8), ([108, 111, 110, 103] : List UInt8), ([102, 108, 111, 97, 116] : List UInt8), ([100, 111, 117, 98, 108, 101] : List UInt8), ([98, 121, 116, 101, 115] : List UInt8), ([115, 116, 114, 105, 110, 103] : List UInt8)] : List (List UInt8)) y15_1)))) rfl rfl rfl ?_
    refine RegV.p0 rfl rfl rfl ?_
    refine RegV.p0 (v := (.d (.bool (decide ((rd ([([110, 117, 108, 108] : List UInt8), ([98, 111, 111, 108, 101, 97, 110] : List UInt8), ([105, 110, 116] : List UInt8), ([108, 111, 110, 103] : List UInt8), ([102, 108, 111, 97, 116] : List UInt8), ([100, 111, 117, 98, 108, 101] : List UInt8), ([98, 121, 116, 101, 115] : List UInt8), ([115, 116, 114, 105, 110, 103] : List UInt8)] : List (List UInt8)) y15_1) = a0))))) rfl rfl rfl ?_
    refine RegV.nil0 ?_
    refine AWc.cond rfl (fun c39 => ?_) (fun c39 => ?_)
    · have h15 := cond_pos c39 h15
      refine AWc.seq ?_
      refine AWc.rg hmix rfl rfl ?_
      refine RegV.p0 rfl rfl rfl ?_
      refine RegV.p0 (v := (.d (.int .i64 (IntKind.i64.wrap (y15_1 + (1 : Int)))))) rfl rfl rfl ?_
      refine RegV.p0 rfl rfl rfl ?_
      refine RegV.nil0 ?_
      cases h15
      dsimp only at h
      have hr := Option.some.inj h
      subst hr
      exact AWc.ret (canQ (N := 20) (k := 0) (l' := [(2, (.d (.int .i64 (IntKind.i64.wrap (y15_1 + (1 : Int))))))]) (H' := []) rfl ⟨rfl, [], [], rfl, rfl, ⟨⟨_, rfl, (.refl _)⟩, rfl, trivial⟩,  trivial⟩ (doneA (.inr rfl) rfl ⟨trivial, trivial⟩ (.refl _) hasNil))
    · have h15 := cond_neg c39 h15
      refine AWc.skip ?_
      refine AWc.rg hmix rfl rfl ?_
      refine RegV.p0 rfl rfl rfl ?_
      refine RegV.p0 (v := (.d (.int .i64 (IntKind.i64.wrap (y15_1 + (1 : Int)))))) rfl rfl rfl ?_
      refine RegV.p0 rfl rfl rfl ?_
      refine RegV.nil0 ?_
      exact ⟨(IntKind.i64.wrap (y15_1 + (1 : Int))), h15, ⟨rfl, [], [], rfl, rfl, ⟨⟨_, rfl, (.refl _)⟩, rfl, ⟨⟨_, rfl, (.refl _)⟩, rfl, ⟨⟨_, rfl, (.refl _)⟩, rfl, trivial⟩⟩⟩,  trivial⟩⟩
  · have h15 := cond_neg c25 h15
    cases h15
    dsimp only at h
    refine AWc.exit ?_
    refine inBlk_eq ?_
    refine AWc.seq ?_
    refine AWc.rg hmix rfl rfl ?_
    refine RegV.p0 rfl rfl rfl ?_
    refine RegV.nil0 ?_
    have hr := Option.some.inj h
    subst hr
    exact AWc.ret (canQ (N := 20) (k := 0) (l' := [(2, (.d (.int .i64 (0 : Int))))]) (H' := []) rfl ⟨rfl, [], [], rfl, rfl, ⟨⟨_, rfl, (.refl _)⟩, rfl, trivial⟩,  trivial⟩ (doneA (.inr rfl) rfl ⟨trivial, trivial⟩ (.refl _) hasNil))
end Go.Proofs.Abs
