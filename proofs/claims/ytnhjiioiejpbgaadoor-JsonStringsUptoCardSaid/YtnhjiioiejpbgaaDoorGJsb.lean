/- Written by gen.py: functions of the program as Lean functions, and that the code comes to them. -/
import Derived.Test.YtnhjiioiejpbgaaDoorGJs
set_option linter.unusedVariables false
set_option linter.unusedSimpArgs false
set_option maxRecDepth 100000
set_option maxHeartbeats 4000000
namespace Go.Proofs.Abs
open Go
def L425_0a (N : Nat → Nat) : ACode :=
 (.seq (.region false [⟨(some 6), .mv (.t 55), none, []⟩])
  (.region false [⟨(some 7), .mv (.t 56), none, []⟩]))
def L425_0b (N : Nat → Nat) : ACode :=
 (.block 2 (.seq (.seq (.region false [⟨(some 58), .load (.t 5) 1 false, none, []⟩,
     ⟨(some 59), .mv (.t 7), none, []⟩,
     ⟨(some 60), .bad, none, [0, 1]⟩,
     ⟨(some 57), .mv (.t 60), none, [2]⟩,
     ⟨(some 61), .ext (.t 57) 0, none, [3]⟩,
     ⟨(some 62), .ext (.t 57) 1, none, [3]⟩,
     ⟨(some 8), .mv (.t 61), none, [4, 0, 1, 2, 3]⟩,
     ⟨(some 9), .mv (.t 62), none, [5, 6, 0, 1, 2, 3, 4]⟩])
    (.seq (.region false [⟨(some 63), .mv (.t 9), none, []⟩,
      ⟨(some 64), .mv (.t 63), none, [0]⟩,
      ⟨(some 65), .mv (.t 7), (some (64, false)), [1]⟩,
      ⟨(some 66), .call (.k (.d (.fn (N 351)))) [(.t 65)], (some (64, false)), [2, 1]⟩,
      ⟨(some 67), .un .not (.t 66), (some (64, false)), [3, 1]⟩,
      ⟨(some 68), .pick (.t 64) (.k (.d (.bool true))) (.t 67), none, [1, 4]⟩])
     (.cond (.t 68) (.seq (.region false [⟨none, .store (.t 4) (.k (.d (.bool false))) 1, none, []⟩])
       .ret)
      (.skip))))
   (.region false [⟨(some 69), .load (.t 5) 1 false, none, []⟩,
    ⟨(some 70), .mv (.t 7), none, []⟩,
    ⟨(some 71), .mv (.t 6), none, []⟩,
    ⟨none, .bad, none, [0, 1, 2]⟩])))
/-- courant/json.right -/
def C425 (N : Nat → Nat) : AFunc := { n := 86, params := 2, res := [.cell 4 1 false], body :=
 (.seq (.region false [⟨(some 2), .box (.t 0), none, []⟩,
   ⟨(some 3), .box (.t 1), none, []⟩,
   ⟨(some 4), .alloc [(.bool false)], none, []⟩])
  (.seq (.seq (.region false [⟨(some 10), .faddr (.t 2) 0, none, []⟩,
     ⟨(some 11), .load (.t 10) 1 false, none, [0]⟩])
    (.block 0 (.seq (.seq (.region false [⟨(some 13), .bin .eql (.t 11) (.k (.d (.int .i64 1))), none, []⟩,
        ⟨(some 12), .mv (.t 13), none, [0]⟩])
       (.cond (.t 12) (.skip)
        (.seq (.region false [⟨(some 14), .bin .eql (.t 11) (.k (.d (.int .i64 2))), none, []⟩,
          ⟨(some 12), .mv (.t 14), none, [0]⟩])
         (.cond (.t 12) (.skip)
          (.region false [⟨(some 15), .bin .eql (.t 11) (.k (.d (.int .i64 3))), none, []⟩,
           ⟨(some 12), .mv (.t 15), none, [0]⟩])))))
      (.cond (.t 12) (.seq (.region false [⟨(some 16), .load (.t 2) 4 true, none, []⟩,
         ⟨(some 17), .call (.k (.d (.fn (N 426)))) [(.t 16), (.k (.d (.bool false)))], none, [0]⟩,
         ⟨none, .store (.t 4) (.t 17) 1, none, [1, 0]⟩])
        .ret)
       (.seq (.region false [⟨(some 19), .bin .eql (.t 11) (.k (.d (.int .i64 4))), none, []⟩,
         ⟨(some 18), .mv (.t 19), none, [0]⟩])
        (.cond (.t 18) (.seq (.region false [⟨(some 20), .load (.t 2) 4 true, none, []⟩,
           ⟨(some 21), .call (.k (.d (.fn (N 426)))) [(.t 20), (.k (.d (.bool true)))], none, [0]⟩,
           ⟨(some 22), .mv (.t 21), none, [1]⟩,
           ⟨(some 23), .faddr (.t 2) 1, (some (22, true)), [2]⟩,
           ⟨(some 24), .load (.t 23) 1 false, (some (22, true)), [3, 2]⟩,
           ⟨(some 25), .call (.k (.d (.fn (N 406)))) [(.t 24)], (some (22, true)), [4, 2]⟩,
           ⟨(some 26), .pick (.t 22) (.t 25) (.k (.d (.bool false))), none, [2, 5]⟩,
           ⟨none, .store (.t 4) (.t 26) 1, none, [6, 5, 0, 1, 2, 3, 4]⟩])
          .ret)
         (.seq (.region false [⟨(some 28), .bin .eql (.t 11) (.k (.d (.int .i64 5))), none, []⟩,
           ⟨(some 27), .mv (.t 28), none, [0]⟩])
          (.cond (.t 27) (.seq (.region false [⟨(some 29), .load (.t 2) 4 true, none, []⟩,
             ⟨(some 30), .call (.k (.d (.fn (N 426)))) [(.t 29), (.k (.d (.bool true)))], none, [0]⟩,
             ⟨(some 31), .mv (.t 30), none, [1]⟩,
             ⟨(some 32), .faddr (.t 2) 1, (some (31, true)), [2]⟩,
             ⟨(some 33), .load (.t 32) 1 false, (some (31, true)), [3, 2]⟩,
             ⟨(some 34), .call (.k (.d (.fn (N 351)))) [(.t 33)], (some (31, true)), [4, 2]⟩,
             ⟨(some 35), .pick (.t 31) (.t 34) (.k (.d (.bool false))), none, [2, 5]⟩,
             ⟨none, .store (.t 4) (.t 35) 1, none, [6, 5, 0, 1, 2, 3, 4]⟩])
            .ret)
           (.seq (.region false [⟨(some 37), .bin .eql (.t 11) (.k (.d (.int .i64 6))), none, []⟩,
             ⟨(some 36), .mv (.t 37), none, [0]⟩])
            (.cond (.t 36) (.seq (.region false [⟨(some 38), .faddr (.t 2) 3, none, []⟩,
               ⟨(some 39), .load (.t 38) 1 false, none, [0]⟩,
               ⟨(some 40), .len (.t 39), none, [1]⟩,
               ⟨(some 41), .bin .gtr (.t 40) (.k (.d (.int .i64 0))), none, [2]⟩])
              (.cond (.t 41) (.seq (.region false [⟨none, .store (.t 4) (.k (.d (.bool false))) 1, none, []⟩])
                .ret)
               (.skip)))
             (.seq (.region false [⟨(some 43), .bin .eql (.t 11) (.k (.d (.int .i64 7))), none, []⟩,
               ⟨(some 42), .mv (.t 43), none, [0]⟩])
              (.cond (.t 42) (.seq (.seq (.region false [⟨(some 44), .faddr (.t 2) 3, none, []⟩,
                  ⟨(some 45), .load (.t 44) 1 false, none, [0]⟩,
                  ⟨(some 46), .len (.t 45), none, [1]⟩,
                  ⟨(some 47), .faddr (.t 2) 2, none, []⟩,
                  ⟨(some 48), .load (.t 47) 1 false, none, [3]⟩,
                  ⟨(some 49), .len (.t 48), none, [4]⟩,
                  ⟨(some 50), .bin .neq (.t 46) (.t 49), none, [2, 5]⟩])
                 (.cond (.t 50) (.seq (.region false [⟨none, .store (.t 4) (.k (.d (.bool false))) 1, none, []⟩])
                   .ret)
                  (.skip)))
                (.seq (.region false [⟨(some 51), .bad, none, []⟩,
                  ⟨(some 5), .alloc [.nilm], none, []⟩,
                  ⟨none, .store (.t 5) (.t 51) 1, none, [1, 0]⟩])
                 (.seq (.region false [⟨(some 52), .faddr (.t 2) 3, none, []⟩,
                   ⟨(some 53), .load (.t 52) 1 false, none, [0]⟩,
                   ⟨(some 54), .call (.k (.d (.fn (N 427)))) [(.t 53)], none, [1]⟩])
                  (.block 1 (.rangeFunc (.t 54) [55, 56] (L425_0a N) (L425_0b N))))))
               (.seq (.region false [⟨none, .store (.t 4) (.k (.d (.bool false))) 1, none, []⟩])
                .ret)))))))))))))
   (.seq (.region false [⟨(some 72), .faddr (.t 2) 1, none, []⟩,
     ⟨(some 73), .load (.t 72) 1 false, none, [0]⟩,
     ⟨(some 74), .bin .eql (.t 73) (.k (.d (.str []))), none, [1]⟩,
     ⟨(some 75), .mv (.t 74), none, [2]⟩,
     ⟨(some 76), .load (.t 3) 1 false, (some (75, true)), [3]⟩,
     ⟨(some 77), .bin .lss (.t 76) (.k (.d (.int .i64 64))), (some (75, true)), [4, 3]⟩,
     ⟨(some 78), .pick (.t 75) (.t 77) (.k (.d (.bool false))), none, [3, 5]⟩,
     ⟨(some 79), .mv (.t 78), none, [6, 3]⟩,
     ⟨(some 80), .faddr (.t 2) 2, (some (79, true)), [7]⟩,
     ⟨(some 81), .load (.t 80) 1 false, (some (79, true)), [8, 7]⟩,
     ⟨(some 82), .mkfn (N 428) [(.t 3)], (some (79, true)), [7]⟩,
     ⟨(some 83), .call (.k (.d (.fn (N 429)))) [(.t 81), (.t 82)], (some (79, true)), [9, 10, 7]⟩,
     ⟨(some 84), .un .not (.t 83), (some (79, true)), [11, 7]⟩,
     ⟨(some 85), .pick (.t 79) (.t 84) (.k (.d (.bool false))), none, [7, 12]⟩,
     ⟨none, .store (.t 4) (.t 85) 1, none, [13, 11, 0, 1, 2, 3, 4, 5, 6, 7, 8, 9, 10, 12]⟩])
    .ret))) }
def HC425 (P : Program) (N : Nat → Nat) : Prop := HasF P (N 425) (C425 N) ∧ HC426 P N ∧ HC406 P N ∧ HC351 P N ∧ HC429 P N
def f425_j33 (k : Nat) (a0 : TJson) (a1 : Int) (rc425 : TJson → Int → Option Bool) (j33_1 : Bool) : Option Bool := cond j33_1 ((f426 k (TJson.mk a0.fKind a0.fText a0.fL a0.fKeys) false).bind fun r38 => some r38) (cond (decide (a0.fKind = (4 : Int))) ((f426 k (TJson.mk a0.fKind a0.fText a0.fL a0.fKeys) true).bind fun r51 => cond r51 ((f406 k a0.fText).bind fun r55 => some r55) (some false)) (cond (decide (a0.fKind = (5 : Int))) ((f426 k (TJson.mk a0.fKind a0.fText a0.fL a0.fKeys) true).bind fun r69 => cond r69 ((f351 k a0.fText).bind fun r73 => some r73) (some false)) (cond (decide (a0.fKind = (6 : Int))) (cond (decide (((a0.fKeys.length : Nat) : Int) > (0 : Int))) (some false) (cond (decide (a0.fText = ([] : List UInt8))) (cond (decide (a1 < (64 : Int))) ((f429 rc425 k a0.fL a1).bind fun r197 => some (!r197)) (some false)) (some false))) (cond (decide (a0.fKind = (7 : Int))) (cond (decide (((a0.fKeys.length : Nat) : Int) ≠ ((a0.fL.length : Nat) : Int))) (some false) (none)) (some false)))))
def f425_s (rc425 : TJson → Int → Option Bool) (k : Nat) (a0 : TJson) (a1 : Int) : Option Bool := cond (decide (a0.fKind = (1 : Int))) (f425_j33 k a0 a1 rc425 (decide (a0.fKind = (1 : Int)))) (cond (decide (a0.fKind = (2 : Int))) (f425_j33 k a0 a1 rc425 (decide (a0.fKind = (2 : Int)))) (f425_j33 k a0 a1 rc425 (decide (a0.fKind = (3 : Int)))))
theorem F425_s {P : Program} {N : Nat → Nat} (hmix : P.follows .mixedOrders = true) (hc : HC425 P N) {rc425 : TJson → Int → Option Bool} (hrc425 : RH425 P N rc425) {k : Nat} {a0 : TJson} {a1 : Int} {r : Bool} (h : f425_s rc425 k a0 a1 = some r) :
    ACalls P (N 425) [(.d (TJson.enc a0)), (.d (.int .i64 a1))] [] (.d (.bool r)) [] := by
  refine acalls_canon (F := C425 N) hc.1 0 0 rfl ?_
  unfold f425_s at h
  dsimp only [C425, startL]
  refine AWc.seq ?_
  refine AWc.rE hmix [] ?_
  refine AWc.seq ?_
  refine AWc.seq ?_
  refine AWc.rE hmix [] ?_
  refine AWc.block ?_
  refine AWc.seqS (N := 86) 3 (fun (z : Bool) => [(2, (.ptr 0 0)), (3, (.ptr 1 0)), (4, (.ptr 2 0)), (11, (.d (.int .i64 a0.fKind))), (12, (.d (.bool z)))]) (fun z => [(0, (.cells [(.d (.int .i64 a0.fKind)), (.d (.str a0.fText)), (.d (.sl (List.map (rtE (z := 4)) a0.fL))), (.d (.sl (List.map D.str a0.fKeys)))])), (1, (.cells [(.d (.int .i64 a1))])), (2, (.cells [(.d (.bool false))]))]) (fun z => f425_j33 k a0 a1 rc425 z = some r) rfl_le ?_ ?_
  · refine AWc.seq ?_
    refine AWc.rE hmix [] ?_
    rcases cc h with ⟨c20, h⟩ | ⟨c20, h⟩
    · refine AWc.cT c20 ?_
      refine AWc.skip ?_
      exact ⟨(decide (a0.fKind = (1 : Int))), h, (inT [] [])⟩
    · refine AWc.cF c20 ?_
      refine AWc.seq ?_
      refine AWc.rE hmix [] ?_
      rcases cc h with ⟨c27, h⟩ | ⟨c27, h⟩
      · refine AWc.cT c27 ?_
        refine AWc.skip ?_
        exact ⟨(decide (a0.fKind = (2 : Int))), h, (inT [] [])⟩
      · refine AWc.cF c27 ?_
        refine AWc.rE hmix [] ?_
        exact ⟨(decide (a0.fKind = (3 : Int))), h, (inT [] [])⟩
  · intro j33_1 h
    unfold f425_j33 at h
    rcases cc h with ⟨c33, h⟩ | ⟨c33, h⟩
    · refine AWc.cT c33 ?_
      refine AWc.seq ?_
      obtain ⟨r38, e38, h⟩ := bind_some h
      refine AWc.rE hmix [.call (F426 hmix hc.2.1 e38) [] 0] ?_
      have hr := Option.some.inj h
      subst hr
      exact AWc.ret (canQ (N := 86) (k := 1) (l' := [(4, (.ptr 0 0))]) (H' := [(0, (.cells [(.d (.bool r38))]))]) rfl (inT [(0, 2)] []) (doneA (.inr rfl) rfl ⟨trivial, trivial⟩ (.refl _) hasNil))
    · refine AWc.cF c33 ?_
      refine AWc.seq ?_
      refine AWc.rE hmix [] ?_
      rcases cc h with ⟨c46, h⟩ | ⟨c46, h⟩
      · refine AWc.cT c46 ?_
        refine AWc.seq ?_
        obtain ⟨r51, e51, h⟩ := bind_some h
        rcases cc h with ⟨c52, h⟩ | ⟨c52, h⟩
        · obtain ⟨r55, e55, h⟩ := bind_some h
          refine AWc.rE hmix [.call (F426 hmix hc.2.1 e51) [] 0, .br c52, .call (F406 hmix hc.2.2.1 e55) [] 0] ?_
          have hr := Option.some.inj h
          subst hr
          exact AWc.ret (canQ (N := 86) (k := 1) (l' := [(4, (.ptr 0 0))]) (H' := [(0, (.cells [(.d (.bool r55))]))]) rfl (inT [(0, 2)] []) (doneA (.inr rfl) rfl ⟨trivial, trivial⟩ (.refl _) hasNil))
        · refine AWc.rE hmix [.call (F426 hmix hc.2.1 e51) [] 0, .br c52] ?_
          have hr := Option.some.inj h
          subst hr
          exact AWc.ret (canQ (N := 86) (k := 1) (l' := [(4, (.ptr 0 0))]) (H' := [(0, (.cells [(.d (.bool false))]))]) rfl (inT [(0, 2)] []) (doneA (.inr rfl) rfl ⟨trivial, trivial⟩ (.refl _) hasNil))
      · refine AWc.cF c46 ?_
        refine AWc.seq ?_
        refine AWc.rE hmix [] ?_
        rcases cc h with ⟨c64, h⟩ | ⟨c64, h⟩
        · refine AWc.cT c64 ?_
          refine AWc.seq ?_
          obtain ⟨r69, e69, h⟩ := bind_some h
          rcases cc h with ⟨c70, h⟩ | ⟨c70, h⟩
          · obtain ⟨r73, e73, h⟩ := bind_some h
            refine AWc.rE hmix [.call (F426 hmix hc.2.1 e69) [] 0, .br c70, .call (F351 hmix hc.2.2.2.1 e73) [] 0] ?_
            have hr := Option.some.inj h
            subst hr
            exact AWc.ret (canQ (N := 86) (k := 1) (l' := [(4, (.ptr 0 0))]) (H' := [(0, (.cells [(.d (.bool r73))]))]) rfl (inT [(0, 2)] []) (doneA (.inr rfl) rfl ⟨trivial, trivial⟩ (.refl _) hasNil))
          · refine AWc.rE hmix [.call (F426 hmix hc.2.1 e69) [] 0, .br c70] ?_
            have hr := Option.some.inj h
            subst hr
            exact AWc.ret (canQ (N := 86) (k := 1) (l' := [(4, (.ptr 0 0))]) (H' := [(0, (.cells [(.d (.bool false))]))]) rfl (inT [(0, 2)] []) (doneA (.inr rfl) rfl ⟨trivial, trivial⟩ (.refl _) hasNil))
        · refine AWc.cF c64 ?_
          refine AWc.seq ?_
          refine AWc.rE hmix [] ?_
          rcases cc h with ⟨c82, h⟩ | ⟨c82, h⟩
          · refine AWc.cT c82 ?_
            refine AWc.seq ?_
            refine AWc.rE hmix [.ln D.str a0.fKeys] ?_
            rcases cc h with ⟨c90, h⟩ | ⟨c90, h⟩
            · refine AWc.cT c90 ?_
              refine AWc.seq ?_
              refine AWc.rE hmix [] ?_
              have hr := Option.some.inj h
              subst hr
              exact AWc.ret (canQ (N := 86) (k := 1) (l' := [(4, (.ptr 0 0))]) (H' := [(0, (.cells [(.d (.bool false))]))]) rfl (inT [(0, 2)] []) (doneA (.inr rfl) rfl ⟨trivial, trivial⟩ (.refl _) hasNil))
            · refine AWc.cF c90 ?_
              refine AWc.skip ?_
              refine AWc.seq ?_
              rcases cc h with ⟨c189, h⟩ | ⟨c189, h⟩
              · rcases cc h with ⟨c193, h⟩ | ⟨c193, h⟩
                · obtain ⟨r197, e197, h⟩ := bind_some h
                  refine AWc.rE hmix [.br c189, .br c193, .cq (F429 hmix hc.2.2.2.2 hrc425 e197) [(0, 1)] 1] ?_
                  have hr := Option.some.inj h
                  subst hr
                  exact AWc.ret (canQ (N := 86) (k := 1) (l' := [(4, (.ptr 0 0))]) (H' := [(0, (.cells [(.d (.bool (!r197)))]))]) rfl (inT [(0, 2)] []) (doneA (.inr rfl) rfl ⟨trivial, trivial⟩ (.refl _) hasNil))
                · refine AWc.rE hmix [.br c189, .br c193] ?_
                  have hr := Option.some.inj h
                  subst hr
                  exact AWc.ret (canQ (N := 86) (k := 1) (l' := [(4, (.ptr 0 0))]) (H' := [(0, (.cells [(.d (.bool false))]))]) rfl (inT [(0, 2)] []) (doneA (.inr rfl) rfl ⟨trivial, trivial⟩ (.refl _) hasNil))
              · refine AWc.rE hmix [.br c189, .br (rfl : false = false)] ?_
                have hr := Option.some.inj h
                subst hr
                exact AWc.ret (canQ (N := 86) (k := 1) (l' := [(4, (.ptr 0 0))]) (H' := [(0, (.cells [(.d (.bool false))]))]) rfl (inT [(0, 2)] []) (doneA (.inr rfl) rfl ⟨trivial, trivial⟩ (.refl _) hasNil))
          · refine AWc.cF c82 ?_
            refine AWc.seq ?_
            refine AWc.rE hmix [] ?_
            rcases cc h with ⟨c102, h⟩ | ⟨c102, h⟩
            · refine AWc.cT c102 ?_
              refine AWc.seq ?_
              refine AWc.seq ?_
              refine AWc.rE hmix [.ln D.str a0.fKeys, .ln (rtE (z := 4)) a0.fL] ?_
              rcases cc h with ⟨c114, h⟩ | ⟨c114, h⟩
              · refine AWc.cT c114 ?_
                refine AWc.seq ?_
                refine AWc.rE hmix [] ?_
                have hr := Option.some.inj h
                subst hr
                exact AWc.ret (canQ (N := 86) (k := 1) (l' := [(4, (.ptr 0 0))]) (H' := [(0, (.cells [(.d (.bool false))]))]) rfl (inT [(0, 2)] []) (doneA (.inr rfl) rfl ⟨trivial, trivial⟩ (.refl _) hasNil))
              · refine AWc.cF c114 ?_
                refine AWc.skip ?_
                refine AWc.seq ?_
                cases h
            · refine AWc.cF c102 ?_
              refine AWc.seq ?_
              refine AWc.rE hmix [] ?_
              have hr := Option.some.inj h
              subst hr
              exact AWc.ret (canQ (N := 86) (k := 1) (l' := [(4, (.ptr 0 0))]) (H' := [(0, (.cells [(.d (.bool false))]))]) rfl (inT [(0, 2)] []) (doneA (.inr rfl) rfl ⟨trivial, trivial⟩ (.refl _) hasNil))
def f425 : Nat → TJson → Int → Option Bool
  | 0, _, _ => none
  | k + 1, a0, a1 => f425_s (f425 k) k a0 a1
theorem F425 {P : Program} {N : Nat → Nat} (hmix : P.follows .mixedOrders = true) (hc : HC425 P N) {k : Nat} {a0 : TJson} {a1 : Int} {r : Bool} (h : f425 k a0 a1 = some r) :
    ACalls P (N 425) [(.d (TJson.enc a0)), (.d (.int .i64 a1))] [] (.d (.bool r)) [] := by
  induction k generalizing a0 a1 r with
  | zero => exact absurd (show (none : Option _) = some r from h) (fun h2 => by cases h2)
  | succ k ih => exact F425_s hmix hc (fun _ _ _ h => ih h) h
/-- courant/json.Right -/
def C422 (N : Nat → Nat) : AFunc := { n := 5, params := 1, res := [.tmp 2], body :=
 (.seq (.region false [⟨(some 1), .box (.t 0), none, []⟩,
   ⟨(some 2), .mv (.k (.d (.bool false))), none, []⟩])
  (.seq (.region false [⟨(some 3), .load (.t 1) 4 true, none, []⟩,
    ⟨(some 4), .call (.k (.d (.fn (N 425)))) [(.t 3), (.k (.d (.int .i64 0)))], none, [0]⟩,
    ⟨(some 2), .mv (.t 4), none, [1, 0]⟩])
   .ret)) }
def HC422 (P : Program) (N : Nat → Nat) : Prop := HasF P (N 422) (C422 N) ∧ HC425 P N
def f422 (k : Nat) (a0 : TJson) : Option Bool := (f425 k (TJson.mk a0.fKind a0.fText a0.fL a0.fKeys) (0 : Int)).bind fun r10 => some r10
theorem F422 {P : Program} {N : Nat → Nat} (hmix : P.follows .mixedOrders = true) (hc : HC422 P N) {k : Nat} {a0 : TJson} {r : Bool} (h : f422 k a0 = some r) :
    ACalls P (N 422) [(.d (TJson.enc a0))] [] (.d (.bool r)) [] := by
  refine acalls_canon (F := C422 N) hc.1 0 0 rfl ?_
  unfold f422 at h
  dsimp only [C422, startL]
  refine AWc.seq ?_
  refine AWc.rE hmix [] ?_
  refine AWc.seq ?_
  obtain ⟨r10, e10, h⟩ := bind_some h
  refine AWc.rE hmix [.call (F425 hmix hc.2 e10) [] 0] ?_
  have hr := Option.some.inj h
  subst hr
  exact AWc.ret (canQ (N := 5) (k := 0) (l' := [(2, (.d (.bool r10)))]) (H' := []) rfl (inT [] []) (doneA (.inr rfl) rfl ⟨trivial, trivial⟩ (.refl _) hasNil))
def RH423 (P : Program) (N : Nat → Nat) (rc423 : (List UInt8) → TJson → Option (List UInt8)) : Prop := ∀ (a0 : (List UInt8)) (a1 : TJson) (r : (List UInt8)), rc423 a0 a1 = some r → ACalls P (N 423) [(.ap 0 1 (List.map byteD a0)), (.d (TJson.enc a1))] [(0, (.tok ((List.map byteD a0).length * 1)))] (.ap 1 1 (List.map byteD r)) [(1, (.tok ((List.map byteD r).length * 1)))]
/-- courant/json.quoted -/
def C424 (N : Nat → Nat) : AFunc := { n := 49, params := 2, res := [.tmp 4], body :=
 (.seq (.region false [⟨(some 4), .mv (.k .nils), none, []⟩])
  (.seq (.region false [⟨(some 7), .mv (.t 0), none, []⟩,
    ⟨(some 8), .bslice 1 1 [(.int .u8 0)] [(0, (.k (.d (.int .u8 34))))], none, []⟩,
    ⟨(some 9), .app (.t 7) (.t 8) 1 1 [(.int .u8 0)], none, [0, 1]⟩,
    ⟨(some 0), .mv (.t 9), none, [2, 0, 1]⟩])
   (.seq (.seq (.region false [⟨(some 10), .mv (.t 1), none, []⟩,
      ⟨(some 11), .slen (.t 10), none, [0]⟩,
      ⟨(some 12), .mv (.k (.d (.int .i64 0))), none, []⟩])
     (.block 0 (.loop (.seq (.region false [⟨(some 13), .bin .lss (.t 12) (.t 11), none, []⟩])
        (.seq (.cond (.t 13) (.skip)
          (.exit 0))
         (.seq (.block 1 (.seq (.region false [⟨(some 14), .mv (.t 12), none, []⟩,
             ⟨(some 5), .mv (.t 14), none, [0]⟩])
            (.seq (.region false [⟨(some 15), .mv (.t 1), none, []⟩,
              ⟨(some 16), .mv (.t 5), none, []⟩,
              ⟨(some 17), .idx (.t 15) (.t 16), none, [0, 1]⟩,
              ⟨(some 6), .mv (.t 17), none, [2, 0, 1]⟩])
             (.block 2 (.seq (.region false [⟨(some 23), .mv (.t 6), none, []⟩,
                ⟨(some 24), .bin .eql (.t 23) (.k (.d (.int .u8 34))), none, [0]⟩,
                ⟨(some 25), .mv (.t 24), none, [1]⟩,
                ⟨(some 26), .mv (.t 6), (some (25, false)), [2]⟩,
                ⟨(some 27), .bin .eql (.t 26) (.k (.d (.int .u8 92))), (some (25, false)), [3, 2]⟩,
                ⟨(some 28), .pick (.t 25) (.k (.d (.bool true))) (.t 27), none, [2, 4]⟩,
                ⟨(some 22), .mv (.t 28), none, [5, 2]⟩])
               (.cond (.t 22) (.region false [⟨(some 29), .mv (.t 0), none, []⟩,
                 ⟨(some 30), .mv (.t 6), none, []⟩,
                 ⟨(some 31), .bslice 2 1 [(.int .u8 0)] [(0, (.k (.d (.int .u8 92)))), (1, (.t 30))], none, [1]⟩,
                 ⟨(some 32), .app (.t 29) (.t 31) 1 1 [(.int .u8 0)], none, [0, 2]⟩,
                 ⟨(some 0), .mv (.t 32), none, [3, 0, 1, 2]⟩])
                (.seq (.region false [⟨(some 34), .mv (.t 6), none, []⟩,
                  ⟨(some 35), .bin .lss (.t 34) (.k (.d (.int .u8 32))), none, [0]⟩,
                  ⟨(some 33), .mv (.t 35), none, [1]⟩])
                 (.cond (.t 33) (.region true [⟨(some 36), .mv (.t 0), none, []⟩,
                   ⟨(some 37), .mv (.t 6), none, []⟩,
                   ⟨(some 38), .bin .shr (.t 37) (.k (.d (.int .u64 4))), none, [1]⟩,
                   ⟨(some 39), .idx (.k (.d (.str [48, 49, 50, 51, 52, 53, 54, 55, 56, 57, 97, 98, 99, 100, 101, 102]))) (.t 38), none, [2]⟩,
                   ⟨(some 40), .mv (.t 6), none, []⟩,
                   ⟨(some 41), .bin .and (.t 40) (.k (.d (.int .u8 15))), none, [4]⟩,
                   ⟨(some 42), .idx (.k (.d (.str [48, 49, 50, 51, 52, 53, 54, 55, 56, 57, 97, 98, 99, 100, 101, 102]))) (.t 41), none, [5]⟩,
                   ⟨(some 43), .bslice 6 1 [(.int .u8 0)] [(0, (.k (.d (.int .u8 92)))), (1, (.k (.d (.int .u8 117)))), (2, (.k (.d (.int .u8 48)))), (3, (.k (.d (.int .u8 48)))), (4, (.t 39)), (5, (.t 42))], none, [3, 6]⟩,
                   ⟨(some 44), .app (.t 36) (.t 43) 1 1 [(.int .u8 0)], none, [0, 7]⟩,
                   ⟨(some 0), .mv (.t 44), none, [8, 0, 1, 2, 3, 4, 5, 6, 7]⟩])
                  (.region false [⟨(some 18), .mv (.t 0), none, []⟩,
                   ⟨(some 19), .mv (.t 6), none, []⟩,
                   ⟨(some 20), .bslice 1 1 [(.int .u8 0)] [(0, (.t 19))], none, [1]⟩,
                   ⟨(some 21), .app (.t 18) (.t 20) 1 1 [(.int .u8 0)], none, [0, 2]⟩,
                   ⟨(some 0), .mv (.t 21), none, [3, 0, 1, 2]⟩])))))))))
          (.region false [⟨(some 45), .bin .add (.t 12) (.k (.d (.int .i64 1))), none, []⟩,
           ⟨(some 12), .mv (.t 45), none, [0]⟩])))))))
    (.seq (.region false [⟨(some 46), .mv (.t 0), none, []⟩,
      ⟨(some 47), .bslice 1 1 [(.int .u8 0)] [(0, (.k (.d (.int .u8 34))))], none, []⟩,
      ⟨(some 48), .app (.t 46) (.t 47) 1 1 [(.int .u8 0)], none, [0, 1]⟩,
      ⟨(some 4), .mv (.t 48), none, [2, 0, 1]⟩])
     .ret)))) }
def HC424 (P : Program) (N : Nat → Nat) : Prop := HasF P (N 424) (C424 N)
def f424_j92 (k : Nat) (j92_1 : (List UInt8)) : Option (List UInt8) := gd ((j92_1.length + ([(34 : UInt8)] : List UInt8).length) * 2 * 1 ≤ 281474976710656) (some (j92_1 ++ ([(34 : UInt8)] : List UInt8)))
def f424_j54 (L : (List UInt8) → Int → Option (LR2 (List UInt8) Unit (List UInt8))) (k : Nat) (y19_1 : (List UInt8)) (a1 : (List UInt8)) (y19_2 : Int) (j54_1 : Bool) : Option (LR2 (List UInt8) Unit (List UInt8)) := cond j54_1 (gd ((y19_1.length + ([(92 : UInt8), (a1.getD (y19_2).toNat 0)] : List UInt8).length) * 2 * 1 ≤ 281474976710656) (L (y19_1 ++ ([(92 : UInt8), (a1.getD (y19_2).toNat 0)] : List UInt8)) (IntKind.i64.wrap (y19_2 + (1 : Int))))) (cond (decide ((((a1.getD (y19_2).toNat 0).toNat : Nat) : Int) < (32 : Int))) (gd (0 ≤ (Int.fdiv (((a1.getD (y19_2).toNat 0).toNat : Nat) : Int) (2 ^ (min ((4 : Int)).toNat IntKind.u8.bits))) ∧ (Int.fdiv (((a1.getD (y19_2).toNat 0).toNat : Nat) : Int) (2 ^ (min ((4 : Int)).toNat IntKind.u8.bits))) < ((([48, 49, 50, 51, 52, 53, 54, 55, 56, 57, 97, 98, 99, 100, 101, 102] : List UInt8).length : Nat) : Int)) (gd (0 ≤ (((u8 (bitsA .and .u8 (((a1.getD (y19_2).toNat 0).toNat : Nat) : Int) (15 : Int))).toNat : Nat) : Int) ∧ (((u8 (bitsA .and .u8 (((a1.getD (y19_2).toNat 0).toNat : Nat) : Int) (15 : Int))).toNat : Nat) : Int) < ((([48, 49, 50, 51, 52, 53, 54, 55, 56, 57, 97, 98, 99, 100, 101, 102] : List UInt8).length : Nat) : Int)) (gd ((y19_1.length + ([(92 : UInt8), (117 : UInt8), (48 : UInt8), (48 : UInt8), (([48, 49, 50, 51, 52, 53, 54, 55, 56, 57, 97, 98, 99, 100, 101, 102] : List UInt8).getD ((Int.fdiv (((a1.getD (y19_2).toNat 0).toNat : Nat) : Int) (2 ^ (min ((4 : Int)).toNat IntKind.u8.bits)))).toNat 0), (([48, 49, 50, 51, 52, 53, 54, 55, 56, 57, 97, 98, 99, 100, 101, 102] : List UInt8).getD ((((u8 (bitsA .and .u8 (((a1.getD (y19_2).toNat 0).toNat : Nat) : Int) (15 : Int))).toNat : Nat) : Int)).toNat 0)] : List UInt8).length) * 2 * 1 ≤ 281474976710656) (L (y19_1 ++ ([(92 : UInt8), (117 : UInt8), (48 : UInt8), (48 : UInt8), (([48, 49, 50, 51, 52, 53, 54, 55, 56, 57, 97, 98, 99, 100, 101, 102] : List UInt8).getD ((Int.fdiv (((a1.getD (y19_2).toNat 0).toNat : Nat) : Int) (2 ^ (min ((4 : Int)).toNat IntKind.u8.bits)))).toNat 0), (([48, 49, 50, 51, 52, 53, 54, 55, 56, 57, 97, 98, 99, 100, 101, 102] : List UInt8).getD ((((u8 (bitsA .and .u8 (((a1.getD (y19_2).toNat 0).toNat : Nat) : Int) (15 : Int))).toNat : Nat) : Int)).toNat 0)] : List UInt8)) (IntKind.i64.wrap (y19_2 + (1 : Int))))))) (gd ((y19_1.length + ([(a1.getD (y19_2).toNat 0)] : List UInt8).length) * 2 * 1 ≤ 281474976710656) (L (y19_1 ++ ([(a1.getD (y19_2).toNat 0)] : List UInt8)) (IntKind.i64.wrap (y19_2 + (1 : Int))))))
def f424_l19 (a1 : (List UInt8)) : Nat → (List UInt8) → Int → Option (LR2 (List UInt8) Unit (List UInt8))
  | 0, _, _ => none
  | k + 1, y19_1, y19_2 => cond (decide (y19_2 < ((a1.length : Nat) : Int))) (gd (0 ≤ y19_2 ∧ y19_2 < ((a1.length : Nat) : Int)) (cond (decide ((((a1.getD (y19_2).toNat 0).toNat : Nat) : Int) = (34 : Int))) (f424_j54 (f424_l19 a1 k) k y19_1 a1 y19_2 true) (f424_j54 (f424_l19 a1 k) k y19_1 a1 y19_2 (decide ((((a1.getD (y19_2).toNat 0).toNat : Nat) : Int) = (92 : Int)))))) (some (.b0 y19_1))
def f424 (k : Nat) (a0 : (List UInt8)) (a1 : (List UInt8)) : Option (List UInt8) := gd ((a0.length + ([(34 : UInt8)] : List UInt8).length) * 2 * 1 ≤ 281474976710656) ((f424_l19 a1 k (a0 ++ ([(34 : UInt8)] : List UInt8)) (0 : Int)).bind fun o19 => (match o19 with | .b0 x19_1 => f424_j92 k x19_1 | _ => none))
theorem F424 {P : Program} {N : Nat → Nat} (hmix : P.follows .mixedOrders = true) (hc : HC424 P N) {k : Nat} {a0 : (List UInt8)} {a1 : (List UInt8)} {r : (List UInt8)} (h : f424 k a0 a1 = some r) :
    ACalls P (N 424) [(.ap 0 1 (List.map byteD a0)), (.d (.str a1))] [(0, (.tok ((List.map byteD a0).length * 1)))] (.ap 1 1 (List.map byteD r)) [(1, (.tok ((List.map byteD r).length * 1)))] := by
  refine acalls_canon (F := C424 N) hc 1 2 rfl ?_
  unfold f424 at h
  dsimp only [C424, startL]
  refine AWc.seq ?_
  refine AWc.rE hmix [] ?_
  refine AWc.seq ?_
  obtain ⟨b10, h⟩ := gd_some h
  refine AWc.rE hmix [.apA byteD a0 ([(34 : UInt8)] : List UInt8) 1 (fun _ => rfl) b10] ?_
  refine AWc.seqS (N := 49) 2 (fun (z : (List UInt8)) => [(0, (.ap 1 1 (List.map byteD z)))]) (fun z => [(1, (.tok ((List.map byteD z).length * 1)))]) (fun z => f424_j92 k z = some r) rfl_le ?_ ?_
  · refine AWc.seq ?_
    refine AWc.rE hmix [] ?_
    obtain ⟨o19, h19, h⟩ := bind_some h
    refine AWc.block ?_
    refine AWc.loopK (N := 49) 2 (fun (x : ((List UInt8) × Int)) => [(0, (.ap 1 1 (List.map byteD x.1))), (1, (.d (.str a1))), (11, (.d (.int .i64 ((a1.length : Nat) : Int)))), (12, (.d (.int .i64 x.2)))]) (fun x => [(1, (.tok ((List.map byteD x.1).length * 1)))]) (fun k x => f424_l19 a1 k x.1 x.2 = some o19) k ((a0 ++ ([(34 : UInt8)] : List UInt8)), (0 : Int)) rfl_le (fun x hx => by cases hx) h19 (inT [] []) ?_
    clear h19
    intro k
    rintro ⟨y19_1, y19_2⟩ h19
    dsimp only at h19 ⊢
    rw [f424_l19] at h19
    refine AWc.seq ?_
    refine AWc.rE hmix [] ?_
    refine AWc.seq ?_
    rcases cc h19 with ⟨c26, h19⟩ | ⟨c26, h19⟩
    · refine AWc.cT c26 ?_
      refine AWc.skip ?_
      refine AWc.seq ?_
      refine AWc.block ?_
      refine AWc.seq ?_
      refine AWc.rE hmix [] ?_
      refine AWc.seq ?_
      obtain ⟨b41, h19⟩ := gd_some h19
      refine AWc.rE hmix [.sd b41] ?_
      refine AWc.block ?_
      refine AWc.seqS (N := 49) 2 (fun (z : Bool) => [(0, (.ap 1 1 (List.map byteD y19_1))), (1, (.d (.str a1))), (6, (.d (.int .u8 (((a1.getD (y19_2).toNat 0).toNat : Nat) : Int)))), (11, (.d (.int .i64 ((a1.length : Nat) : Int)))), (12, (.d (.int .i64 y19_2))), (22, (.d (.bool z))), (26, .any), (27, .any)]) (fun z => [(1, (.tok ((List.map byteD y19_1).length * 1)))]) (fun z => f424_j54 (f424_l19 a1 k) k y19_1 a1 y19_2 z = some o19) rfl_le ?_ ?_
      · rcases cc h19 with ⟨c49, h19⟩ | ⟨c49, h19⟩
        · refine AWc.rE hmix [.br c49] ?_
          exact ⟨true, h19, (inT [] [])⟩
        · refine AWc.rE hmix [.br c49] ?_
          exact ⟨(decide ((((a1.getD (y19_2).toNat 0).toNat : Nat) : Int) = (92 : Int))), h19, (inT [] [])⟩
      · intro j54_1 h19
        unfold f424_j54 at h19
        rcases cc h19 with ⟨c54, h19⟩ | ⟨c54, h19⟩
        · refine AWc.cT c54 ?_
          obtain ⟨b60, h19⟩ := gd_some h19
          refine AWc.rE hmix [.apA byteD y19_1 ([(92 : UInt8), (a1.getD (y19_2).toNat 0)] : List UInt8) 1 (fun _ => rfl) b60] ?_
          refine AWc.rE hmix [] ?_
          exact ⟨((y19_1 ++ ([(92 : UInt8), (a1.getD (y19_2).toNat 0)] : List UInt8)), (IntKind.i64.wrap (y19_2 + (1 : Int)))), h19, (inT [(1, 2)] [])⟩
        · refine AWc.cF c54 ?_
          refine AWc.seq ?_
          refine AWc.rE hmix [] ?_
          rcases cc h19 with ⟨c68, h19⟩ | ⟨c68, h19⟩
          · refine AWc.cT c68 ?_
            obtain ⟨b74, h19⟩ := gd_some h19
            obtain ⟨b77, h19⟩ := gd_some h19
            obtain ⟨b79, h19⟩ := gd_some h19
            refine AWc.rE hmix [.sd (p := 0 ≤ (4 : Int)) (by decide), .sd b74, .sd b77, .apA byteD y19_1 ([(92 : UInt8), (117 : UInt8), (48 : UInt8), (48 : UInt8), (([48, 49, 50, 51, 52, 53, 54, 55, 56, 57, 97, 98, 99, 100, 101, 102] : List UInt8).getD ((Int.fdiv (((a1.getD (y19_2).toNat 0).toNat : Nat) : Int) (2 ^ (min ((4 : Int)).toNat IntKind.u8.bits)))).toNat 0), (([48, 49, 50, 51, 52, 53, 54, 55, 56, 57, 97, 98, 99, 100, 101, 102] : List UInt8).getD ((((u8 (bitsA .and .u8 (((a1.getD (y19_2).toNat 0).toNat : Nat) : Int) (15 : Int))).toNat : Nat) : Int)).toNat 0)] : List UInt8) 1 (fun _ => rfl) b79] ?_
            refine AWc.rE hmix [] ?_
            exact ⟨((y19_1 ++ ([(92 : UInt8), (117 : UInt8), (48 : UInt8), (48 : UInt8), (([48, 49, 50, 51, 52, 53, 54, 55, 56, 57, 97, 98, 99, 100, 101, 102] : List UInt8).getD ((Int.fdiv (((a1.getD (y19_2).toNat 0).toNat : Nat) : Int) (2 ^ (min ((4 : Int)).toNat IntKind.u8.bits)))).toNat 0), (([48, 49, 50, 51, 52, 53, 54, 55, 56, 57, 97, 98, 99, 100, 101, 102] : List UInt8).getD ((((u8 (bitsA .and .u8 (((a1.getD (y19_2).toNat 0).toNat : Nat) : Int) (15 : Int))).toNat : Nat) : Int)).toNat 0)] : List UInt8)), (IntKind.i64.wrap (y19_2 + (1 : Int)))), h19, (inT [(1, 2)] [])⟩
          · refine AWc.cF c68 ?_
            obtain ⟨b86, h19⟩ := gd_some h19
            refine AWc.rE hmix [.apA byteD y19_1 ([(a1.getD (y19_2).toNat 0)] : List UInt8) 1 (fun _ => rfl) b86] ?_
            refine AWc.rE hmix [] ?_
            exact ⟨((y19_1 ++ ([(a1.getD (y19_2).toNat 0)] : List UInt8)), (IntKind.i64.wrap (y19_2 + (1 : Int)))), h19, (inT [(1, 2)] [])⟩
    · refine AWc.cF c26 ?_
      cases h19
      dsimp only at h
      refine AWc.exit ?_
      refine inBlk_eq ?_
      exact ⟨y19_1, h, (inT [] [])⟩
  · intro j92_1 h
    unfold f424_j92 at h
    refine AWc.seq ?_
    obtain ⟨b97, h⟩ := gd_some h
    refine AWc.rE hmix [.apA byteD j92_1 ([(34 : UInt8)] : List UInt8) 1 (fun _ => rfl) b97] ?_
    have hr := Option.some.inj h
    subst hr
    exact AWc.ret (canQ (N := 49) (k := 2) (l' := [(4, (.ap 1 1 (List.map byteD (j92_1 ++ ([(34 : UInt8)] : List UInt8)))))]) (H' := [(1, (.tok ((List.map byteD (j92_1 ++ ([(34 : UInt8)] : List UInt8))).length * 1)))]) rfl (inT [(1, 2)] []) (doneA (.inr rfl) rfl ⟨trivial, trivial⟩ (.refl _) (hasCons rfl hasNil)))
/-- courant/json.printed -/
def C423 (N : Nat → Nat) : AFunc := { n := 76, params := 2, res := [.tmp 4], body :=
 (.seq (.region false [⟨(some 3), .box (.t 1), none, []⟩,
   ⟨(some 4), .mv (.k .nils), none, []⟩])
  (.seq (.seq (.region false [⟨(some 8), .faddr (.t 3) 0, none, []⟩,
     ⟨(some 9), .load (.t 8) 1 false, none, [0]⟩])
    (.block 0 (.seq (.region false [⟨(some 11), .bin .eql (.t 9) (.k (.d (.int .i64 1))), none, []⟩,
       ⟨(some 10), .mv (.t 11), none, [0]⟩])
      (.cond (.t 10) (.seq (.region false [⟨(some 12), .mv (.t 0), none, []⟩,
         ⟨(some 13), .app (.t 12) (.k (.d (.str [110, 117, 108, 108]))) 1 1 [(.int .u8 0)], none, [0]⟩,
         ⟨(some 4), .mv (.t 13), none, [1, 0]⟩])
        .ret)
       (.seq (.region false [⟨(some 15), .bin .eql (.t 9) (.k (.d (.int .i64 2))), none, []⟩,
         ⟨(some 14), .mv (.t 15), none, [0]⟩])
        (.cond (.t 14) (.seq (.region false [⟨(some 16), .mv (.t 0), none, []⟩,
           ⟨(some 17), .app (.t 16) (.k (.d (.str [102, 97, 108, 115, 101]))) 1 1 [(.int .u8 0)], none, [0]⟩,
           ⟨(some 4), .mv (.t 17), none, [1, 0]⟩])
          .ret)
         (.seq (.region false [⟨(some 19), .bin .eql (.t 9) (.k (.d (.int .i64 3))), none, []⟩,
           ⟨(some 18), .mv (.t 19), none, [0]⟩])
          (.cond (.t 18) (.seq (.region false [⟨(some 20), .mv (.t 0), none, []⟩,
             ⟨(some 21), .app (.t 20) (.k (.d (.str [116, 114, 117, 101]))) 1 1 [(.int .u8 0)], none, [0]⟩,
             ⟨(some 4), .mv (.t 21), none, [1, 0]⟩])
            .ret)
           (.seq (.region false [⟨(some 23), .bin .eql (.t 9) (.k (.d (.int .i64 4))), none, []⟩,
             ⟨(some 22), .mv (.t 23), none, [0]⟩])
            (.cond (.t 22) (.seq (.region false [⟨(some 24), .mv (.t 0), none, []⟩,
               ⟨(some 25), .faddr (.t 3) 1, none, []⟩,
               ⟨(some 26), .load (.t 25) 1 false, none, [1]⟩,
               ⟨(some 27), .app (.t 24) (.t 26) 1 1 [(.int .u8 0)], none, [0, 2]⟩,
               ⟨(some 4), .mv (.t 27), none, [3, 0, 1, 2]⟩])
              .ret)
             (.seq (.region false [⟨(some 29), .bin .eql (.t 9) (.k (.d (.int .i64 5))), none, []⟩,
               ⟨(some 28), .mv (.t 29), none, [0]⟩])
              (.cond (.t 28) (.seq (.region false [⟨(some 30), .mv (.t 0), none, []⟩,
                 ⟨(some 31), .faddr (.t 3) 1, none, []⟩,
                 ⟨(some 32), .load (.t 31) 1 false, none, [1]⟩,
                 ⟨(some 33), .call (.k (.d (.fn (N 424)))) [(.t 30), (.t 32)], none, [0, 2]⟩,
                 ⟨(some 4), .mv (.t 33), none, [3, 0, 1, 2]⟩])
                .ret)
               (.skip)))))))))))))
   (.seq (.region false [⟨(some 5), .mv (.k (.d (.str [91, 93]))), none, []⟩])
    (.seq (.seq (.region false [⟨(some 34), .faddr (.t 3) 0, none, []⟩,
       ⟨(some 35), .load (.t 34) 1 false, none, [0]⟩,
       ⟨(some 36), .bin .eql (.t 35) (.k (.d (.int .i64 7))), none, [1]⟩])
      (.cond (.t 36) (.region false [⟨(some 5), .mv (.k (.d (.str [123, 125]))), none, []⟩])
       (.skip)))
     (.seq (.region false [⟨(some 37), .mv (.t 0), none, []⟩,
       ⟨(some 38), .mv (.t 5), none, []⟩,
       ⟨(some 39), .idx (.t 38) (.k (.d (.int .i64 0))), none, [1]⟩,
       ⟨(some 40), .bslice 1 1 [(.int .u8 0)] [(0, (.t 39))], none, [2]⟩,
       ⟨(some 41), .app (.t 37) (.t 40) 1 1 [(.int .u8 0)], none, [0, 3]⟩,
       ⟨(some 0), .mv (.t 41), none, [4, 0, 1, 2, 3]⟩])
      (.seq (.seq (.region false [⟨(some 42), .faddr (.t 3) 2, none, []⟩,
         ⟨(some 43), .load (.t 42) 1 false, none, [0]⟩,
         ⟨(some 44), .len (.t 43), none, [1]⟩,
         ⟨(some 45), .mv (.k (.d (.int .i64 0))), none, []⟩])
        (.block 1 (.loop (.seq (.region false [⟨(some 46), .bin .lss (.t 45) (.t 44), none, []⟩])
           (.seq (.cond (.t 46) (.skip)
             (.exit 1))
            (.seq (.block 2 (.seq (.region false [⟨(some 47), .mv (.t 45), none, []⟩,
                ⟨(some 48), .iaddr (.t 43) (.t 45) 4, none, []⟩,
                ⟨(some 49), .load (.t 48) 4 true, none, [1]⟩,
                ⟨(some 7), .alloc [(.int .i64 0), (.str []), (.sl []), (.sl [])], none, []⟩,
                ⟨(some 6), .mv (.t 47), none, [0, 1, 2, 3]⟩,
                ⟨none, .store (.t 7) (.t 49) 4, none, [3, 2, 4, 0, 1]⟩])
               (.seq (.seq (.region false [⟨(some 50), .mv (.t 6), none, []⟩,
                  ⟨(some 51), .bin .gtr (.t 50) (.k (.d (.int .i64 0))), none, [0]⟩])
                 (.cond (.t 51) (.region false [⟨(some 52), .mv (.t 0), none, []⟩,
                   ⟨(some 53), .bslice 1 1 [(.int .u8 0)] [(0, (.k (.d (.int .u8 44))))], none, []⟩,
                   ⟨(some 54), .app (.t 52) (.t 53) 1 1 [(.int .u8 0)], none, [0, 1]⟩,
                   ⟨(some 0), .mv (.t 54), none, [2, 0, 1]⟩])
                  (.skip)))
                (.seq (.seq (.region false [⟨(some 55), .faddr (.t 3) 0, none, []⟩,
                   ⟨(some 56), .load (.t 55) 1 false, none, [0]⟩,
                   ⟨(some 57), .bin .eql (.t 56) (.k (.d (.int .i64 7))), none, [1]⟩])
                  (.cond (.t 57) (.region false [⟨(some 58), .mv (.t 0), none, []⟩,
                    ⟨(some 59), .faddr (.t 3) 3, none, []⟩,
                    ⟨(some 60), .load (.t 59) 1 false, none, [1]⟩,
                    ⟨(some 61), .mv (.t 6), none, []⟩,
                    ⟨(some 62), .iaddr (.t 60) (.t 61) 1, none, [2, 3]⟩,
                    ⟨(some 63), .load (.t 62) 1 false, none, [4]⟩,
                    ⟨(some 64), .call (.k (.d (.fn (N 424)))) [(.t 58), (.t 63)], none, [0, 5]⟩,
                    ⟨(some 65), .bslice 1 1 [(.int .u8 0)] [(0, (.k (.d (.int .u8 58))))], none, []⟩,
                    ⟨(some 66), .app (.t 64) (.t 65) 1 1 [(.int .u8 0)], none, [6, 7]⟩,
                    ⟨(some 0), .mv (.t 66), none, [8, 0, 1, 2, 3, 4, 5, 6, 7]⟩])
                   (.skip)))
                 (.region false [⟨(some 67), .mv (.t 0), none, []⟩,
                  ⟨(some 68), .load (.t 7) 4 true, none, []⟩,
                  ⟨(some 69), .call (.k (.d (.fn (N 423)))) [(.t 67), (.t 68)], none, [0, 1]⟩,
                  ⟨(some 0), .mv (.t 69), none, [2, 0, 1]⟩])))))
             (.region false [⟨(some 70), .bin .add (.t 45) (.k (.d (.int .i64 1))), none, []⟩,
              ⟨(some 45), .mv (.t 70), none, [0]⟩])))))))
       (.seq (.region false [⟨(some 71), .mv (.t 0), none, []⟩,
         ⟨(some 72), .mv (.t 5), none, []⟩,
         ⟨(some 73), .idx (.t 72) (.k (.d (.int .i64 1))), none, [1]⟩,
         ⟨(some 74), .bslice 1 1 [(.int .u8 0)] [(0, (.t 73))], none, [2]⟩,
         ⟨(some 75), .app (.t 71) (.t 74) 1 1 [(.int .u8 0)], none, [0, 3]⟩,
         ⟨(some 4), .mv (.t 75), none, [4, 0, 1, 2, 3]⟩])
        .ret))))))) }
def HC423 (P : Program) (N : Nat → Nat) : Prop := HasF P (N 423) (C423 N) ∧ HC424 P N
def f423_j182 (k : Nat) (j99_1 : (List UInt8)) (j182_1 : (List UInt8)) : Option (List UInt8) := gd (0 ≤ (1 : Int) ∧ (1 : Int) < ((j99_1.length : Nat) : Int)) (gd ((j182_1.length + ([(j99_1.getD ((1 : Int)).toNat 0)] : List UInt8).length) * 2 * 1 ≤ 281474976710656) (some (j182_1 ++ ([(j99_1.getD ((1 : Int)).toNat 0)] : List UInt8))))
def f423_j172 (L : (List UInt8) → Int → Option (LR2 (List UInt8) Unit (List UInt8))) (k : Nat) (rc423 : (List UInt8) → TJson → Option (List UInt8)) (rx132 : TJson) (y116_2 : Int) (j172_1 : (List UInt8)) : Option (LR2 (List UInt8) Unit (List UInt8)) := (rc423 j172_1 (TJson.mk rx132.fKind rx132.fText rx132.fL rx132.fKeys)).bind fun r176 => L r176 (IntKind.i64.wrap (y116_2 + (1 : Int)))
def f423_j151 (L : (List UInt8) → Int → Option (LR2 (List UInt8) Unit (List UInt8))) (k : Nat) (a1 : TJson) (y116_2 : Int) (rc423 : (List UInt8) → TJson → Option (List UInt8)) (rx132 : TJson) (j151_1 : (List UInt8)) : Option (LR2 (List UInt8) Unit (List UInt8)) := cond (decide (a1.fKind = (7 : Int))) (gd (0 ≤ y116_2 ∧ y116_2 < ((a1.fKeys.length : Nat) : Int)) ((f424 k j151_1 (rd a1.fKeys y116_2)).bind fun r167 => gd ((r167.length + ([(58 : UInt8)] : List UInt8).length) * 2 * 1 ≤ 281474976710656) (f423_j172 (L) k rc423 rx132 y116_2 (r167 ++ ([(58 : UInt8)] : List UInt8))))) (f423_j172 (L) k rc423 rx132 y116_2 j151_1)
def f423_l116 (a1 : TJson) (rc423 : (List UInt8) → TJson → Option (List UInt8)) : Nat → (List UInt8) → Int → Option (LR2 (List UInt8) Unit (List UInt8))
  | 0, _, _ => none
  | k + 1, y116_1, y116_2 => cond (decide (y116_2 < ((a1.fL.length : Nat) : Int))) (gd (0 ≤ y116_2 ∧ y116_2 < ((a1.fL.length : Nat) : Int)) ((TJson.dec (rtE (rd a1.fL y116_2))).bind fun rx132 => cond (decide (y116_2 > (0 : Int))) (gd ((y116_1.length + ([(44 : UInt8)] : List UInt8).length) * 2 * 1 ≤ 281474976710656) (f423_j151 (f423_l116 a1 rc423 k) k a1 y116_2 rc423 rx132 (y116_1 ++ ([(44 : UInt8)] : List UInt8)))) (f423_j151 (f423_l116 a1 rc423 k) k a1 y116_2 rc423 rx132 y116_1))) (some (.b0 y116_1))
def f423_j99 (k : Nat) (a0 : (List UInt8)) (a1 : TJson) (rc423 : (List UInt8) → TJson → Option (List UInt8)) (j99_1 : (List UInt8)) : Option (List UInt8) := gd (0 ≤ (0 : Int) ∧ (0 : Int) < ((j99_1.length : Nat) : Int)) (gd ((a0.length + ([(j99_1.getD ((0 : Int)).toNat 0)] : List UInt8).length) * 2 * 1 ≤ 281474976710656) ((f423_l116 a1 rc423 k (a0 ++ ([(j99_1.getD ((0 : Int)).toNat 0)] : List UInt8)) (0 : Int)).bind fun o116 => (match o116 with | .b0 x116_1 => f423_j182 k j99_1 x116_1 | _ => none)))
def f423_s (rc423 : (List UInt8) → TJson → Option (List UInt8)) (k : Nat) (a0 : (List UInt8)) (a1 : TJson) : Option (List UInt8) := cond (decide (a1.fKind = (1 : Int))) (gd ((a0.length + ([110, 117, 108, 108] : List UInt8).length) * 2 * 1 ≤ 281474976710656) (some (a0 ++ ([110, 117, 108, 108] : List UInt8)))) (cond (decide (a1.fKind = (2 : Int))) (gd ((a0.length + ([102, 97, 108, 115, 101] : List UInt8).length) * 2 * 1 ≤ 281474976710656) (some (a0 ++ ([102, 97, 108, 115, 101] : List UInt8)))) (cond (decide (a1.fKind = (3 : Int))) (gd ((a0.length + ([116, 114, 117, 101] : List UInt8).length) * 2 * 1 ≤ 281474976710656) (some (a0 ++ ([116, 114, 117, 101] : List UInt8)))) (cond (decide (a1.fKind = (4 : Int))) (gd ((a0.length + a1.fText.length) * 2 * 1 ≤ 281474976710656) (some (a0 ++ a1.fText))) (cond (decide (a1.fKind = (5 : Int))) ((f424 k a0 a1.fText).bind fun r79 => some r79) (cond (decide (a1.fKind = (7 : Int))) (f423_j99 k a0 a1 rc423 ([123, 125] : List UInt8)) (f423_j99 k a0 a1 rc423 ([91, 93] : List UInt8)))))))
theorem F423_s {P : Program} {N : Nat → Nat} (hmix : P.follows .mixedOrders = true) (hc : HC423 P N) {rc423 : (List UInt8) → TJson → Option (List UInt8)} (hrc423 : RH423 P N rc423) {k : Nat} {a0 : (List UInt8)} {a1 : TJson} {r : (List UInt8)} (h : f423_s rc423 k a0 a1 = some r) :
    ACalls P (N 423) [(.ap 0 1 (List.map byteD a0)), (.d (TJson.enc a1))] [(0, (.tok ((List.map byteD a0).length * 1)))] (.ap 1 1 (List.map byteD r)) [(1, (.tok ((List.map byteD r).length * 1)))] := by
  refine acalls_canon (F := C423 N) hc.1 1 2 rfl ?_
  unfold f423_s at h
  dsimp only [C423, startL]
  refine AWc.seq ?_
  refine AWc.rE hmix [] ?_
  refine AWc.seq ?_
  refine AWc.seq ?_
  refine AWc.rE hmix [] ?_
  refine AWc.block ?_
  refine AWc.seq ?_
  refine AWc.rE hmix [] ?_
  rcases cc h with ⟨c18, h⟩ | ⟨c18, h⟩
  · refine AWc.cT c18 ?_
    refine AWc.seq ?_
    obtain ⟨b23, h⟩ := gd_some h
    refine AWc.rE hmix [.apA byteD a0 ([110, 117, 108, 108] : List UInt8) 1 (fun _ => rfl) b23] ?_
    have hr := Option.some.inj h
    subst hr
    exact AWc.ret (canQ (N := 76) (k := 2) (l' := [(4, (.ap 1 1 (List.map byteD (a0 ++ ([110, 117, 108, 108] : List UInt8)))))]) (H' := [(1, (.tok ((List.map byteD (a0 ++ ([110, 117, 108, 108] : List UInt8))).length * 1)))]) rfl (inT [(1, 2)] []) (doneA (.inr rfl) rfl ⟨trivial, trivial⟩ (.refl _) (hasCons rfl hasNil)))
  · refine AWc.cF c18 ?_
    refine AWc.seq ?_
    refine AWc.rE hmix [] ?_
    rcases cc h with ⟨c31, h⟩ | ⟨c31, h⟩
    · refine AWc.cT c31 ?_
      refine AWc.seq ?_
      obtain ⟨b36, h⟩ := gd_some h
      refine AWc.rE hmix [.apA byteD a0 ([102, 97, 108, 115, 101] : List UInt8) 1 (fun _ => rfl) b36] ?_
      have hr := Option.some.inj h
      subst hr
      exact AWc.ret (canQ (N := 76) (k := 2) (l' := [(4, (.ap 1 1 (List.map byteD (a0 ++ ([102, 97, 108, 115, 101] : List UInt8)))))]) (H' := [(1, (.tok ((List.map byteD (a0 ++ ([102, 97, 108, 115, 101] : List UInt8))).length * 1)))]) rfl (inT [(1, 2)] []) (doneA (.inr rfl) rfl ⟨trivial, trivial⟩ (.refl _) (hasCons rfl hasNil)))
    · refine AWc.cF c31 ?_
      refine AWc.seq ?_
      refine AWc.rE hmix [] ?_
      rcases cc h with ⟨c44, h⟩ | ⟨c44, h⟩
      · refine AWc.cT c44 ?_
        refine AWc.seq ?_
        obtain ⟨b49, h⟩ := gd_some h
        refine AWc.rE hmix [.apA byteD a0 ([116, 114, 117, 101] : List UInt8) 1 (fun _ => rfl) b49] ?_
        have hr := Option.some.inj h
        subst hr
        exact AWc.ret (canQ (N := 76) (k := 2) (l' := [(4, (.ap 1 1 (List.map byteD (a0 ++ ([116, 114, 117, 101] : List UInt8)))))]) (H' := [(1, (.tok ((List.map byteD (a0 ++ ([116, 114, 117, 101] : List UInt8))).length * 1)))]) rfl (inT [(1, 2)] []) (doneA (.inr rfl) rfl ⟨trivial, trivial⟩ (.refl _) (hasCons rfl hasNil)))
      · refine AWc.cF c44 ?_
        refine AWc.seq ?_
        refine AWc.rE hmix [] ?_
        rcases cc h with ⟨c57, h⟩ | ⟨c57, h⟩
        · refine AWc.cT c57 ?_
          refine AWc.seq ?_
          obtain ⟨b64, h⟩ := gd_some h
          refine AWc.rE hmix [.apA byteD a0 a1.fText 1 (fun _ => rfl) b64] ?_
          have hr := Option.some.inj h
          subst hr
          exact AWc.ret (canQ (N := 76) (k := 2) (l' := [(4, (.ap 1 1 (List.map byteD (a0 ++ a1.fText))))]) (H' := [(1, (.tok ((List.map byteD (a0 ++ a1.fText)).length * 1)))]) rfl (inT [(1, 2)] []) (doneA (.inr rfl) rfl ⟨trivial, trivial⟩ (.refl _) (hasCons rfl hasNil)))
        · refine AWc.cF c57 ?_
          refine AWc.seq ?_
          refine AWc.rE hmix [] ?_
          rcases cc h with ⟨c72, h⟩ | ⟨c72, h⟩
          · refine AWc.cT c72 ?_
            refine AWc.seq ?_
            obtain ⟨r79, e79, h⟩ := bind_some h
            refine AWc.rE hmix [.call (F424 hmix hc.2 e79) [(1, 2)] 2] ?_
            have hr := Option.some.inj h
            subst hr
            exact AWc.ret (canQ (N := 76) (k := 2) (l' := [(4, (.ap 1 1 (List.map byteD r79)))]) (H' := [(1, (.tok ((List.map byteD r79).length * 1)))]) rfl (inT [(1, 2)] []) (doneA (.inr rfl) rfl ⟨trivial, trivial⟩ (.refl _) (hasCons rfl hasNil)))
          · refine AWc.cF c72 ?_
            refine AWc.skip ?_
            refine AWc.seq ?_
            refine AWc.rE hmix [] ?_
            refine AWc.seqS (N := 76) 2 (fun (z : (List UInt8)) => [(0, (.ap 0 1 (List.map byteD a0))), (3, (.ptr 1 0)), (5, (.d (.str z)))]) (fun z => [(0, (.tok ((List.map byteD a0).length * 1))), (1, (.cells [(.d (.int .i64 a1.fKind)), (.d (.str a1.fText)), (.d (.sl (List.map (rtE (z := 4)) a1.fL))), (.d (.sl (List.map D.str a1.fKeys)))]))]) (fun z => f423_j99 k a0 a1 rc423 z = some r) rfl_le ?_ ?_
            · refine AWc.seq ?_
              refine AWc.rE hmix [] ?_
              rcases cc h with ⟨c94, h⟩ | ⟨c94, h⟩
              · refine AWc.cT c94 ?_
                refine AWc.rE hmix [] ?_
                exact ⟨([123, 125] : List UInt8), h, (inT [] [])⟩
              · refine AWc.cF c94 ?_
                refine AWc.skip ?_
                exact ⟨([91, 93] : List UInt8), h, (inT [] [])⟩
            · intro j99_1 h
              unfold f423_j99 at h
              refine AWc.seq ?_
              obtain ⟨b104, h⟩ := gd_some h
              obtain ⟨b106, h⟩ := gd_some h
              refine AWc.rE hmix [.sd b104, .apA byteD a0 ([(j99_1.getD ((0 : Int)).toNat 0)] : List UInt8) 1 (fun _ => rfl) b106] ?_
              refine AWc.seqS (N := 76) 2 (fun (z : (List UInt8)) => [(0, (.ap 1 1 (List.map byteD z))), (5, (.d (.str j99_1)))]) (fun z => [(1, (.tok ((List.map byteD z).length * 1)))]) (fun z => f423_j182 k j99_1 z = some r) rfl_le ?_ ?_
              · refine AWc.seq ?_
                refine AWc.rE hmix [.ln (rtE (z := 4)) a1.fL] ?_
                obtain ⟨o116, h116, h⟩ := bind_some h
                refine AWc.block ?_
                refine AWc.loopK (N := 76) 3 (fun (x : ((List UInt8) × Int)) => [(0, (.ap 1 1 (List.map byteD x.1))), (3, (.ptr 2 0)), (5, (.d (.str j99_1))), (43, (.d (.sl (List.map (rtE (z := 4)) a1.fL)))), (44, (.d (.int .i64 ((a1.fL.length : Nat) : Int)))), (45, (.d (.int .i64 x.2)))]) (fun x => [(1, (.tok ((List.map byteD x.1).length * 1))), (2, (.cells [(.d (.int .i64 a1.fKind)), (.d (.str a1.fText)), (.d (.sl (List.map (rtE (z := 4)) a1.fL))), (.d (.sl (List.map D.str a1.fKeys)))]))]) (fun k x => f423_l116 a1 rc423 k x.1 x.2 = some o116) k ((a0 ++ ([(j99_1.getD ((0 : Int)).toNat 0)] : List UInt8)), (0 : Int)) rfl_le (fun x hx => by cases hx) h116 (inT [(1, 2), (2, 1)] []) ?_
                clear h116
                intro k
                rintro ⟨y116_1, y116_2⟩ h116
                dsimp only at h116 ⊢
                rw [f423_l116] at h116
                refine AWc.seq ?_
                refine AWc.rE hmix [] ?_
                refine AWc.seq ?_
                rcases cc h116 with ⟨c123, h116⟩ | ⟨c123, h116⟩
                · refine AWc.cT c123 ?_
                  refine AWc.skip ?_
                  refine AWc.seq ?_
                  refine AWc.block ?_
                  refine AWc.seq ?_
                  obtain ⟨b132, h116⟩ := gd_some h116
                  obtain ⟨rx132, ex132, h116⟩ := bind_some h116
                  refine AWc.rE hmix [.iadE (rtE (z := 4)) a1.fL 4 rtE_ok.len b132 (TJson.dec_eq ex132)] ?_
                  refine AWc.seqS (N := 76) 4 (fun (z : (List UInt8)) => [(0, (.ap 1 1 (List.map byteD z))), (3, (.ptr 2 0)), (5, (.d (.str j99_1))), (6, (.d (.int .i64 y116_2))), (7, (.ptr 3 0)), (43, (.d (.sl (List.map (rtE (z := 4)) a1.fL)))), (44, (.d (.int .i64 ((a1.fL.length : Nat) : Int)))), (45, (.d (.int .i64 y116_2)))]) (fun z => [(1, (.tok ((List.map byteD z).length * 1))), (2, (.cells [(.d (.int .i64 a1.fKind)), (.d (.str a1.fText)), (.d (.sl (List.map (rtE (z := 4)) a1.fL))), (.d (.sl (List.map D.str a1.fKeys)))])), (3, (.cells [(.d (.int .i64 rx132.fKind)), (.d (.str rx132.fText)), (.d (.sl (List.map (rtE (z := 4)) rx132.fL))), (.d (.sl (List.map D.str rx132.fKeys)))]))]) (fun z => f423_j151 (f423_l116 a1 rc423 k) k a1 y116_2 rc423 rx132 z = some o116) rfl_le ?_ ?_
                  · refine AWc.seq ?_
                    refine AWc.rE hmix [] ?_
                    rcases cc h116 with ⟨c143, h116⟩ | ⟨c143, h116⟩
                    · refine AWc.cT c143 ?_
                      obtain ⟨b148, h116⟩ := gd_some h116
                      refine AWc.rE hmix [.apA byteD y116_1 ([(44 : UInt8)] : List UInt8) 1 (fun _ => rfl) b148] ?_
                      exact ⟨(y116_1 ++ ([(44 : UInt8)] : List UInt8)), h116, (inT [(1, 4)] [])⟩
                    · refine AWc.cF c143 ?_
                      refine AWc.skip ?_
                      exact ⟨y116_1, h116, (inT [] [])⟩
                  · intro j151_1 h116
                    unfold f423_j151 at h116
                    refine AWc.seqS (N := 76) 4 (fun (z : (List UInt8)) => [(0, (.ap 1 1 (List.map byteD z))), (3, (.ptr 2 0)), (5, (.d (.str j99_1))), (7, (.ptr 3 0)), (43, (.d (.sl (List.map (rtE (z := 4)) a1.fL)))), (44, (.d (.int .i64 ((a1.fL.length : Nat) : Int)))), (45, (.d (.int .i64 y116_2)))]) (fun z => [(1, (.tok ((List.map byteD z).length * 1))), (2, (.cells [(.d (.int .i64 a1.fKind)), (.d (.str a1.fText)), (.d (.sl (List.map (rtE (z := 4)) a1.fL))), (.d (.sl (List.map D.str a1.fKeys)))])), (3, (.cells [(.d (.int .i64 rx132.fKind)), (.d (.str rx132.fText)), (.d (.sl (List.map (rtE (z := 4)) rx132.fL))), (.d (.sl (List.map D.str rx132.fKeys)))]))]) (fun z => f423_j172 (f423_l116 a1 rc423 k) k rc423 rx132 y116_2 z = some o116) rfl_le ?_ ?_
                    · refine AWc.seq ?_
                      refine AWc.rE hmix [] ?_
                      rcases cc h116 with ⟨c158, h116⟩ | ⟨c158, h116⟩
                      · refine AWc.cT c158 ?_
                        obtain ⟨b165, h116⟩ := gd_some h116
                        obtain ⟨r167, e167, h116⟩ := bind_some h116
                        obtain ⟨b169, h116⟩ := gd_some h116
                        refine AWc.rE hmix [.iad D.str a1.fKeys 1 (fun _ => rfl) b165, .call (F424 hmix hc.2 e167) [(0, 1), (1, 4)] 2, .apA byteD r167 ([(58 : UInt8)] : List UInt8) 1 (fun _ => rfl) b169] ?_
                        exact ⟨(r167 ++ ([(58 : UInt8)] : List UInt8)), h116, (inT [(1, 5)] [])⟩
                      · refine AWc.cF c158 ?_
                        refine AWc.skip ?_
                        exact ⟨j151_1, h116, (inT [] [])⟩
                    · intro j172_1 h116
                      unfold f423_j172 at h116
                      obtain ⟨r176, e176, h116⟩ := bind_some h116
                      refine AWc.rE hmix [.call (hrc423 _ _ _ e176) [(0, 1), (1, 4)] 2] ?_
                      refine AWc.rE hmix [] ?_
                      exact ⟨(r176, (IntKind.i64.wrap (y116_2 + (1 : Int)))), h116, (inT [(1, 4)] [])⟩
                · refine AWc.cF c123 ?_
                  cases h116
                  dsimp only at h
                  refine AWc.exit ?_
                  refine inBlk_eq ?_
                  exact ⟨y116_1, h, (inT [] [])⟩
              · intro j182_1 h
                unfold f423_j182 at h
                refine AWc.seq ?_
                obtain ⟨b187, h⟩ := gd_some h
                obtain ⟨b189, h⟩ := gd_some h
                refine AWc.rE hmix [.sd b187, .apA byteD j182_1 ([(j99_1.getD ((1 : Int)).toNat 0)] : List UInt8) 1 (fun _ => rfl) b189] ?_
                have hr := Option.some.inj h
                subst hr
                exact AWc.ret (canQ (N := 76) (k := 2) (l' := [(4, (.ap 1 1 (List.map byteD (j182_1 ++ ([(j99_1.getD ((1 : Int)).toNat 0)] : List UInt8)))))]) (H' := [(1, (.tok ((List.map byteD (j182_1 ++ ([(j99_1.getD ((1 : Int)).toNat 0)] : List UInt8))).length * 1)))]) rfl (inT [(1, 2)] []) (doneA (.inr rfl) rfl ⟨trivial, trivial⟩ (.refl _) (hasCons rfl hasNil)))
def f423 : Nat → (List UInt8) → TJson → Option (List UInt8)
  | 0, _, _ => none
  | k + 1, a0, a1 => f423_s (f423 k) k a0 a1
theorem F423 {P : Program} {N : Nat → Nat} (hmix : P.follows .mixedOrders = true) (hc : HC423 P N) {k : Nat} {a0 : (List UInt8)} {a1 : TJson} {r : (List UInt8)} (h : f423 k a0 a1 = some r) :
    ACalls P (N 423) [(.ap 0 1 (List.map byteD a0)), (.d (TJson.enc a1))] [(0, (.tok ((List.map byteD a0).length * 1)))] (.ap 1 1 (List.map byteD r)) [(1, (.tok ((List.map byteD r).length * 1)))] := by
  induction k generalizing a0 a1 r with
  | zero => exact absurd (show (none : Option _) = some r from h) (fun h2 => by cases h2)
  | succ k ih => exact F423_s hmix hc (fun _ _ _ h => ih h) h
/-- courant/json.Print -/
def C421 (N : Nat → Nat) : AFunc := { n := 9, params := 1, res := [.tmp 2], body :=
 (.seq (.region false [⟨(some 1), .box (.t 0), none, []⟩,
   ⟨(some 2), .mv (.k (.d (.str []))), none, []⟩])
  (.seq (.seq (.region false [⟨(some 3), .load (.t 1) 4 true, none, []⟩,
     ⟨(some 4), .call (.k (.d (.fn (N 422)))) [(.t 3)], none, [0]⟩,
     ⟨(some 5), .un .not (.t 4), none, [1]⟩])
    (.cond (.t 5) (.seq (.region false [⟨(some 2), .mv (.k (.d (.str []))), none, []⟩])
      .ret)
     (.skip)))
   (.seq (.region false [⟨(some 6), .load (.t 1) 4 true, none, []⟩,
     ⟨(some 7), .call (.k (.d (.fn (N 423)))) [(.k .nils), (.t 6)], none, [0]⟩,
     ⟨(some 8), .bs2s (.t 7), none, [1]⟩,
     ⟨(some 2), .mv (.t 8), none, [2, 1, 0]⟩])
    .ret))) }
def HC421 (P : Program) (N : Nat → Nat) : Prop := HasF P (N 421) (C421 N) ∧ HC422 P N ∧ HC423 P N
def f421 (k : Nat) (a0 : TJson) : Option (List UInt8) := (f422 k (TJson.mk a0.fKind a0.fText a0.fL a0.fKeys)).bind fun r11 => cond (!r11) (some ([] : List UInt8)) ((f423 k ([] : List UInt8) (TJson.mk a0.fKind a0.fText a0.fL a0.fKeys)).bind fun r24 => some r24)
theorem F421 {P : Program} {N : Nat → Nat} (hmix : P.follows .mixedOrders = true) (hc : HC421 P N) {k : Nat} {a0 : TJson} {r : (List UInt8)} (h : f421 k a0 = some r) :
    ACalls P (N 421) [(.d (TJson.enc a0))] [] (.d (.str r)) [] := by
  refine acalls_canon (F := C421 N) hc.1 0 0 rfl ?_
  unfold f421 at h
  dsimp only [C421, startL]
  refine AWc.seq ?_
  refine AWc.rE hmix [] ?_
  refine AWc.seq ?_
  refine AWc.seq ?_
  obtain ⟨r11, e11, h⟩ := bind_some h
  refine AWc.rE hmix [.call (F422 hmix hc.2.1 e11) [] 0] ?_
  rcases cc h with ⟨c13, h⟩ | ⟨c13, h⟩
  · refine AWc.cT c13 ?_
    refine AWc.seq ?_
    refine AWc.rE hmix [] ?_
    have hr := Option.some.inj h
    subst hr
    exact AWc.ret (canQ (N := 9) (k := 0) (l' := [(2, (.d (.str ([] : List UInt8))))]) (H' := []) rfl (inT [] []) (doneA (.inr rfl) rfl ⟨trivial, trivial⟩ (.refl _) hasNil))
  · refine AWc.cF c13 ?_
    refine AWc.skip ?_
    refine AWc.seq ?_
    obtain ⟨r24, e24, h⟩ := bind_some h
    refine AWc.rE hmix [.call (ACalls.nilA (F423 hmix hc.2.2 e24) 0 0 1) [] 2, .bs r24] ?_
    have hr := Option.some.inj h
    subst hr
    exact AWc.ret (canQ (N := 9) (k := 0) (l' := [(2, (.d (.str r24)))]) (H' := []) rfl (inT [] []) (doneA (.inr rfl) rfl ⟨trivial, trivial⟩ (.refl _) hasNil))
/-- courant/courantlaw02.awake -/
def C395 (N : Nat → Nat) : AFunc := { n := 20, params := 0, res := [.tmp 0], body :=
 (.seq (.region false [⟨(some 0), .mv (.k (.d (.bool false))), none, []⟩])
  (.seq (.region false [⟨(some 4), .call (.k (.d (.fn (N 396)))) [(.k (.d (.str [91, 49, 44, 32, 34, 97, 34, 93])))], none, []⟩,
    ⟨(some 3), .mv (.t 4), none, [0]⟩,
    ⟨(some 5), .ext (.t 3) 0, none, [1]⟩,
    ⟨(some 6), .ext (.t 3) 1, none, [1]⟩,
    ⟨(some 1), .alloc [(.int .i64 0), (.str []), (.sl []), (.sl [])], none, []⟩,
    ⟨none, .store (.t 1) (.t 5) 4, none, [4, 2, 0, 1]⟩,
    ⟨(some 2), .mv (.t 6), none, [3, 5, 0, 1, 2, 4]⟩])
   (.seq (.region false [⟨(some 7), .mv (.t 2), none, []⟩,
     ⟨(some 8), .bin .eql (.t 7) (.k (.d (.int .i64 0))), none, [0]⟩,
     ⟨(some 9), .mv (.t 8), none, [1]⟩,
     ⟨(some 10), .faddr (.t 1) 2, (some (9, true)), [2]⟩,
     ⟨(some 11), .load (.t 10) 1 false, (some (9, true)), [3, 2]⟩,
     ⟨(some 12), .len (.t 11), (some (9, true)), [4, 2]⟩,
     ⟨(some 13), .bin .eql (.t 12) (.k (.d (.int .i64 2))), (some (9, true)), [5, 2]⟩,
     ⟨(some 14), .pick (.t 9) (.t 13) (.k (.d (.bool false))), none, [2, 6]⟩,
     ⟨(some 15), .mv (.t 14), none, [7, 2]⟩,
     ⟨(some 16), .load (.t 1) 4 true, (some (15, true)), [8]⟩,
     ⟨(some 17), .call (.k (.d (.fn (N 421)))) [(.t 16)], (some (15, true)), [9, 8]⟩,
     ⟨(some 18), .bin .eql (.t 17) (.k (.d (.str [91, 49, 44, 34, 97, 34, 93]))), (some (15, true)), [10, 8]⟩,
     ⟨(some 19), .pick (.t 15) (.t 18) (.k (.d (.bool false))), none, [8, 11]⟩,
     ⟨(some 0), .mv (.t 19), none, [12, 10, 0, 1, 2, 3, 4, 5, 6, 7, 8, 9, 11]⟩])
    .ret))) }
def HC395 (P : Program) (N : Nat → Nat) : Prop := HasF P (N 395) (C395 N) ∧ HC396 P N ∧ HC421 P N
def f395 (k : Nat) : Option Bool := (f396 k ([91, 49, 44, 32, 34, 97, 34, 93] : List UInt8)).bind fun r8 => cond (decide (r8.1 = (0 : Int))) (cond (decide (((r8.2.2.2.1.length : Nat) : Int) = (2 : Int))) ((f421 k (TJson.mk r8.2.1 r8.2.2.1 r8.2.2.2.1 r8.2.2.2.2)).bind fun r28 => some (decide (r28 = ([91, 49, 44, 34, 97, 34, 93] : List UInt8)))) (some false)) (some false)
theorem F395 {P : Program} {N : Nat → Nat} (hmix : P.follows .mixedOrders = true) (hc : HC395 P N) {k : Nat} {r : Bool} (h : f395 k = some r) :
    ACalls P (N 395) [] [] (.d (.bool r)) [] := by
  refine acalls_canon (F := C395 N) hc.1 0 0 rfl ?_
  unfold f395 at h
  dsimp only [C395, startL]
  refine AWc.seq ?_
  refine AWc.rE hmix [] ?_
  refine AWc.seq ?_
  obtain ⟨r8, e8, h⟩ := bind_some h
  refine AWc.rE hmix [.call (F396 hmix hc.2.1 e8) [] 0] ?_
  refine AWc.seq ?_
  rcases cc h with ⟨c20, h⟩ | ⟨c20, h⟩
  · rcases cc h with ⟨c26, h⟩ | ⟨c26, h⟩
    · obtain ⟨r28, e28, h⟩ := bind_some h
      refine AWc.rE hmix [.br c20, .ln (rtE (z := 4)) r8.2.2.2.1, .br c26, .call (F421 hmix hc.2.2 e28) [] 0] ?_
      have hr := Option.some.inj h
      subst hr
      exact AWc.ret (canQ (N := 20) (k := 0) (l' := [(0, (.d (.bool (decide (r28 = ([91, 49, 44, 34, 97, 34, 93] : List UInt8))))))]) (H' := []) rfl (inT [] []) (doneA (.inr rfl) rfl ⟨trivial, trivial⟩ (.refl _) hasNil))
    · refine AWc.rE hmix [.br c20, .ln (rtE (z := 4)) r8.2.2.2.1, .br c26] ?_
      have hr := Option.some.inj h
      subst hr
      exact AWc.ret (canQ (N := 20) (k := 0) (l' := [(0, (.d (.bool false)))]) (H' := []) rfl (inT [] []) (doneA (.inr rfl) rfl ⟨trivial, trivial⟩ (.refl _) hasNil))
  · refine AWc.rE hmix [.br c20, .br (rfl : false = false)] ?_
    have hr := Option.some.inj h
    subst hr
    exact AWc.ret (canQ (N := 20) (k := 0) (l' := [(0, (.d (.bool false)))]) (H' := []) rfl (inT [] []) (doneA (.inr rfl) rfl ⟨trivial, trivial⟩ (.refl _) hasNil))
/-- courant/courantref02.Quote -/
def C356 (N : Nat → Nat) : AFunc := { n := 58, params := 1, res := [.tmp 2], body :=
 (.seq (.region false [⟨(some 2), .mv (.k (.d (.str []))), none, []⟩])
  (.seq (.region false [⟨(some 3), .mv (.k (.d (.str [34]))), none, []⟩])
   (.seq (.seq (.region false [⟨(some 4), .mv (.k (.d (.int .i64 0))), none, []⟩])
     (.block 0 (.loop (.seq (.seq (.region false [⟨(some 6), .mv (.t 4), none, []⟩,
          ⟨(some 7), .mv (.t 0), none, []⟩,
          ⟨(some 8), .slen (.t 7), none, [1]⟩,
          ⟨(some 9), .bin .lss (.t 6) (.t 8), none, [0, 2]⟩])
         (.cond (.t 9) (.skip)
          (.exit 0)))
        (.seq (.block 1 (.seq (.region false [⟨(some 12), .mv (.t 0), none, []⟩,
            ⟨(some 13), .mv (.t 4), none, []⟩,
            ⟨(some 14), .idx (.t 12) (.t 13), none, [0, 1]⟩,
            ⟨(some 5), .mv (.t 14), none, [2, 0, 1]⟩])
           (.block 2 (.seq (.region false [⟨(some 23), .mv (.t 5), none, []⟩,
              ⟨(some 24), .bin .eql (.t 23) (.k (.d (.int .u8 34))), none, [0]⟩,
              ⟨(some 25), .mv (.t 24), none, [1]⟩,
              ⟨(some 26), .mv (.t 5), (some (25, false)), [2]⟩,
              ⟨(some 27), .bin .eql (.t 26) (.k (.d (.int .u8 92))), (some (25, false)), [3, 2]⟩,
              ⟨(some 28), .pick (.t 25) (.k (.d (.bool true))) (.t 27), none, [2, 4]⟩,
              ⟨(some 22), .mv (.t 28), none, [5, 2]⟩])
             (.cond (.t 22) (.region false [⟨(some 29), .mv (.t 3), none, []⟩,
               ⟨(some 30), .bin .add (.t 29) (.k (.d (.str [92]))), none, [0]⟩,
               ⟨(some 31), .mv (.t 0), none, []⟩,
               ⟨(some 32), .mv (.t 4), none, []⟩,
               ⟨(some 33), .mv (.t 4), none, []⟩,
               ⟨(some 34), .bin .add (.t 33) (.k (.d (.int .i64 1))), none, [4]⟩,
               ⟨(some 35), .ssl (.t 31) (some (.t 32)) (some (.t 34)), none, [2, 3, 5]⟩,
               ⟨(some 36), .bin .add (.t 30) (.t 35), none, [1, 6]⟩,
               ⟨(some 3), .mv (.t 36), none, [7, 0, 1, 2, 3, 4, 5, 6]⟩])
              (.seq (.region false [⟨(some 38), .mv (.t 5), none, []⟩,
                ⟨(some 39), .bin .lss (.t 38) (.k (.d (.int .u8 32))), none, [0]⟩,
                ⟨(some 37), .mv (.t 39), none, [1]⟩])
               (.cond (.t 37) (.region true [⟨(some 40), .mv (.t 3), none, []⟩,
                 ⟨(some 41), .bin .add (.t 40) (.k (.d (.str [92, 117, 48, 48]))), none, [0]⟩,
                 ⟨(some 42), .mv (.t 5), none, []⟩,
                 ⟨(some 43), .bin .shr (.t 42) (.k (.d (.int .u64 4))), none, [2]⟩,
                 ⟨(some 44), .mv (.t 5), none, []⟩,
                 ⟨(some 45), .bin .shr (.t 44) (.k (.d (.int .u64 4))), none, [4]⟩,
                 ⟨(some 46), .bin .add (.t 45) (.k (.d (.int .u8 1))), none, [5]⟩,
                 ⟨(some 47), .ssl (.k (.d (.str [48, 49, 50, 51, 52, 53, 54, 55, 56, 57, 97, 98, 99, 100, 101, 102]))) (some (.t 43)) (some (.t 46)), none, [3, 6]⟩,
                 ⟨(some 48), .bin .add (.t 41) (.t 47), none, [1, 7]⟩,
                 ⟨(some 49), .mv (.t 5), none, []⟩,
                 ⟨(some 50), .bin .and (.t 49) (.k (.d (.int .u8 15))), none, [9]⟩,
                 ⟨(some 51), .mv (.t 5), none, []⟩,
                 ⟨(some 52), .bin .and (.t 51) (.k (.d (.int .u8 15))), none, [11]⟩,
                 ⟨(some 53), .bin .add (.t 52) (.k (.d (.int .u8 1))), none, [12]⟩,
                 ⟨(some 54), .ssl (.k (.d (.str [48, 49, 50, 51, 52, 53, 54, 55, 56, 57, 97, 98, 99, 100, 101, 102]))) (some (.t 50)) (some (.t 53)), none, [10, 13]⟩,
                 ⟨(some 55), .bin .add (.t 48) (.t 54), none, [8, 14]⟩,
                 ⟨(some 3), .mv (.t 55), none, [15, 0, 1, 2, 3, 4, 5, 6, 7, 8, 9, 10, 11, 12, 13, 14]⟩])
                (.region false [⟨(some 15), .mv (.t 3), none, []⟩,
                 ⟨(some 16), .mv (.t 0), none, []⟩,
                 ⟨(some 17), .mv (.t 4), none, []⟩,
                 ⟨(some 18), .mv (.t 4), none, []⟩,
                 ⟨(some 19), .bin .add (.t 18) (.k (.d (.int .i64 1))), none, [3]⟩,
                 ⟨(some 20), .ssl (.t 16) (some (.t 17)) (some (.t 19)), none, [1, 2, 4]⟩,
                 ⟨(some 21), .bin .add (.t 15) (.t 20), none, [0, 5]⟩,
                 ⟨(some 3), .mv (.t 21), none, [6, 0, 1, 2, 3, 4, 5]⟩]))))))))
         (.region false [⟨(some 10), .mv (.t 4), none, []⟩,
          ⟨(some 11), .bin .add (.t 10) (.k (.d (.int .i64 1))), none, [0]⟩,
          ⟨(some 4), .mv (.t 11), none, [1, 0]⟩]))))))
    (.seq (.region false [⟨(some 56), .mv (.t 3), none, []⟩,
      ⟨(some 57), .bin .add (.t 56) (.k (.d (.str [34]))), none, [0]⟩,
      ⟨(some 2), .mv (.t 57), none, [1, 0]⟩])
     .ret)))) }
def HC356 (P : Program) (N : Nat → Nat) : Prop := HasF P (N 356) (C356 N)
def f356_j100 (k : Nat) (j100_1 : (List UInt8)) : Option (List UInt8) := gd (j100_1.length + ([34] : List UInt8).length ≤ 9223372036854775807) (some (j100_1 ++ ([34] : List UInt8)))
def f356_j47 (L : (List UInt8) → Int → Option (LR2 (List UInt8) Unit (List UInt8))) (k : Nat) (y14_1 : (List UInt8)) (y14_2 : Int) (a0 : (List UInt8)) (j47_1 : Bool) : Option (LR2 (List UInt8) Unit (List UInt8)) := cond j47_1 (gd (y14_1.length + ([92] : List UInt8).length ≤ 9223372036854775807) (gd (0 ≤ y14_2 ∧ y14_2 ≤ (IntKind.i64.wrap (y14_2 + (1 : Int))) ∧ (IntKind.i64.wrap (y14_2 + (1 : Int))) ≤ ((a0.length : Nat) : Int)) (gd ((y14_1 ++ ([92] : List UInt8)).length + (sl a0 y14_2 (IntKind.i64.wrap (y14_2 + (1 : Int)))).length ≤ 9223372036854775807) (L ((y14_1 ++ ([92] : List UInt8)) ++ (sl a0 y14_2 (IntKind.i64.wrap (y14_2 + (1 : Int))))) (IntKind.i64.wrap (y14_2 + (1 : Int))))))) (cond (decide ((((a0.getD (y14_2).toNat 0).toNat : Nat) : Int) < (32 : Int))) (gd (y14_1.length + ([92, 117, 48, 48] : List UInt8).length ≤ 9223372036854775807) (gd (0 ≤ (Int.fdiv (((a0.getD (y14_2).toNat 0).toNat : Nat) : Int) (2 ^ (min ((4 : Int)).toNat IntKind.u8.bits))) ∧ (Int.fdiv (((a0.getD (y14_2).toNat 0).toNat : Nat) : Int) (2 ^ (min ((4 : Int)).toNat IntKind.u8.bits))) ≤ (((u8 (IntKind.u8.wrap ((Int.fdiv (((a0.getD (y14_2).toNat 0).toNat : Nat) : Int) (2 ^ (min ((4 : Int)).toNat IntKind.u8.bits))) + (1 : Int)))).toNat : Nat) : Int) ∧ (((u8 (IntKind.u8.wrap ((Int.fdiv (((a0.getD (y14_2).toNat 0).toNat : Nat) : Int) (2 ^ (min ((4 : Int)).toNat IntKind.u8.bits))) + (1 : Int)))).toNat : Nat) : Int) ≤ ((([48, 49, 50, 51, 52, 53, 54, 55, 56, 57, 97, 98, 99, 100, 101, 102] : List UInt8).length : Nat) : Int)) (gd ((y14_1 ++ ([92, 117, 48, 48] : List UInt8)).length + (sl ([48, 49, 50, 51, 52, 53, 54, 55, 56, 57, 97, 98, 99, 100, 101, 102] : List UInt8) (Int.fdiv (((a0.getD (y14_2).toNat 0).toNat : Nat) : Int) (2 ^ (min ((4 : Int)).toNat IntKind.u8.bits))) (((u8 (IntKind.u8.wrap ((Int.fdiv (((a0.getD (y14_2).toNat 0).toNat : Nat) : Int) (2 ^ (min ((4 : Int)).toNat IntKind.u8.bits))) + (1 : Int)))).toNat : Nat) : Int)).length ≤ 9223372036854775807) (gd (0 ≤ (((u8 (bitsA .and .u8 (((a0.getD (y14_2).toNat 0).toNat : Nat) : Int) (15 : Int))).toNat : Nat) : Int) ∧ (((u8 (bitsA .and .u8 (((a0.getD (y14_2).toNat 0).toNat : Nat) : Int) (15 : Int))).toNat : Nat) : Int) ≤ (((u8 (IntKind.u8.wrap ((((u8 (bitsA .and .u8 (((a0.getD (y14_2).toNat 0).toNat : Nat) : Int) (15 : Int))).toNat : Nat) : Int) + (1 : Int)))).toNat : Nat) : Int) ∧ (((u8 (IntKind.u8.wrap ((((u8 (bitsA .and .u8 (((a0.getD (y14_2).toNat 0).toNat : Nat) : Int) (15 : Int))).toNat : Nat) : Int) + (1 : Int)))).toNat : Nat) : Int) ≤ ((([48, 49, 50, 51, 52, 53, 54, 55, 56, 57, 97, 98, 99, 100, 101, 102] : List UInt8).length : Nat) : Int)) (gd (((y14_1 ++ ([92, 117, 48, 48] : List UInt8)) ++ (sl ([48, 49, 50, 51, 52, 53, 54, 55, 56, 57, 97, 98, 99, 100, 101, 102] : List UInt8) (Int.fdiv (((a0.getD (y14_2).toNat 0).toNat : Nat) : Int) (2 ^ (min ((4 : Int)).toNat IntKind.u8.bits))) (((u8 (IntKind.u8.wrap ((Int.fdiv (((a0.getD (y14_2).toNat 0).toNat : Nat) : Int) (2 ^ (min ((4 : Int)).toNat IntKind.u8.bits))) + (1 : Int)))).toNat : Nat) : Int))).length + (sl ([48, 49, 50, 51, 52, 53, 54, 55, 56, 57, 97, 98, 99, 100, 101, 102] : List UInt8) (((u8 (bitsA .and .u8 (((a0.getD (y14_2).toNat 0).toNat : Nat) : Int) (15 : Int))).toNat : Nat) : Int) (((u8 (IntKind.u8.wrap ((((u8 (bitsA .and .u8 (((a0.getD (y14_2).toNat 0).toNat : Nat) : Int) (15 : Int))).toNat : Nat) : Int) + (1 : Int)))).toNat : Nat) : Int)).length ≤ 9223372036854775807) (L (((y14_1 ++ ([92, 117, 48, 48] : List UInt8)) ++ (sl ([48, 49, 50, 51, 52, 53, 54, 55, 56, 57, 97, 98, 99, 100, 101, 102] : List UInt8) (Int.fdiv (((a0.getD (y14_2).toNat 0).toNat : Nat) : Int) (2 ^ (min ((4 : Int)).toNat IntKind.u8.bits))) (((u8 (IntKind.u8.wrap ((Int.fdiv (((a0.getD (y14_2).toNat 0).toNat : Nat) : Int) (2 ^ (min ((4 : Int)).toNat IntKind.u8.bits))) + (1 : Int)))).toNat : Nat) : Int))) ++ (sl ([48, 49, 50, 51, 52, 53, 54, 55, 56, 57, 97, 98, 99, 100, 101, 102] : List UInt8) (((u8 (bitsA .and .u8 (((a0.getD (y14_2).toNat 0).toNat : Nat) : Int) (15 : Int))).toNat : Nat) : Int) (((u8 (IntKind.u8.wrap ((((u8 (bitsA .and .u8 (((a0.getD (y14_2).toNat 0).toNat : Nat) : Int) (15 : Int))).toNat : Nat) : Int) + (1 : Int)))).toNat : Nat) : Int))) (IntKind.i64.wrap (y14_2 + (1 : Int))))))))) (gd (0 ≤ y14_2 ∧ y14_2 ≤ (IntKind.i64.wrap (y14_2 + (1 : Int))) ∧ (IntKind.i64.wrap (y14_2 + (1 : Int))) ≤ ((a0.length : Nat) : Int)) (gd (y14_1.length + (sl a0 y14_2 (IntKind.i64.wrap (y14_2 + (1 : Int)))).length ≤ 9223372036854775807) (L (y14_1 ++ (sl a0 y14_2 (IntKind.i64.wrap (y14_2 + (1 : Int))))) (IntKind.i64.wrap (y14_2 + (1 : Int)))))))
def f356_l14 (a0 : (List UInt8)) : Nat → (List UInt8) → Int → Option (LR2 (List UInt8) Unit (List UInt8))
  | 0, _, _ => none
  | k + 1, y14_1, y14_2 => cond (decide (y14_2 < ((a0.length : Nat) : Int))) (gd (0 ≤ y14_2 ∧ y14_2 < ((a0.length : Nat) : Int)) (cond (decide ((((a0.getD (y14_2).toNat 0).toNat : Nat) : Int) = (34 : Int))) (f356_j47 (f356_l14 a0 k) k y14_1 y14_2 a0 true) (f356_j47 (f356_l14 a0 k) k y14_1 y14_2 a0 (decide ((((a0.getD (y14_2).toNat 0).toNat : Nat) : Int) = (92 : Int)))))) (some (.b0 y14_1))
def f356 (k : Nat) (a0 : (List UInt8)) : Option (List UInt8) := (f356_l14 a0 k ([34] : List UInt8) (0 : Int)).bind fun o14 => (match o14 with | .b0 x14_1 => f356_j100 k x14_1 | _ => none)
theorem F356 {P : Program} {N : Nat → Nat} (hmix : P.follows .mixedOrders = true) (hc : HC356 P N) {k : Nat} {a0 : (List UInt8)} {r : (List UInt8)} (h : f356 k a0 = some r) :
    ACalls P (N 356) [(.d (.str a0))] [] (.d (.str r)) [] := by
  refine acalls_canon (F := C356 N) hc 0 0 rfl ?_
  unfold f356 at h
  dsimp only [C356, startL]
  refine AWc.seq ?_
  refine AWc.rE hmix [] ?_
  refine AWc.seq ?_
  refine AWc.rE hmix [] ?_
  refine AWc.seqS (N := 58) 0 (fun (z : (List UInt8)) => [(3, (.d (.str z)))]) (fun z => []) (fun z => f356_j100 k z = some r) rfl_le ?_ ?_
  · refine AWc.seq ?_
    refine AWc.rE hmix [] ?_
    obtain ⟨o14, h14, h⟩ := bind_some h
    refine AWc.block ?_
    refine AWc.loopK (N := 58) 0 (fun (x : ((List UInt8) × Int)) => [(0, (.d (.str a0))), (3, (.d (.str x.1))), (4, (.d (.int .i64 x.2)))]) (fun x => []) (fun k x => f356_l14 a0 k x.1 x.2 = some o14) k (([34] : List UInt8), (0 : Int)) rfl_le (fun x hx => by cases hx) h14 (inT [] []) ?_
    clear h14
    intro k
    rintro ⟨y14_1, y14_2⟩ h14
    dsimp only at h14 ⊢
    rw [f356_l14] at h14
    refine AWc.seq ?_
    refine AWc.seq ?_
    refine AWc.rE hmix [] ?_
    rcases cc h14 with ⟨c24, h14⟩ | ⟨c24, h14⟩
    · refine AWc.cT c24 ?_
      refine AWc.skip ?_
      refine AWc.seq ?_
      refine AWc.block ?_
      refine AWc.seq ?_
      obtain ⟨b34, h14⟩ := gd_some h14
      refine AWc.rE hmix [.sd b34] ?_
      refine AWc.block ?_
      refine AWc.seqS (N := 58) 0 (fun (z : Bool) => [(0, (.d (.str a0))), (3, (.d (.str y14_1))), (4, (.d (.int .i64 y14_2))), (5, (.d (.int .u8 (((a0.getD (y14_2).toNat 0).toNat : Nat) : Int)))), (22, (.d (.bool z))), (26, .any), (27, .any)]) (fun z => []) (fun z => f356_j47 (f356_l14 a0 k) k y14_1 y14_2 a0 z = some o14) rfl_le ?_ ?_
      · rcases cc h14 with ⟨c42, h14⟩ | ⟨c42, h14⟩
        · refine AWc.rE hmix [.br c42] ?_
          exact ⟨true, h14, (inT [] [])⟩
        · refine AWc.rE hmix [.br c42] ?_
          exact ⟨(decide ((((a0.getD (y14_2).toNat 0).toNat : Nat) : Int) = (92 : Int))), h14, (inT [] [])⟩
      · intro j47_1 h14
        unfold f356_j47 at h14
        rcases cc h14 with ⟨c47, h14⟩ | ⟨c47, h14⟩
        · refine AWc.cT c47 ?_
          obtain ⟨b51, h14⟩ := gd_some h14
          obtain ⟨b56, h14⟩ := gd_some h14
          obtain ⟨b57, h14⟩ := gd_some h14
          refine AWc.rE hmix [.sd b51, .sd b56, .sd b57] ?_
          refine AWc.rE hmix [] ?_
          exact ⟨(((y14_1 ++ ([92] : List UInt8)) ++ (sl a0 y14_2 (IntKind.i64.wrap (y14_2 + (1 : Int))))), (IntKind.i64.wrap (y14_2 + (1 : Int)))), h14, (inT [] [])⟩
        · refine AWc.cF c47 ?_
          refine AWc.seq ?_
          refine AWc.rE hmix [] ?_
          rcases cc h14 with ⟨c65, h14⟩ | ⟨c65, h14⟩
          · refine AWc.cT c65 ?_
            obtain ⟨b69, h14⟩ := gd_some h14
            obtain ⟨b75, h14⟩ := gd_some h14
            obtain ⟨b76, h14⟩ := gd_some h14
            obtain ⟨b82, h14⟩ := gd_some h14
            obtain ⟨b83, h14⟩ := gd_some h14
            refine AWc.rE hmix [.sd b69, .sd (p := 0 ≤ (4 : Int)) (by decide), .sd (p := 0 ≤ (4 : Int)) (by decide), .sd b75, .sd b76, .sd b82, .sd b83] ?_
            refine AWc.rE hmix [] ?_
            exact ⟨((((y14_1 ++ ([92, 117, 48, 48] : List UInt8)) ++ (sl ([48, 49, 50, 51, 52, 53, 54, 55, 56, 57, 97, 98, 99, 100, 101, 102] : List UInt8) (Int.fdiv (((a0.getD (y14_2).toNat 0).toNat : Nat) : Int) (2 ^ (min ((4 : Int)).toNat IntKind.u8.bits))) (((u8 (IntKind.u8.wrap ((Int.fdiv (((a0.getD (y14_2).toNat 0).toNat : Nat) : Int) (2 ^ (min ((4 : Int)).toNat IntKind.u8.bits))) + (1 : Int)))).toNat : Nat) : Int))) ++ (sl ([48, 49, 50, 51, 52, 53, 54, 55, 56, 57, 97, 98, 99, 100, 101, 102] : List UInt8) (((u8 (bitsA .and .u8 (((a0.getD (y14_2).toNat 0).toNat : Nat) : Int) (15 : Int))).toNat : Nat) : Int) (((u8 (IntKind.u8.wrap ((((u8 (bitsA .and .u8 (((a0.getD (y14_2).toNat 0).toNat : Nat) : Int) (15 : Int))).toNat : Nat) : Int) + (1 : Int)))).toNat : Nat) : Int))), (IntKind.i64.wrap (y14_2 + (1 : Int)))), h14, (inT [] [])⟩
          · refine AWc.cF c65 ?_
            obtain ⟨b92, h14⟩ := gd_some h14
            obtain ⟨b93, h14⟩ := gd_some h14
            refine AWc.rE hmix [.sd b92, .sd b93] ?_
            refine AWc.rE hmix [] ?_
            exact ⟨((y14_1 ++ (sl a0 y14_2 (IntKind.i64.wrap (y14_2 + (1 : Int))))), (IntKind.i64.wrap (y14_2 + (1 : Int)))), h14, (inT [] [])⟩
    · refine AWc.cF c24 ?_
      cases h14
      dsimp only at h
      refine AWc.exit ?_
      refine inBlk_eq ?_
      exact ⟨y14_1, h, (inT [] [])⟩
  · intro j100_1 h
    unfold f356_j100 at h
    refine AWc.seq ?_
    obtain ⟨b104, h⟩ := gd_some h
    refine AWc.rE hmix [.sd b104] ?_
    have hr := Option.some.inj h
    subst hr
    exact AWc.ret (canQ (N := 58) (k := 0) (l' := [(2, (.d (.str (j100_1 ++ ([34] : List UInt8)))))]) (H' := []) rfl (inT [] []) (doneA (.inr rfl) rfl ⟨trivial, trivial⟩ (.refl _) hasNil))
/-- courant/courantlaw02.JsonStrings$1 -/
def C446 (N : Nat → Nat) : AFunc := { n := 22, params := 2, res := [], body :=
 (.seq (.region false [⟨(some 5), .load (.t 1) 1 false, none, []⟩,
   ⟨(some 6), .bin .add (.t 5) (.k (.d (.str [92, 117]))), none, [0]⟩,
   ⟨none, .store (.t 1) (.t 6) 1, none, [1, 0]⟩])
  (.seq (.region false [⟨(some 3), .mv (.k (.d (.int .i64 12))), none, []⟩])
   (.block 0 (.loop (.seq (.seq (.region false [⟨(some 7), .mv (.t 3), none, []⟩,
        ⟨(some 8), .bin .geq (.t 7) (.k (.d (.int .i64 0))), none, [0]⟩])
       (.cond (.t 8) (.skip)
        (.exit 0)))
      (.seq (.block 1 (.seq (.region false [⟨(some 11), .mv (.t 0), none, []⟩,
          ⟨(some 12), .mv (.t 3), none, []⟩,
          ⟨(some 13), .cvi .u64 (.t 12), none, [1]⟩,
          ⟨(some 14), .bin .shr (.t 11) (.t 13), none, [0, 2]⟩,
          ⟨(some 15), .bin .and (.t 14) (.k (.d (.int .i64 15))), none, [3]⟩,
          ⟨(some 4), .mv (.t 15), none, [4, 0, 1, 2, 3]⟩])
         (.region true [⟨(some 16), .load (.t 1) 1 false, none, []⟩,
          ⟨(some 17), .mv (.t 4), none, []⟩,
          ⟨(some 18), .mv (.t 4), none, []⟩,
          ⟨(some 19), .bin .add (.t 18) (.k (.d (.int .i64 1))), none, [2]⟩,
          ⟨(some 20), .ssl (.k (.d (.str [48, 49, 50, 51, 52, 53, 54, 55, 56, 57, 97, 66, 99, 68, 101, 70]))) (some (.t 17)) (some (.t 19)), none, [1, 3]⟩,
          ⟨(some 21), .bin .add (.t 16) (.t 20), none, [0, 4]⟩,
          ⟨none, .store (.t 1) (.t 21) 1, none, [5, 0, 1, 2, 3, 4]⟩])))
       (.region false [⟨(some 9), .mv (.t 3), none, []⟩,
        ⟨(some 10), .bin .sub (.t 9) (.k (.d (.int .i64 4))), none, [0]⟩,
        ⟨(some 3), .mv (.t 10), none, [1, 0]⟩]))))))) }
def HC446 (P : Program) (N : Nat → Nat) : Prop := HasF P (N 446) (C446 N)
def f446_l11 (a0 : Int) : Nat → Int → (List UInt8) → Option (LR2 (List UInt8) Unit (List UInt8))
  | 0, _, _ => none
  | k + 1, y11_1, y11_2 => cond (decide (y11_1 ≥ (0 : Int))) (gd (0 ≤ (IntKind.u64.wrap y11_1)) (gd (0 ≤ (bitsA .and .i64 (Int.fdiv a0 (2 ^ (min ((IntKind.u64.wrap y11_1)).toNat IntKind.i64.bits))) (15 : Int)) ∧ (bitsA .and .i64 (Int.fdiv a0 (2 ^ (min ((IntKind.u64.wrap y11_1)).toNat IntKind.i64.bits))) (15 : Int)) ≤ (IntKind.i64.wrap ((bitsA .and .i64 (Int.fdiv a0 (2 ^ (min ((IntKind.u64.wrap y11_1)).toNat IntKind.i64.bits))) (15 : Int)) + (1 : Int))) ∧ (IntKind.i64.wrap ((bitsA .and .i64 (Int.fdiv a0 (2 ^ (min ((IntKind.u64.wrap y11_1)).toNat IntKind.i64.bits))) (15 : Int)) + (1 : Int))) ≤ ((([48, 49, 50, 51, 52, 53, 54, 55, 56, 57, 97, 66, 99, 68, 101, 70] : List UInt8).length : Nat) : Int)) (gd (y11_2.length + (sl ([48, 49, 50, 51, 52, 53, 54, 55, 56, 57, 97, 66, 99, 68, 101, 70] : List UInt8) (bitsA .and .i64 (Int.fdiv a0 (2 ^ (min ((IntKind.u64.wrap y11_1)).toNat IntKind.i64.bits))) (15 : Int)) (IntKind.i64.wrap ((bitsA .and .i64 (Int.fdiv a0 (2 ^ (min ((IntKind.u64.wrap y11_1)).toNat IntKind.i64.bits))) (15 : Int)) + (1 : Int)))).length ≤ 9223372036854775807) (f446_l11 a0 k (IntKind.i64.wrap (y11_1 - (4 : Int))) (y11_2 ++ (sl ([48, 49, 50, 51, 52, 53, 54, 55, 56, 57, 97, 66, 99, 68, 101, 70] : List UInt8) (bitsA .and .i64 (Int.fdiv a0 (2 ^ (min ((IntKind.u64.wrap y11_1)).toNat IntKind.i64.bits))) (15 : Int)) (IntKind.i64.wrap ((bitsA .and .i64 (Int.fdiv a0 (2 ^ (min ((IntKind.u64.wrap y11_1)).toNat IntKind.i64.bits))) (15 : Int)) + (1 : Int))))))))) (some (.b0 y11_2))
def f446 (k : Nat) (a0 : Int) (a1 : (List UInt8)) : Option (List UInt8) := gd (a1.length + ([92, 117] : List UInt8).length ≤ 9223372036854775807) ((f446_l11 a0 k (12 : Int) (a1 ++ ([92, 117] : List UInt8))).bind fun o11 => (match o11 with | .b0 x11_1 => some x11_1 | _ => none))
theorem F446 {P : Program} {N : Nat → Nat} (hmix : P.follows .mixedOrders = true) (hc : HC446 P N) {k : Nat} {a0 : Int} {a1 : (List UInt8)} {r : (List UInt8)} (h : f446 k a0 a1 = some r) :
    ACalls P (N 446) [(.d (.int .i64 a0)), (.ptr 0 0)] [(0, (.cells [(.d (.str a1))]))] (.tup []) [(0, (.cells [(.d (.str r))]))] := by
  refine acalls_canon (F := C446 N) hc 1 1 rfl ?_
  unfold f446 at h
  dsimp only [C446, startL]
  refine AWc.seq ?_
  obtain ⟨b5, h⟩ := gd_some h
  refine AWc.rE hmix [.sd b5] ?_
  refine AWc.seq ?_
  refine AWc.rE hmix [] ?_
  obtain ⟨o11, h11, h⟩ := bind_some h
  refine AWc.block ?_
  refine AWc.loopK (N := 22) 1 (fun (x : (Int × (List UInt8))) => [(0, (.d (.int .i64 a0))), (1, (.ptr 0 0)), (3, (.d (.int .i64 x.1)))]) (fun x => [(0, (.cells [(.d (.str x.2))]))]) (fun k x => f446_l11 a0 k x.1 x.2 = some o11) k ((12 : Int), (a1 ++ ([92, 117] : List UInt8))) rfl_le (fun x hx => by cases hx) h11 (inT [] []) ?_
  clear h11
  intro k
  rintro ⟨y11_1, y11_2⟩ h11
  dsimp only at h11 ⊢
  rw [f446_l11] at h11
  refine AWc.seq ?_
  refine AWc.seq ?_
  refine AWc.rE hmix [] ?_
  rcases cc h11 with ⟨c19, h11⟩ | ⟨c19, h11⟩
  · refine AWc.cT c19 ?_
    refine AWc.skip ?_
    refine AWc.seq ?_
    refine AWc.block ?_
    refine AWc.seq ?_
    obtain ⟨b30, h11⟩ := gd_some h11
    refine AWc.rE hmix [.sd b30] ?_
    obtain ⟨b39, h11⟩ := gd_some h11
    obtain ⟨b40, h11⟩ := gd_some h11
    refine AWc.rE hmix [.sd b39, .sd b40] ?_
    refine AWc.rE hmix [] ?_
    exact ⟨((IntKind.i64.wrap (y11_1 - (4 : Int))), (y11_2 ++ (sl ([48, 49, 50, 51, 52, 53, 54, 55, 56, 57, 97, 66, 99, 68, 101, 70] : List UInt8) (bitsA .and .i64 (Int.fdiv a0 (2 ^ (min ((IntKind.u64.wrap y11_1)).toNat IntKind.i64.bits))) (15 : Int)) (IntKind.i64.wrap ((bitsA .and .i64 (Int.fdiv a0 (2 ^ (min ((IntKind.u64.wrap y11_1)).toNat IntKind.i64.bits))) (15 : Int)) + (1 : Int)))))), h11, (inT [] [])⟩
  · refine AWc.cF c19 ?_
    cases h11
    dsimp only at h
    refine AWc.exit ?_
    refine inBlk_eq ?_
    have hr := Option.some.inj h
    subst hr
    exact canQ (N := 22) (k := 1) (l' := []) (H' := [(0, (.cells [(.d (.str y11_2))]))]) rfl (inT [] []) (doneA (.inl rfl) rfl trivial (.refl _) (hasCons rfl hasNil))
def RH437 (P : Program) (N : Nat → Nat) (rc437 : TJson → TJson → Option Bool) : Prop := ∀ (a0 : TJson) (a1 : TJson) (r : Bool), rc437 a0 a1 = some r → ACalls P (N 437) [(.d (TJson.enc a0)), (.d (TJson.enc a1))] [] (.d (.bool r)) []
/-- courant/couranthelp.Same[courant/api.Json] -/
def C438 (N : Nat → Nat) : AFunc := { n := 30, params := 3, res := [.tmp 6], body :=
 (.seq (.region false [⟨(some 6), .mv (.k (.d (.bool false))), none, []⟩])
  (.seq (.seq (.region false [⟨(some 8), .mv (.t 0), none, []⟩,
     ⟨(some 9), .len (.t 8), none, [0]⟩,
     ⟨(some 10), .mv (.t 1), none, []⟩,
     ⟨(some 11), .len (.t 10), none, [2]⟩,
     ⟨(some 12), .bin .neq (.t 9) (.t 11), none, [1, 3]⟩])
    (.cond (.t 12) (.seq (.region false [⟨(some 6), .mv (.k (.d (.bool false))), none, []⟩])
      .ret)
     (.skip)))
   (.seq (.seq (.region false [⟨(some 7), .mv (.k (.d (.int .i64 0))), none, []⟩])
     (.block 0 (.loop (.seq (.seq (.region false [⟨(some 13), .mv (.t 7), none, []⟩,
          ⟨(some 14), .mv (.t 0), none, []⟩,
          ⟨(some 15), .len (.t 14), none, [1]⟩,
          ⟨(some 16), .bin .lss (.t 13) (.t 15), none, [0, 2]⟩])
         (.cond (.t 16) (.skip)
          (.exit 0)))
        (.seq (.block 1 (.seq (.region true [⟨(some 19), .mv (.t 2), none, []⟩,
            ⟨(some 20), .mv (.t 0), none, []⟩,
            ⟨(some 21), .mv (.t 7), none, []⟩,
            ⟨(some 22), .iaddr (.t 20) (.t 21) 4, none, [1, 2]⟩,
            ⟨(some 23), .load (.t 22) 4 true, none, [3]⟩,
            ⟨(some 24), .mv (.t 1), none, []⟩,
            ⟨(some 25), .mv (.t 7), none, []⟩,
            ⟨(some 26), .iaddr (.t 24) (.t 25) 4, none, [5, 6]⟩,
            ⟨(some 27), .load (.t 26) 4 true, none, [7]⟩,
            ⟨(some 28), .call (.t 19) [(.t 23), (.t 27)], none, [0, 4, 8]⟩,
            ⟨(some 29), .un .not (.t 28), none, [9]⟩])
           (.cond (.t 29) (.seq (.region false [⟨(some 6), .mv (.k (.d (.bool false))), none, []⟩])
             .ret)
            (.skip))))
         (.region false [⟨(some 17), .mv (.t 7), none, []⟩,
          ⟨(some 18), .bin .add (.t 17) (.k (.d (.int .i64 1))), none, [0]⟩,
          ⟨(some 7), .mv (.t 18), none, [1, 0]⟩]))))))
    (.seq (.region false [⟨(some 6), .mv (.k (.d (.bool true))), none, []⟩])
     .ret)))) }
def HC438 (P : Program) (N : Nat → Nat) : Prop := HasF P (N 438) (C438 N)
def f438_l26 (a0 : (List (RT 4))) (a1 : (List (RT 4))) (rc437 : TJson → TJson → Option Bool) : Nat → Int → Option (LR2 Unit Unit Bool)
  | 0, _ => none
  | k + 1, y26_1 => cond (decide (y26_1 < ((a0.length : Nat) : Int))) (gd (0 ≤ y26_1 ∧ y26_1 < ((a0.length : Nat) : Int)) ((TJson.dec (rtE (rd a0 y26_1))).bind fun rx47 => gd (0 ≤ y26_1 ∧ y26_1 < ((a1.length : Nat) : Int)) ((TJson.dec (rtE (rd a1 y26_1))).bind fun rx51 => (rc437 rx47 rx51).bind fun r53 => cond (!r53) (some (.r false)) (f438_l26 a0 a1 rc437 k (IntKind.i64.wrap (y26_1 + (1 : Int))))))) (some (.b0 ()))
def f438 (rc437 : TJson → TJson → Option Bool) (k : Nat) (a0 : (List (RT 4))) (a1 : (List (RT 4))) : Option Bool := cond (decide (((a0.length : Nat) : Int) ≠ ((a1.length : Nat) : Int))) (some false) ((f438_l26 a0 a1 rc437 k (0 : Int)).bind fun o26 => (match o26 with | .b0 () => some true | .r x => some x | _ => none))
theorem F438 {P : Program} {N : Nat → Nat} (hmix : P.follows .mixedOrders = true) (hc : HC438 P N) {rc437 : TJson → TJson → Option Bool} (hrc437 : RH437 P N rc437) {k : Nat} {a0 : (List (RT 4))} {a1 : (List (RT 4))} {r : Bool} (h : f438 rc437 k a0 a1 = some r) :
    ACalls P (N 438) [(.d (.sl (List.map (rtE (z := 4)) a0))), (.d (.sl (List.map (rtE (z := 4)) a1))), (.d (.fn (N 437)))] [] (.d (.bool r)) [] := by
  refine acalls_canon (F := C438 N) hc 0 0 rfl ?_
  unfold f438 at h
  dsimp only [C438, startL]
  refine AWc.seq ?_
  refine AWc.rE hmix [] ?_
  refine AWc.seq ?_
  refine AWc.seq ?_
  refine AWc.rE hmix [.ln (rtE (z := 4)) a0, .ln (rtE (z := 4)) a1] ?_
  rcases cc h with ⟨c14, h⟩ | ⟨c14, h⟩
  · refine AWc.cT c14 ?_
    refine AWc.seq ?_
    refine AWc.rE hmix [] ?_
    have hr := Option.some.inj h
    subst hr
    exact AWc.ret (canQ (N := 30) (k := 0) (l' := [(6, (.d (.bool false)))]) (H' := []) rfl (inT [] []) (doneA (.inr rfl) rfl ⟨trivial, trivial⟩ (.refl _) hasNil))
  · refine AWc.cF c14 ?_
    refine AWc.skip ?_
    refine AWc.seq ?_
    refine AWc.seq ?_
    refine AWc.rE hmix [] ?_
    obtain ⟨o26, h26, h⟩ := bind_some h
    refine AWc.block ?_
    refine AWc.loopK (N := 30) 0 (fun (x : Int) => [(0, (.d (.sl (List.map (rtE (z := 4)) a0)))), (1, (.d (.sl (List.map (rtE (z := 4)) a1)))), (2, (.d (.fn (N 437)))), (7, (.d (.int .i64 x)))]) (fun x => []) (fun k x => f438_l26 a0 a1 rc437 k x = some o26) k (0 : Int) rfl_le (fun x hx => by cases hx) h26 (inT [] []) ?_
    clear h26
    intro k
    intro y26_1 h26
    rw [f438_l26] at h26
    refine AWc.seq ?_
    refine AWc.seq ?_
    refine AWc.rE hmix [.ln (rtE (z := 4)) a0] ?_
    rcases cc h26 with ⟨c36, h26⟩ | ⟨c36, h26⟩
    · refine AWc.cT c36 ?_
      refine AWc.skip ?_
      refine AWc.seq ?_
      refine AWc.block ?_
      refine AWc.seq ?_
      obtain ⟨b47, h26⟩ := gd_some h26
      obtain ⟨rx47, ex47, h26⟩ := bind_some h26
      obtain ⟨b51, h26⟩ := gd_some h26
      obtain ⟨rx51, ex51, h26⟩ := bind_some h26
      obtain ⟨r53, e53, h26⟩ := bind_some h26
      refine AWc.rE hmix [.iadE (rtE (z := 4)) a0 4 rtE_ok.len b47 (TJson.dec_eq ex47), .iadE (rtE (z := 4)) a1 4 rtE_ok.len b51 (TJson.dec_eq ex51), .call (hrc437 _ _ _ e53) [] 0] ?_
      rcases cc h26 with ⟨c55, h26⟩ | ⟨c55, h26⟩
      · refine AWc.cT c55 ?_
        refine AWc.seq ?_
        refine AWc.rE hmix [] ?_
        cases h26
        dsimp only at h
        have hr := Option.some.inj h
        subst hr
        exact AWc.ret (canQ (N := 30) (k := 0) (l' := [(6, (.d (.bool false)))]) (H' := []) rfl (inT [] []) (doneA (.inr rfl) rfl ⟨trivial, trivial⟩ (.refl _) hasNil))
      · refine AWc.cF c55 ?_
        refine AWc.skip ?_
        refine AWc.rE hmix [] ?_
        exact ⟨(IntKind.i64.wrap (y26_1 + (1 : Int))), h26, (inT [] [])⟩
    · refine AWc.cF c36 ?_
      cases h26
      dsimp only at h
      refine AWc.exit ?_
      refine inBlk_eq ?_
      refine AWc.seq ?_
      refine AWc.rE hmix [] ?_
      have hr := Option.some.inj h
      subst hr
      exact AWc.ret (canQ (N := 30) (k := 0) (l' := [(6, (.d (.bool true)))]) (H' := []) rfl (inT [] []) (doneA (.inr rfl) rfl ⟨trivial, trivial⟩ (.refl _) hasNil))
/-- courant/couranthelp.Plain[string]$1 -/
def C436 (N : Nat → Nat) : AFunc := { n := 8, params := 2, res := [.tmp 4], body :=
 (.seq (.region false [⟨(some 4), .mv (.k (.d (.bool false))), none, []⟩])
  (.seq (.region false [⟨(some 5), .mv (.t 0), none, []⟩,
    ⟨(some 6), .mv (.t 1), none, []⟩,
    ⟨(some 7), .bin .eql (.t 5) (.t 6), none, [0, 1]⟩,
    ⟨(some 4), .mv (.t 7), none, [2, 0, 1]⟩])
   .ret)) }
def HC436 (P : Program) (N : Nat → Nat) : Prop := HasF P (N 436) (C436 N)
def f436 (k : Nat) (a0 : (List UInt8)) (a1 : (List UInt8)) : Option Unit := some ()
theorem F436 {P : Program} {N : Nat → Nat} (hmix : P.follows .mixedOrders = true) (hc : HC436 P N) {k : Nat} {a0 : (List UInt8)} {a1 : (List UInt8)} {r : Unit} (h : f436 k a0 a1 = some r) :
    ACalls P (N 436) [(.d (.str a0)), (.d (.str a1))] [] (.d (.bool (decide (a0 = a1)))) [] := by
  refine acalls_canon (F := C436 N) hc 0 0 rfl ?_
  unfold f436 at h
  dsimp only [C436, startL]
  refine AWc.seq ?_
  refine AWc.rE hmix [] ?_
  refine AWc.seq ?_
  refine AWc.rE hmix [] ?_
  have hr := Option.some.inj h
  subst hr
  exact AWc.ret (canQ (N := 8) (k := 0) (l' := [(4, (.d (.bool (decide (a0 = a1)))))]) (H' := []) rfl (inT [] []) (doneA (.inr rfl) rfl ⟨trivial, trivial⟩ (.refl _) hasNil))
/-- courant/couranthelp.Same[string] -/
def C435 (N : Nat → Nat) : AFunc := { n := 30, params := 3, res := [.tmp 6], body :=
 (.seq (.region false [⟨(some 6), .mv (.k (.d (.bool false))), none, []⟩])
  (.seq (.seq (.region false [⟨(some 8), .mv (.t 0), none, []⟩,
     ⟨(some 9), .len (.t 8), none, [0]⟩,
     ⟨(some 10), .mv (.t 1), none, []⟩,
     ⟨(some 11), .len (.t 10), none, [2]⟩,
     ⟨(some 12), .bin .neq (.t 9) (.t 11), none, [1, 3]⟩])
    (.cond (.t 12) (.seq (.region false [⟨(some 6), .mv (.k (.d (.bool false))), none, []⟩])
      .ret)
     (.skip)))
   (.seq (.seq (.region false [⟨(some 7), .mv (.k (.d (.int .i64 0))), none, []⟩])
     (.block 0 (.loop (.seq (.seq (.region false [⟨(some 13), .mv (.t 7), none, []⟩,
          ⟨(some 14), .mv (.t 0), none, []⟩,
          ⟨(some 15), .len (.t 14), none, [1]⟩,
          ⟨(some 16), .bin .lss (.t 13) (.t 15), none, [0, 2]⟩])
         (.cond (.t 16) (.skip)
          (.exit 0)))
        (.seq (.block 1 (.seq (.region true [⟨(some 19), .mv (.t 2), none, []⟩,
            ⟨(some 20), .mv (.t 0), none, []⟩,
            ⟨(some 21), .mv (.t 7), none, []⟩,
            ⟨(some 22), .iaddr (.t 20) (.t 21) 1, none, [1, 2]⟩,
            ⟨(some 23), .load (.t 22) 1 false, none, [3]⟩,
            ⟨(some 24), .mv (.t 1), none, []⟩,
            ⟨(some 25), .mv (.t 7), none, []⟩,
            ⟨(some 26), .iaddr (.t 24) (.t 25) 1, none, [5, 6]⟩,
            ⟨(some 27), .load (.t 26) 1 false, none, [7]⟩,
            ⟨(some 28), .call (.t 19) [(.t 23), (.t 27)], none, [0, 4, 8]⟩,
            ⟨(some 29), .un .not (.t 28), none, [9]⟩])
           (.cond (.t 29) (.seq (.region false [⟨(some 6), .mv (.k (.d (.bool false))), none, []⟩])
             .ret)
            (.skip))))
         (.region false [⟨(some 17), .mv (.t 7), none, []⟩,
          ⟨(some 18), .bin .add (.t 17) (.k (.d (.int .i64 1))), none, [0]⟩,
          ⟨(some 7), .mv (.t 18), none, [1, 0]⟩]))))))
    (.seq (.region false [⟨(some 6), .mv (.k (.d (.bool true))), none, []⟩])
     .ret)))) }
def HC435 (P : Program) (N : Nat → Nat) : Prop := HasF P (N 435) (C435 N) ∧ HC436 P N
def f435_l26 (a0 : (List (List UInt8))) (a1 : (List (List UInt8))) : Nat → Int → Option (LR2 Unit Unit Bool)
  | 0, _ => none
  | k + 1, y26_1 => cond (decide (y26_1 < ((a0.length : Nat) : Int))) (gd (0 ≤ y26_1 ∧ y26_1 < ((a0.length : Nat) : Int)) (gd (0 ≤ y26_1 ∧ y26_1 < ((a1.length : Nat) : Int)) ((f436 k (rd a0 y26_1) (rd a1 y26_1)).bind fun r53 => cond (!(decide ((rd a0 y26_1) = (rd a1 y26_1)))) (some (.r false)) (f435_l26 a0 a1 k (IntKind.i64.wrap (y26_1 + (1 : Int))))))) (some (.b0 ()))
def f435 (k : Nat) (a0 : (List (List UInt8))) (a1 : (List (List UInt8))) : Option Bool := cond (decide (((a0.length : Nat) : Int) ≠ ((a1.length : Nat) : Int))) (some false) ((f435_l26 a0 a1 k (0 : Int)).bind fun o26 => (match o26 with | .b0 () => some true | .r x => some x | _ => none))
theorem F435 {P : Program} {N : Nat → Nat} (hmix : P.follows .mixedOrders = true) (hc : HC435 P N) {k : Nat} {a0 : (List (List UInt8))} {a1 : (List (List UInt8))} {r : Bool} (h : f435 k a0 a1 = some r) :
    ACalls P (N 435) [(.d (.sl (List.map D.str a0))), (.d (.sl (List.map D.str a1))), (.d (.fn (N 436)))] [] (.d (.bool r)) [] := by
  refine acalls_canon (F := C435 N) hc.1 0 0 rfl ?_
  unfold f435 at h
  dsimp only [C435, startL]
  refine AWc.seq ?_
  refine AWc.rE hmix [] ?_
  refine AWc.seq ?_
  refine AWc.seq ?_
  refine AWc.rE hmix [.ln D.str a0, .ln D.str a1] ?_
  rcases cc h with ⟨c14, h⟩ | ⟨c14, h⟩
  · refine AWc.cT c14 ?_
    refine AWc.seq ?_
    refine AWc.rE hmix [] ?_
    have hr := Option.some.inj h
    subst hr
    exact AWc.ret (canQ (N := 30) (k := 0) (l' := [(6, (.d (.bool false)))]) (H' := []) rfl (inT [] []) (doneA (.inr rfl) rfl ⟨trivial, trivial⟩ (.refl _) hasNil))
  · refine AWc.cF c14 ?_
    refine AWc.skip ?_
    refine AWc.seq ?_
    refine AWc.seq ?_
    refine AWc.rE hmix [] ?_
    obtain ⟨o26, h26, h⟩ := bind_some h
    refine AWc.block ?_
    refine AWc.loopK (N := 30) 0 (fun (x : Int) => [(0, (.d (.sl (List.map D.str a0)))), (1, (.d (.sl (List.map D.str a1)))), (2, (.d (.fn (N 436)))), (7, (.d (.int .i64 x)))]) (fun x => []) (fun k x => f435_l26 a0 a1 k x = some o26) k (0 : Int) rfl_le (fun x hx => by cases hx) h26 (inT [] []) ?_
    clear h26
    intro k
    intro y26_1 h26
    rw [f435_l26] at h26
    refine AWc.seq ?_
    refine AWc.seq ?_
    refine AWc.rE hmix [.ln D.str a0] ?_
    rcases cc h26 with ⟨c36, h26⟩ | ⟨c36, h26⟩
    · refine AWc.cT c36 ?_
      refine AWc.skip ?_
      refine AWc.seq ?_
      refine AWc.block ?_
      refine AWc.seq ?_
      obtain ⟨b47, h26⟩ := gd_some h26
      obtain ⟨b51, h26⟩ := gd_some h26
      obtain ⟨r53, e53, h26⟩ := bind_some h26
      refine AWc.rE hmix [.iad D.str a0 1 (fun _ => rfl) b47, .iad D.str a1 1 (fun _ => rfl) b51, .call (F436 hmix hc.2 e53) [] 0] ?_
      rcases cc h26 with ⟨c55, h26⟩ | ⟨c55, h26⟩
      · refine AWc.cT c55 ?_
        refine AWc.seq ?_
        refine AWc.rE hmix [] ?_
        cases h26
        dsimp only at h
        have hr := Option.some.inj h
        subst hr
        exact AWc.ret (canQ (N := 30) (k := 0) (l' := [(6, (.d (.bool false)))]) (H' := []) rfl (inT [] []) (doneA (.inr rfl) rfl ⟨trivial, trivial⟩ (.refl _) hasNil))
      · refine AWc.cF c55 ?_
        refine AWc.skip ?_
        refine AWc.rE hmix [] ?_
        exact ⟨(IntKind.i64.wrap (y26_1 + (1 : Int))), h26, (inT [] [])⟩
    · refine AWc.cF c36 ?_
      cases h26
      dsimp only at h
      refine AWc.exit ?_
      refine inBlk_eq ?_
      refine AWc.seq ?_
      refine AWc.rE hmix [] ?_
      have hr := Option.some.inj h
      subst hr
      exact AWc.ret (canQ (N := 30) (k := 0) (l' := [(6, (.d (.bool true)))]) (H' := []) rfl (inT [] []) (doneA (.inr rfl) rfl ⟨trivial, trivial⟩ (.refl _) hasNil))
/-- courant/couranthelp.Plain[string] -/
def C434 (N : Nat → Nat) : AFunc := { n := 8, params := 2, res := [.tmp 4], body :=
 (.seq (.region false [⟨(some 4), .mv (.k (.d (.bool false))), none, []⟩])
  (.seq (.region false [⟨(some 5), .mv (.t 0), none, []⟩,
    ⟨(some 6), .mv (.t 1), none, []⟩,
    ⟨(some 7), .call (.k (.d (.fn (N 435)))) [(.t 5), (.t 6), (.k (.d (.fn (N 436))))], none, [0, 1]⟩,
    ⟨(some 4), .mv (.t 7), none, [2, 0, 1]⟩])
   .ret)) }
def HC434 (P : Program) (N : Nat → Nat) : Prop := HasF P (N 434) (C434 N) ∧ HC435 P N
def f434 (k : Nat) (a0 : (List (List UInt8))) (a1 : (List (List UInt8))) : Option Bool := (f435 k a0 a1).bind fun r10 => some r10
theorem F434 {P : Program} {N : Nat → Nat} (hmix : P.follows .mixedOrders = true) (hc : HC434 P N) {k : Nat} {a0 : (List (List UInt8))} {a1 : (List (List UInt8))} {r : Bool} (h : f434 k a0 a1 = some r) :
    ACalls P (N 434) [(.d (.sl (List.map D.str a0))), (.d (.sl (List.map D.str a1)))] [] (.d (.bool r)) [] := by
  refine acalls_canon (F := C434 N) hc.1 0 0 rfl ?_
  unfold f434 at h
  dsimp only [C434, startL]
  refine AWc.seq ?_
  refine AWc.rE hmix [] ?_
  refine AWc.seq ?_
  obtain ⟨r10, e10, h⟩ := bind_some h
  refine AWc.rE hmix [.call (F435 hmix hc.2 e10) [] 0] ?_
  have hr := Option.some.inj h
  subst hr
  exact AWc.ret (canQ (N := 8) (k := 0) (l' := [(4, (.d (.bool r10)))]) (H' := []) rfl (inT [] []) (doneA (.inr rfl) rfl ⟨trivial, trivial⟩ (.refl _) hasNil))
/-- courant/couranthelp.Json -/
def C437 (N : Nat → Nat) : AFunc := { n := 31, params := 2, res := [.tmp 4], body :=
 (.seq (.region false [⟨(some 2), .box (.t 0), none, []⟩,
   ⟨(some 3), .box (.t 1), none, []⟩,
   ⟨(some 4), .mv (.k (.d (.bool false))), none, []⟩])
  (.seq (.region false [⟨(some 5), .faddr (.t 2) 0, none, []⟩,
    ⟨(some 6), .load (.t 5) 1 false, none, [0]⟩,
    ⟨(some 7), .faddr (.t 3) 0, none, []⟩,
    ⟨(some 8), .load (.t 7) 1 false, none, [2]⟩,
    ⟨(some 9), .bin .eql (.t 6) (.t 8), none, [1, 3]⟩,
    ⟨(some 10), .mv (.t 9), none, [4]⟩,
    ⟨(some 11), .faddr (.t 2) 1, (some (10, true)), [5]⟩,
    ⟨(some 12), .load (.t 11) 1 false, (some (10, true)), [6, 5]⟩,
    ⟨(some 13), .faddr (.t 3) 1, (some (10, true)), [5]⟩,
    ⟨(some 14), .load (.t 13) 1 false, (some (10, true)), [8, 5]⟩,
    ⟨(some 15), .bin .eql (.t 12) (.t 14), (some (10, true)), [7, 9, 5]⟩,
    ⟨(some 16), .pick (.t 10) (.t 15) (.k (.d (.bool false))), none, [5, 10]⟩,
    ⟨(some 17), .mv (.t 16), none, [11, 5]⟩,
    ⟨(some 18), .faddr (.t 2) 2, (some (17, true)), [12]⟩,
    ⟨(some 19), .load (.t 18) 1 false, (some (17, true)), [13, 12]⟩,
    ⟨(some 20), .faddr (.t 3) 2, (some (17, true)), [12]⟩,
    ⟨(some 21), .load (.t 20) 1 false, (some (17, true)), [15, 12]⟩,
    ⟨(some 22), .call (.k (.d (.fn (N 438)))) [(.t 19), (.t 21), (.k (.d (.fn (N 437))))], (some (17, true)), [14, 16, 12]⟩,
    ⟨(some 23), .pick (.t 17) (.t 22) (.k (.d (.bool false))), none, [12, 17]⟩,
    ⟨(some 24), .mv (.t 23), none, [18, 17]⟩,
    ⟨(some 25), .faddr (.t 2) 3, (some (24, true)), [19]⟩,
    ⟨(some 26), .load (.t 25) 1 false, (some (24, true)), [20, 19]⟩,
    ⟨(some 27), .faddr (.t 3) 3, (some (24, true)), [19]⟩,
    ⟨(some 28), .load (.t 27) 1 false, (some (24, true)), [22, 19]⟩,
    ⟨(some 29), .call (.k (.d (.fn (N 434)))) [(.t 26), (.t 28)], (some (24, true)), [21, 23, 19]⟩,
    ⟨(some 30), .pick (.t 24) (.t 29) (.k (.d (.bool false))), none, [19, 24]⟩,
    ⟨(some 4), .mv (.t 30), none, [25, 24, 0, 1, 2, 3, 4, 5, 6, 7, 8, 9, 10, 11, 12, 13, 14, 15, 16, 17, 18, 19, 20, 21, 22, 23]⟩])
   .ret)) }
def HC437 (P : Program) (N : Nat → Nat) : Prop := HasF P (N 437) (C437 N) ∧ HC438 P N ∧ HC434 P N
def f437_s (rc437 : TJson → TJson → Option Bool) (k : Nat) (a0 : TJson) (a1 : TJson) : Option Bool := cond (decide (a0.fKind = a1.fKind)) (cond (decide (a0.fText = a1.fText)) ((f438 rc437 k a0.fL a1.fL).bind fun r27 => cond r27 ((f434 k a0.fKeys a1.fKeys).bind fun r34 => some r34) (some false)) (some false)) (some false)
theorem F437_s {P : Program} {N : Nat → Nat} (hmix : P.follows .mixedOrders = true) (hc : HC437 P N) {rc437 : TJson → TJson → Option Bool} (hrc437 : RH437 P N rc437) {k : Nat} {a0 : TJson} {a1 : TJson} {r : Bool} (h : f437_s rc437 k a0 a1 = some r) :
    ACalls P (N 437) [(.d (TJson.enc a0)), (.d (TJson.enc a1))] [] (.d (.bool r)) [] := by
  refine acalls_canon (F := C437 N) hc.1 0 0 rfl ?_
  unfold f437_s at h
  dsimp only [C437, startL]
  refine AWc.seq ?_
  refine AWc.rE hmix [] ?_
  refine AWc.seq ?_
  rcases cc h with ⟨c15, h⟩ | ⟨c15, h⟩
  · rcases cc h with ⟨c22, h⟩ | ⟨c22, h⟩
    · obtain ⟨r27, e27, h⟩ := bind_some h
      rcases cc h with ⟨c29, h⟩ | ⟨c29, h⟩
      · obtain ⟨r34, e34, h⟩ := bind_some h
        refine AWc.rE hmix [.br c15, .br c22, .call (F438 hmix hc.2.1 hrc437 e27) [] 0, .br c29, .call (F434 hmix hc.2.2 e34) [] 0] ?_
        have hr := Option.some.inj h
        subst hr
        exact AWc.ret (canQ (N := 31) (k := 0) (l' := [(4, (.d (.bool r34)))]) (H' := []) rfl (inT [] []) (doneA (.inr rfl) rfl ⟨trivial, trivial⟩ (.refl _) hasNil))
      · refine AWc.rE hmix [.br c15, .br c22, .call (F438 hmix hc.2.1 hrc437 e27) [] 0, .br c29] ?_
        have hr := Option.some.inj h
        subst hr
        exact AWc.ret (canQ (N := 31) (k := 0) (l' := [(4, (.d (.bool false)))]) (H' := []) rfl (inT [] []) (doneA (.inr rfl) rfl ⟨trivial, trivial⟩ (.refl _) hasNil))
    · refine AWc.rE hmix [.br c15, .br c22, .br (rfl : false = false)] ?_
      have hr := Option.some.inj h
      subst hr
      exact AWc.ret (canQ (N := 31) (k := 0) (l' := [(4, (.d (.bool false)))]) (H' := []) rfl (inT [] []) (doneA (.inr rfl) rfl ⟨trivial, trivial⟩ (.refl _) hasNil))
  · refine AWc.rE hmix [.br c15, .br (rfl : false = false), .br (rfl : false = false)] ?_
    have hr := Option.some.inj h
    subst hr
    exact AWc.ret (canQ (N := 31) (k := 0) (l' := [(4, (.d (.bool false)))]) (H' := []) rfl (inT [] []) (doneA (.inr rfl) rfl ⟨trivial, trivial⟩ (.refl _) hasNil))
def f437 : Nat → TJson → TJson → Option Bool
  | 0, _, _ => none
  | k + 1, a0, a1 => f437_s (f437 k) k a0 a1
theorem F437 {P : Program} {N : Nat → Nat} (hmix : P.follows .mixedOrders = true) (hc : HC437 P N) {k : Nat} {a0 : TJson} {a1 : TJson} {r : Bool} (h : f437 k a0 a1 = some r) :
    ACalls P (N 437) [(.d (TJson.enc a0)), (.d (TJson.enc a1))] [] (.d (.bool r)) [] := by
  induction k generalizing a0 a1 r with
  | zero => exact absurd (show (none : Option _) = some r from h) (fun h2 => by cases h2)
  | succ k ih => exact F437_s hmix hc (fun _ _ _ h => ih h) h
/-- courant/courantlaw02.JsonStrings -/
def C411 (N : Nat → Nat) : AFunc := { n := 90, params := 1, res := [.tmp 2], body :=
 (.seq (.region false [⟨(some 2), .mv (.k (.d (.bool false))), none, []⟩])
  (.seq (.seq (.region false [⟨(some 12), .mv (.t 0), none, []⟩,
     ⟨(some 13), .slen (.t 12), none, [0]⟩,
     ⟨(some 14), .bin .gtr (.t 13) (.k (.d (.int .i64 500))), none, [1]⟩,
     ⟨(some 15), .mv (.t 14), none, [2]⟩,
     ⟨(some 16), .mv (.t 0), (some (15, false)), [3]⟩,
     ⟨(some 17), .call (.k (.d (.fn (N 351)))) [(.t 16)], (some (15, false)), [4, 3]⟩,
     ⟨(some 18), .un .not (.t 17), (some (15, false)), [5, 3]⟩,
     ⟨(some 19), .pick (.t 15) (.k (.d (.bool true))) (.t 18), none, [3, 6]⟩])
    (.cond (.t 19) (.seq (.region false [⟨(some 20), .call (.k (.d (.fn (N 395)))) [], none, []⟩,
       ⟨(some 2), .mv (.t 20), none, [0]⟩])
      .ret)
     (.skip)))
   (.seq (.region false [⟨(some 22), .mv (.t 0), none, []⟩,
     ⟨(some 23), .call (.k (.d (.fn (N 356)))) [(.t 22)], none, [0]⟩,
     ⟨(some 24), .call (.k (.d (.fn (N 396)))) [(.t 23)], none, [1]⟩,
     ⟨(some 21), .mv (.t 24), none, [2]⟩,
     ⟨(some 25), .ext (.t 21) 0, none, [3]⟩,
     ⟨(some 26), .ext (.t 21) 1, none, [3]⟩,
     ⟨(some 3), .alloc [(.int .i64 0), (.str []), (.sl []), (.sl [])], none, []⟩,
     ⟨none, .store (.t 3) (.t 25) 4, none, [6, 4, 2, 0, 1, 3]⟩,
     ⟨(some 4), .mv (.t 26), none, [5, 7, 0, 1, 2, 3, 4, 6]⟩])
    (.seq (.region false [⟨(some 5), .alloc [(.str [])], none, []⟩,
      ⟨none, .store (.t 5) (.k (.d (.str [34]))) 1, none, [0]⟩])
     (.seq (.region false [⟨(some 27), .mkfn (N 446) [(.t 5)], none, []⟩,
       ⟨(some 6), .mv (.t 27), none, [0]⟩])
      (.seq (.seq (.region false [⟨(some 28), .mv (.t 0), none, []⟩,
         ⟨(some 29), .s2rs (.t 28), none, [0]⟩,
         ⟨(some 30), .len (.t 29), none, [1]⟩,
         ⟨(some 31), .mv (.k (.d (.int .i64 0))), none, []⟩])
        (.block 0 (.loop (.seq (.region false [⟨(some 32), .bin .lss (.t 31) (.t 30), none, []⟩])
           (.seq (.cond (.t 32) (.skip)
             (.exit 0))
            (.seq (.block 1 (.seq (.region false [⟨(some 33), .iaddr (.t 29) (.t 31) 1, none, []⟩,
                ⟨(some 34), .load (.t 33) 1 false, none, [0]⟩,
                ⟨(some 8), .mv (.t 34), none, [1, 0]⟩])
               (.seq (.region false [⟨(some 35), .mv (.t 8), none, []⟩,
                 ⟨(some 36), .bin .geq (.t 35) (.k (.d (.int .i32 65536))), none, [0]⟩])
                (.cond (.t 36) (.seq (.region false [⟨(some 37), .mv (.t 6), none, []⟩,
                   ⟨(some 38), .mv (.t 8), none, []⟩,
                   ⟨(some 39), .bin .sub (.t 38) (.k (.d (.int .i32 65536))), none, [1]⟩,
                   ⟨(some 40), .cvi .i64 (.t 39), none, [2]⟩,
                   ⟨(some 41), .bin .shr (.t 40) (.k (.d (.int .u64 10))), none, [3]⟩,
                   ⟨(some 42), .bin .add (.k (.d (.int .i64 55296))) (.t 41), none, [4]⟩,
                   ⟨(some 43), .call (.t 37) [(.t 42)], none, [0, 5]⟩])
                  (.region false [⟨(some 44), .mv (.t 6), none, []⟩,
                   ⟨(some 45), .mv (.t 8), none, []⟩,
                   ⟨(some 46), .bin .sub (.t 45) (.k (.d (.int .i32 65536))), none, [1]⟩,
                   ⟨(some 47), .cvi .i64 (.t 46), none, [2]⟩,
                   ⟨(some 48), .bin .and (.t 47) (.k (.d (.int .i64 1023))), none, [3]⟩,
                   ⟨(some 49), .bin .add (.k (.d (.int .i64 56320))) (.t 48), none, [4]⟩,
                   ⟨(some 50), .call (.t 44) [(.t 49)], none, [0, 5]⟩]))
                 (.region false [⟨(some 51), .mv (.t 6), none, []⟩,
                  ⟨(some 52), .mv (.t 8), none, []⟩,
                  ⟨(some 53), .cvi .i64 (.t 52), none, [1]⟩,
                  ⟨(some 54), .call (.t 51) [(.t 53)], none, [0, 2]⟩])))))
             (.region false [⟨(some 55), .bin .add (.t 31) (.k (.d (.int .i64 1))), none, []⟩,
              ⟨(some 31), .mv (.t 55), none, [0]⟩])))))))
       (.seq (.region false [⟨(some 57), .load (.t 5) 1 false, none, []⟩,
         ⟨(some 58), .bin .add (.t 57) (.k (.d (.str [34]))), none, [0]⟩,
         ⟨(some 59), .call (.k (.d (.fn (N 396)))) [(.t 58)], none, [1]⟩,
         ⟨(some 56), .mv (.t 59), none, [2]⟩,
         ⟨(some 60), .ext (.t 56) 0, none, [3]⟩,
         ⟨(some 61), .ext (.t 56) 1, none, [3]⟩,
         ⟨(some 9), .alloc [(.int .i64 0), (.str []), (.sl []), (.sl [])], none, []⟩,
         ⟨none, .store (.t 9) (.t 60) 4, none, [6, 4, 2, 0, 1, 3]⟩,
         ⟨(some 10), .mv (.t 61), none, [5, 7, 0, 1, 2, 3, 4, 6]⟩])
        (.seq (.region false [⟨(some 62), .mv (.t 0), none, []⟩,
          ⟨(some 63), .build [(.int .i64 0), (.str []), (.sl []), (.sl [])] [(0, 1, (.k (.d (.int .i64 5)))), (1, 1, (.t 62))], none, [0]⟩,
          ⟨(some 11), .alloc [(.int .i64 0), (.str []), (.sl []), (.sl [])], none, []⟩,
          ⟨none, .store (.t 11) (.t 63) 4, none, [2, 1, 0]⟩])
         (.seq (.region false [⟨(some 64), .call (.k (.d (.fn (N 395)))) [], none, []⟩,
           ⟨(some 65), .mv (.t 64), none, [0]⟩,
           ⟨(some 66), .mv (.t 4), (some (65, true)), [1]⟩,
           ⟨(some 67), .bin .eql (.t 66) (.k (.d (.int .i64 0))), (some (65, true)), [2, 1]⟩,
           ⟨(some 68), .pick (.t 65) (.t 67) (.k (.d (.bool false))), none, [1, 3]⟩,
           ⟨(some 69), .mv (.t 68), none, [4, 1]⟩,
           ⟨(some 70), .mv (.t 10), (some (69, true)), [5]⟩,
           ⟨(some 71), .bin .eql (.t 70) (.k (.d (.int .i64 0))), (some (69, true)), [6, 5]⟩,
           ⟨(some 72), .pick (.t 69) (.t 71) (.k (.d (.bool false))), none, [5, 7]⟩,
           ⟨(some 73), .mv (.t 72), none, [8, 5]⟩,
           ⟨(some 74), .load (.t 3) 4 true, (some (73, true)), [9]⟩,
           ⟨(some 75), .load (.t 11) 4 true, (some (73, true)), [9]⟩,
           ⟨(some 76), .call (.k (.d (.fn (N 437)))) [(.t 74), (.t 75)], (some (73, true)), [10, 11, 9]⟩,
           ⟨(some 77), .pick (.t 73) (.t 76) (.k (.d (.bool false))), none, [9, 12]⟩,
           ⟨(some 78), .mv (.t 77), none, [13, 12]⟩,
           ⟨(some 79), .load (.t 9) 4 true, (some (78, true)), [14]⟩,
           ⟨(some 80), .load (.t 11) 4 true, (some (78, true)), [14]⟩,
           ⟨(some 81), .call (.k (.d (.fn (N 437)))) [(.t 79), (.t 80)], (some (78, true)), [15, 16, 14]⟩,
           ⟨(some 82), .pick (.t 78) (.t 81) (.k (.d (.bool false))), none, [14, 17]⟩,
           ⟨(some 83), .mv (.t 82), none, [18, 17]⟩,
           ⟨(some 84), .load (.t 11) 4 true, (some (83, true)), [19]⟩,
           ⟨(some 85), .call (.k (.d (.fn (N 421)))) [(.t 84)], (some (83, true)), [20, 19]⟩,
           ⟨(some 86), .mv (.t 0), (some (83, true)), [19]⟩,
           ⟨(some 87), .call (.k (.d (.fn (N 356)))) [(.t 86)], (some (83, true)), [22, 21, 19]⟩,
           ⟨(some 88), .bin .eql (.t 85) (.t 87), (some (83, true)), [21, 23, 19]⟩,
           ⟨(some 89), .pick (.t 83) (.t 88) (.k (.d (.bool false))), none, [19, 24]⟩,
           ⟨(some 2), .mv (.t 89), none, [25, 23, 0, 1, 2, 3, 4, 5, 6, 7, 8, 9, 10, 11, 12, 13, 14, 15, 16, 17, 18, 19, 20, 21, 22, 24]⟩])
          .ret))))))))) }
def HC411 (P : Program) (N : Nat → Nat) : Prop := HasF P (N 411) (C411 N) ∧ HC395 P N ∧ HC351 P N ∧ HC356 P N ∧ HC396 P N ∧ HC446 P N ∧ HC437 P N ∧ HC421 P N
def f411_j108 (k : Nat) (r30 : (Int × Int × (List UInt8) × (List (RT 4)) × (List (List UInt8)))) (a0 : (List UInt8)) (j108_1 : (List UInt8)) : Option Bool := gd (j108_1.length + ([34] : List UInt8).length ≤ 9223372036854775807) ((f396 k (j108_1 ++ ([34] : List UInt8))).bind fun r113 => (f395 k).bind fun r130 => cond r130 (cond (decide (r30.1 = (0 : Int))) (cond (decide (r113.1 = (0 : Int))) ((f437 k (TJson.mk r30.2.1 r30.2.2.1 r30.2.2.2.1 r30.2.2.2.2) (TJson.mk (5 : Int) a0 ([] : List (RT 4)) ([] : List (List UInt8)))).bind fun r142 => cond r142 ((f437 k (TJson.mk r113.2.1 r113.2.2.1 r113.2.2.2.1 r113.2.2.2.2) (TJson.mk (5 : Int) a0 ([] : List (RT 4)) ([] : List (List UInt8)))).bind fun r147 => cond r147 ((f421 k (TJson.mk (5 : Int) a0 ([] : List (RT 4)) ([] : List (List UInt8)))).bind fun r151 => (f356 k a0).bind fun r153 => some (decide (r151 = r153))) (some false)) (some false)) (some false)) (some false)) (some false))
def f411_l55 (a0 : (List UInt8)) : Nat → Int → (List UInt8) → Option (LR2 (List UInt8) Unit Bool)
  | 0, _, _ => none
  | k + 1, y55_1, y55_2 => cond (decide (y55_1 < (((runL a0).length : Nat) : Int))) (gd (0 ≤ y55_1 ∧ y55_1 < (((runL a0).length : Nat) : Int)) (cond (decide ((rd (runL a0) y55_1) ≥ (65536 : Int))) ((f446 k (IntKind.i64.wrap ((55296 : Int) + (Int.fdiv (IntKind.i64.wrap (IntKind.i32.wrap ((rd (runL a0) y55_1) - (65536 : Int)))) (2 ^ (min ((10 : Int)).toNat IntKind.i64.bits))))) y55_2).bind fun r88 => (f446 k (IntKind.i64.wrap ((56320 : Int) + (bitsA .and .i64 (IntKind.i64.wrap (IntKind.i32.wrap ((rd (runL a0) y55_1) - (65536 : Int)))) (1023 : Int)))) r88).bind fun r97 => f411_l55 a0 k (IntKind.i64.wrap (y55_1 + (1 : Int))) r97) ((f446 k (IntKind.i64.wrap (rd (runL a0) y55_1)) y55_2).bind fun r103 => f411_l55 a0 k (IntKind.i64.wrap (y55_1 + (1 : Int))) r103))) (some (.b0 y55_2))
def f411 (k : Nat) (a0 : (List UInt8)) : Option Bool := cond (decide (((a0.length : Nat) : Int) > (500 : Int))) ((f395 k).bind fun r21 => some r21) ((f351 k a0).bind fun r14 => cond (!r14) ((f395 k).bind fun r21 => some r21) ((f356 k a0).bind fun r29 => (f396 k r29).bind fun r30 => gd (a0.length ≤ 70368744177664) ((f411_l55 a0 k (0 : Int) ([34] : List UInt8)).bind fun o55 => (match o55 with | .b0 x55_1 => f411_j108 k r30 a0 x55_1 | _ => none))))
theorem F411 {P : Program} {N : Nat → Nat} (hmix : P.follows .mixedOrders = true) (hc : HC411 P N) {k : Nat} {a0 : (List UInt8)} {r : Bool} (h : f411 k a0 = some r) :
    ACalls P (N 411) [(.d (.str a0))] [] (.d (.bool r)) [] := by
  refine acalls_canon (F := C411 N) hc.1 0 0 rfl ?_
  unfold f411 at h
  dsimp only [C411, startL]
  refine AWc.seq ?_
  refine AWc.rE hmix [] ?_
  refine AWc.seq ?_
  refine AWc.seq ?_
  rcases cc h with ⟨c12, h⟩ | ⟨c12, h⟩
  · refine AWc.rE hmix [.br c12] ?_
    refine AWc.cT rfl ?_
    refine AWc.seq ?_
    obtain ⟨r21, e21, h⟩ := bind_some h
    refine AWc.rE hmix [.call (F395 hmix hc.2.1 e21) [] 0] ?_
    have hr := Option.some.inj h
    subst hr
    exact AWc.ret (canQ (N := 90) (k := 0) (l' := [(2, (.d (.bool r21)))]) (H' := []) rfl (inT [] []) (doneA (.inr rfl) rfl ⟨trivial, trivial⟩ (.refl _) hasNil))
  · obtain ⟨r14, e14, h⟩ := bind_some h
    refine AWc.rE hmix [.br c12, .call (F351 hmix hc.2.2.1 e14) [] 0] ?_
    rcases cc h with ⟨c17, h⟩ | ⟨c17, h⟩
    · refine AWc.cT c17 ?_
      refine AWc.seq ?_
      obtain ⟨r21, e21, h⟩ := bind_some h
      refine AWc.rE hmix [.call (F395 hmix hc.2.1 e21) [] 0] ?_
      have hr := Option.some.inj h
      subst hr
      exact AWc.ret (canQ (N := 90) (k := 0) (l' := [(2, (.d (.bool r21)))]) (H' := []) rfl (inT [] []) (doneA (.inr rfl) rfl ⟨trivial, trivial⟩ (.refl _) hasNil))
    · refine AWc.cF c17 ?_
      refine AWc.skip ?_
      refine AWc.seq ?_
      obtain ⟨r29, e29, h⟩ := bind_some h
      obtain ⟨r30, e30, h⟩ := bind_some h
      refine AWc.rE hmix [.call (F356 hmix hc.2.2.2.1 e29) [] 0, .call (F396 hmix hc.2.2.2.2.1 e30) [] 0] ?_
      refine AWc.seq ?_
      refine AWc.rE hmix [] ?_
      refine AWc.seq ?_
      refine AWc.rE hmix [] ?_
      refine AWc.seqS (N := 90) 2 (fun (z : (List UInt8)) => [(0, (.d (.str a0))), (3, (.ptr 0 0)), (4, (.d (.int .i64 r30.1))), (5, (.ptr 1 0))]) (fun z => [(0, (.cells [(.d (.int .i64 r30.2.1)), (.d (.str r30.2.2.1)), (.d (.sl (List.map (rtE (z := 4)) r30.2.2.2.1))), (.d (.sl (List.map D.str r30.2.2.2.2)))])), (1, (.cells [(.d (.str z))]))]) (fun z => f411_j108 k r30 a0 z = some r) rfl_le ?_ ?_
      · refine AWc.seq ?_
        obtain ⟨b52, h⟩ := gd_some h
        refine AWc.rE hmix [.sd b52, .ln (D.int .i32) (runL a0)] ?_
        obtain ⟨o55, h55, h⟩ := bind_some h
        refine AWc.block ?_
        refine AWc.loopK (N := 90) 2 (fun (x : (Int × (List UInt8))) => [(0, (.d (.str a0))), (3, (.ptr 0 0)), (4, (.d (.int .i64 r30.1))), (5, (.ptr 1 0)), (6, (.fn (N 446) [(.ptr 1 0)])), (29, (.d (.sl (List.map (D.int .i32) (runL a0))))), (30, (.d (.int .i64 (((runL a0).length : Nat) : Int)))), (31, (.d (.int .i64 x.1)))]) (fun x => [(0, (.cells [(.d (.int .i64 r30.2.1)), (.d (.str r30.2.2.1)), (.d (.sl (List.map (rtE (z := 4)) r30.2.2.2.1))), (.d (.sl (List.map D.str r30.2.2.2.2)))])), (1, (.cells [(.d (.str x.2))]))]) (fun k x => f411_l55 a0 k x.1 x.2 = some o55) k ((0 : Int), ([34] : List UInt8)) rfl_le (fun x hx => by cases hx) h55 (inT [] []) ?_
        clear h55
        intro k
        rintro ⟨y55_1, y55_2⟩ h55
        dsimp only at h55 ⊢
        rw [f411_l55] at h55
        refine AWc.seq ?_
        refine AWc.rE hmix [] ?_
        refine AWc.seq ?_
        rcases cc h55 with ⟨c62, h55⟩ | ⟨c62, h55⟩
        · refine AWc.cT c62 ?_
          refine AWc.skip ?_
          refine AWc.seq ?_
          refine AWc.block ?_
          refine AWc.seq ?_
          obtain ⟨b70, h55⟩ := gd_some h55
          refine AWc.rE hmix [.iad (D.int .i32) (runL a0) 1 (fun _ => rfl) b70] ?_
          refine AWc.seq ?_
          refine AWc.rE hmix [] ?_
          rcases cc h55 with ⟨c78, h55⟩ | ⟨c78, h55⟩
          · refine AWc.cT c78 ?_
            refine AWc.seq ?_
            obtain ⟨r88, e88, h55⟩ := bind_some h55
            refine AWc.rE hmix [.sd (p := 0 ≤ (10 : Int)) (by decide), .call (F446 hmix hc.2.2.2.2.2.1 e88) [(0, 1)] 1] ?_
            obtain ⟨r97, e97, h55⟩ := bind_some h55
            refine AWc.rE hmix [.call (F446 hmix hc.2.2.2.2.2.1 e97) [(0, 1)] 1] ?_
            refine AWc.rE hmix [] ?_
            exact ⟨((IntKind.i64.wrap (y55_1 + (1 : Int))), r97), h55, (inT [] [])⟩
          · refine AWc.cF c78 ?_
            obtain ⟨r103, e103, h55⟩ := bind_some h55
            refine AWc.rE hmix [.call (F446 hmix hc.2.2.2.2.2.1 e103) [(0, 1)] 1] ?_
            refine AWc.rE hmix [] ?_
            exact ⟨((IntKind.i64.wrap (y55_1 + (1 : Int))), r103), h55, (inT [] [])⟩
        · refine AWc.cF c62 ?_
          cases h55
          dsimp only at h
          refine AWc.exit ?_
          refine inBlk_eq ?_
          exact ⟨y55_2, h, (inT [] [])⟩
      · intro j108_1 h
        unfold f411_j108 at h
        refine AWc.seq ?_
        obtain ⟨b112, h⟩ := gd_some h
        obtain ⟨r113, e113, h⟩ := bind_some h
        refine AWc.rE hmix [.sd b112, .call (F396 hmix hc.2.2.2.2.1 e113) [] 0] ?_
        refine AWc.seq ?_
        refine AWc.rE hmix [] ?_
        refine AWc.seq ?_
        obtain ⟨r130, e130, h⟩ := bind_some h
        rcases cc h with ⟨c131, h⟩ | ⟨c131, h⟩
        · rcases cc h with ⟨c135, h⟩ | ⟨c135, h⟩
          · rcases cc h with ⟨c139, h⟩ | ⟨c139, h⟩
            · obtain ⟨r142, e142, h⟩ := bind_some h
              rcases cc h with ⟨c144, h⟩ | ⟨c144, h⟩
              · obtain ⟨r147, e147, h⟩ := bind_some h
                rcases cc h with ⟨c149, h⟩ | ⟨c149, h⟩
                · obtain ⟨r151, e151, h⟩ := bind_some h
                  obtain ⟨r153, e153, h⟩ := bind_some h
                  refine AWc.rE hmix [.call (F395 hmix hc.2.1 e130) [] 0, .br c131, .br c135, .br c139, .call (F437 hmix hc.2.2.2.2.2.2.1 e142) [] 0, .br c144, .call (F437 hmix hc.2.2.2.2.2.2.1 e147) [] 0, .br c149, .call (F421 hmix hc.2.2.2.2.2.2.2 e151) [] 0, .call (F356 hmix hc.2.2.2.1 e153) [] 0] ?_
                  have hr := Option.some.inj h
                  subst hr
                  exact AWc.ret (canQ (N := 90) (k := 0) (l' := [(2, (.d (.bool (decide (r151 = r153)))))]) (H' := []) rfl (inT [] []) (doneA (.inr rfl) rfl ⟨trivial, trivial⟩ (.refl _) hasNil))
                · refine AWc.rE hmix [.call (F395 hmix hc.2.1 e130) [] 0, .br c131, .br c135, .br c139, .call (F437 hmix hc.2.2.2.2.2.2.1 e142) [] 0, .br c144, .call (F437 hmix hc.2.2.2.2.2.2.1 e147) [] 0, .br c149] ?_
                  have hr := Option.some.inj h
                  subst hr
                  exact AWc.ret (canQ (N := 90) (k := 0) (l' := [(2, (.d (.bool false)))]) (H' := []) rfl (inT [] []) (doneA (.inr rfl) rfl ⟨trivial, trivial⟩ (.refl _) hasNil))
              · refine AWc.rE hmix [.call (F395 hmix hc.2.1 e130) [] 0, .br c131, .br c135, .br c139, .call (F437 hmix hc.2.2.2.2.2.2.1 e142) [] 0, .br c144, .br (rfl : false = false)] ?_
                have hr := Option.some.inj h
                subst hr
                exact AWc.ret (canQ (N := 90) (k := 0) (l' := [(2, (.d (.bool false)))]) (H' := []) rfl (inT [] []) (doneA (.inr rfl) rfl ⟨trivial, trivial⟩ (.refl _) hasNil))
            · refine AWc.rE hmix [.call (F395 hmix hc.2.1 e130) [] 0, .br c131, .br c135, .br c139, .br (rfl : false = false), .br (rfl : false = false)] ?_
              have hr := Option.some.inj h
              subst hr
              exact AWc.ret (canQ (N := 90) (k := 0) (l' := [(2, (.d (.bool false)))]) (H' := []) rfl (inT [] []) (doneA (.inr rfl) rfl ⟨trivial, trivial⟩ (.refl _) hasNil))
          · refine AWc.rE hmix [.call (F395 hmix hc.2.1 e130) [] 0, .br c131, .br c135, .br (rfl : false = false), .br (rfl : false = false), .br (rfl : false = false)] ?_
            have hr := Option.some.inj h
            subst hr
            exact AWc.ret (canQ (N := 90) (k := 0) (l' := [(2, (.d (.bool false)))]) (H' := []) rfl (inT [] []) (doneA (.inr rfl) rfl ⟨trivial, trivial⟩ (.refl _) hasNil))
        · refine AWc.rE hmix [.call (F395 hmix hc.2.1 e130) [] 0, .br c131, .br (rfl : false = false), .br (rfl : false = false), .br (rfl : false = false), .br (rfl : false = false)] ?_
          have hr := Option.some.inj h
          subst hr
          exact AWc.ret (canQ (N := 90) (k := 0) (l' := [(2, (.d (.bool false)))]) (H' := []) rfl (inT [] []) (doneA (.inr rfl) rfl ⟨trivial, trivial⟩ (.refl _) hasNil))
end Go.Proofs.Abs
