/- Written by gen.py: functions of the program as Lean functions, and that the code comes to them. -/
import Derived.Test.YtnhjiioiejpbgaaDoorGJp
set_option linter.unusedVariables false
set_option linter.unusedSimpArgs false
set_option maxRecDepth 100000
set_option maxHeartbeats 4000000
namespace Go.Proofs.Abs
open Go
def L425_0a (N : Nat → Nat) : ACode :=
 (.seq (.region false [⟨(some 6), .mv (.t 55), none, []⟩])
  (.region false [⟨(some 7), .mv (.t 56), none, []⟩]))
def L425_0b (N : Nat → Nat) : ACode :=
 (.block 2 (.seq (.seq (.region false [⟨(some 58), .load (.t 5) 1 false, none, []⟩,
     ⟨(some 59), .mv (.t 7), none, []⟩,
     ⟨(some 60), .bad, none, [0, 1]⟩,
     ⟨(some 57), .mv (.t 60), none, [2]⟩,
     ⟨(some 61), .ext (.t 57) 0, none, [3]⟩,
     ⟨(some 62), .ext (.t 57) 1, none, [3]⟩,
     ⟨(some 8), .mv (.t 61), none, [4, 0, 1, 2, 3]⟩,
     ⟨(some 9), .mv (.t 62), none, [5, 6, 0, 1, 2, 3, 4]⟩])
    (.seq (.region false [⟨(some 63), .mv (.t 9), none, []⟩,
      ⟨(some 64), .mv (.t 63), none, [0]⟩,
      ⟨(some 65), .mv (.t 7), (some (64, false)), [1]⟩,
      ⟨(some 66), .call (.k (.d (.fn (N 351)))) [(.t 65)], (some (64, false)), [2, 1]⟩,
      ⟨(some 67), .un .not (.t 66), (some (64, false)), [3, 1]⟩,
      ⟨(some 68), .pick (.t 64) (.k (.d (.bool true))) (.t 67), none, [1, 4]⟩])
     (.cond (.t 68) (.seq (.region false [⟨none, .store (.t 4) (.k (.d (.bool false))) 1, none, []⟩])
       .ret)
      (.skip))))
   (.region false [⟨(some 69), .load (.t 5) 1 false, none, []⟩,
    ⟨(some 70), .mv (.t 7), none, []⟩,
    ⟨(some 71), .mv (.t 6), none, []⟩,
    ⟨none, .bad, none, [0, 1, 2]⟩])))
/-- courant/json.right -/
def C425 (N : Nat → Nat) : AFunc := { n := 86, params := 2, res := [.cell 4 1 false], body :=
 (.seq (.region false [⟨(some 2), .box (.t 0), none, []⟩,
   ⟨(some 3), .box (.t 1), none, []⟩,
   ⟨(some 4), .alloc [(.bool false)], none, []⟩])
  (.seq (.seq (.region false [⟨(some 10), .faddr (.t 2) 0, none, []⟩,
     ⟨(some 11), .load (.t 10) 1 false, none, [0]⟩])
    (.block 0 (.seq (.seq (.region false [⟨(some 13), .bin .eql (.t 11) (.k (.d (.int .i64 1))), none, []⟩,
        ⟨(some 12), .mv (.t 13), none, [0]⟩])
       (.cond (.t 12) (.skip)
        (.seq (.region false [⟨(some 14), .bin .eql (.t 11) (.k (.d (.int .i64 2))), none, []⟩,
          ⟨(some 12), .mv (.t 14), none, [0]⟩])
         (.cond (.t 12) (.skip)
          (.region false [⟨(some 15), .bin .eql (.t 11) (.k (.d (.int .i64 3))), none, []⟩,
           ⟨(some 12), .mv (.t 15), none, [0]⟩])))))
      (.cond (.t 12) (.seq (.region false [⟨(some 16), .load (.t 2) 4 true, none, []⟩,
         ⟨(some 17), .call (.k (.d (.fn (N 426)))) [(.t 16), (.k (.d (.bool false)))], none, [0]⟩,
         ⟨none, .store (.t 4) (.t 17) 1, none, [1, 0]⟩])
        .ret)
       (.seq (.region false [⟨(some 19), .bin .eql (.t 11) (.k (.d (.int .i64 4))), none, []⟩,
         ⟨(some 18), .mv (.t 19), none, [0]⟩])
        (.cond (.t 18) (.seq (.region false [⟨(some 20), .load (.t 2) 4 true, none, []⟩,
           ⟨(some 21), .call (.k (.d (.fn (N 426)))) [(.t 20), (.k (.d (.bool true)))], none, [0]⟩,
           ⟨(some 22), .mv (.t 21), none, [1]⟩,
           ⟨(some 23), .faddr (.t 2) 1, (some (22, true)), [2]⟩,
           ⟨(some 24), .load (.t 23) 1 false, (some (22, true)), [3, 2]⟩,
           ⟨(some 25), .call (.k (.d (.fn (N 406)))) [(.t 24)], (some (22, true)), [4, 2]⟩,
           ⟨(some 26), .pick (.t 22) (.t 25) (.k (.d (.bool false))), none, [2, 5]⟩,
           ⟨none, .store (.t 4) (.t 26) 1, none, [6, 5, 0, 1, 2, 3, 4]⟩])
          .ret)
         (.seq (.region false [⟨(some 28), .bin .eql (.t 11) (.k (.d (.int .i64 5))), none, []⟩,
           ⟨(some 27), .mv (.t 28), none, [0]⟩])
          (.cond (.t 27) (.seq (.region false [⟨(some 29), .load (.t 2) 4 true, none, []⟩,
             ⟨(some 30), .call (.k (.d (.fn (N 426)))) [(.t 29), (.k (.d (.bool true)))], none, [0]⟩,
             ⟨(some 31), .mv (.t 30), none, [1]⟩,
             ⟨(some 32), .faddr (.t 2) 1, (some (31, true)), [2]⟩,
             ⟨(some 33), .load (.t 32) 1 false, (some (31, true)), [3, 2]⟩,
             ⟨(some 34), .call (.k (.d (.fn (N 351)))) [(.t 33)], (some (31, true)), [4, 2]⟩,
             ⟨(some 35), .pick (.t 31) (.t 34) (.k (.d (.bool false))), none, [2, 5]⟩,
             ⟨none, .store (.t 4) (.t 35) 1, none, [6, 5, 0, 1, 2, 3, 4]⟩])
            .ret)
           (.seq (.region false [⟨(some 37), .bin .eql (.t 11) (.k (.d (.int .i64 6))), none, []⟩,
             ⟨(some 36), .mv (.t 37), none, [0]⟩])
            (.cond (.t 36) (.seq (.region false [⟨(some 38), .faddr (.t 2) 3, none, []⟩,
               ⟨(some 39), .load (.t 38) 1 false, none, [0]⟩,
               ⟨(some 40), .len (.t 39), none, [1]⟩,
               ⟨(some 41), .bin .gtr (.t 40) (.k (.d (.int .i64 0))), none, [2]⟩])
              (.cond (.t 41) (.seq (.region false [⟨none, .store (.t 4) (.k (.d (.bool false))) 1, none, []⟩])
                .ret)
               (.skip)))
             (.seq (.region false [⟨(some 43), .bin .eql (.t 11) (.k (.d (.int .i64 7))), none, []⟩,
               ⟨(some 42), .mv (.t 43), none, [0]⟩])
              (.cond (.t 42) (.seq (.seq (.region false [⟨(some 44), .faddr (.t 2) 3, none, []⟩,
                  ⟨(some 45), .load (.t 44) 1 false, none, [0]⟩,
                  ⟨(some 46), .len (.t 45), none, [1]⟩,
                  ⟨(some 47), .faddr (.t 2) 2, none, []⟩,
                  ⟨(some 48), .load (.t 47) 1 false, none, [3]⟩,
                  ⟨(some 49), .len (.t 48), none, [4]⟩,
                  ⟨(some 50), .bin .neq (.t 46) (.t 49), none, [2, 5]⟩])
                 (.cond (.t 50) (.seq (.region false [⟨none, .store (.t 4) (.k (.d (.bool false))) 1, none, []⟩])
                   .ret)
                  (.skip)))
                (.seq (.region false [⟨(some 51), .bad, none, []⟩,
                  ⟨(some 5), .alloc [.nilm], none, []⟩,
                  ⟨none, .store (.t 5) (.t 51) 1, none, [1, 0]⟩])
                 (.seq (.region false [⟨(some 52), .faddr (.t 2) 3, none, []⟩,
                   ⟨(some 53), .load (.t 52) 1 false, none, [0]⟩,
                   ⟨(some 54), .call (.k (.d (.fn (N 427)))) [(.t 53)], none, [1]⟩])
                  (.block 1 (.rangeFunc (.t 54) [55, 56] (L425_0a N) (L425_0b N))))))
               (.seq (.region false [⟨none, .store (.t 4) (.k (.d (.bool false))) 1, none, []⟩])
                .ret)))))))))))))
   (.seq (.region false [⟨(some 72), .faddr (.t 2) 1, none, []⟩,
     ⟨(some 73), .load (.t 72) 1 false, none, [0]⟩,
     ⟨(some 74), .bin .eql (.t 73) (.k (.d (.str []))), none, [1]⟩,
     ⟨(some 75), .mv (.t 74), none, [2]⟩,
     ⟨(some 76), .load (.t 3) 1 false, (some (75, true)), [3]⟩,
     ⟨(some 77), .bin .lss (.t 76) (.k (.d (.int .i64 64))), (some (75, true)), [4, 3]⟩,
     ⟨(some 78), .pick (.t 75) (.t 77) (.k (.d (.bool false))), none, [3, 5]⟩,
     ⟨(some 79), .mv (.t 78), none, [6, 3]⟩,
     ⟨(some 80), .faddr (.t 2) 2, (some (79, true)), [7]⟩,
     ⟨(some 81), .load (.t 80) 1 false, (some (79, true)), [8, 7]⟩,
     ⟨(some 82), .mkfn (N 428) [(.t 3)], (some (79, true)), [7]⟩,
     ⟨(some 83), .call (.k (.d (.fn (N 429)))) [(.t 81), (.t 82)], (some (79, true)), [9, 10, 7]⟩,
     ⟨(some 84), .un .not (.t 83), (some (79, true)), [11, 7]⟩,
     ⟨(some 85), .pick (.t 79) (.t 84) (.k (.d (.bool false))), none, [7, 12]⟩,
     ⟨none, .store (.t 4) (.t 85) 1, none, [13, 11, 0, 1, 2, 3, 4, 5, 6, 7, 8, 9, 10, 12]⟩])
    .ret))) }
def HC425 (P : Program) (N : Nat → Nat) : Prop := HasF P (N 425) (C425 N) ∧ HC426 P N ∧ HC406 P N ∧ HC351 P N ∧ HC429 P N
def f425_j33 (k : Nat) (a0 : TJson) (a1 : Int) (rc425 : TJson → Int → Option Bool) (j33_1 : Bool) : Option Bool := cond j33_1 ((f426 k (TJson.mk a0.fKind a0.fText a0.fL a0.fKeys) false).bind fun r38 => some r38) (cond (decide (a0.fKind = (4 : Int))) ((f426 k (TJson.mk a0.fKind a0.fText a0.fL a0.fKeys) true).bind fun r51 => cond r51 ((f406 k a0.fText).bind fun r55 => some r55) (some false)) (cond (decide (a0.fKind = (5 : Int))) ((f426 k (TJson.mk a0.fKind a0.fText a0.fL a0.fKeys) true).bind fun r69 => cond r69 ((f351 k a0.fText).bind fun r73 => some r73) (some false)) (cond (decide (a0.fKind = (6 : Int))) (cond (decide (((a0.fKeys.length : Nat) : Int) > (0 : Int))) (some false) (cond (decide (a0.fText = ([] : List UInt8))) (cond (decide (a1 < (64 : Int))) ((f429 rc425 k a0.fL a1).bind fun r197 => some (!r197)) (some false)) (some false))) (cond (decide (a0.fKind = (7 : Int))) (cond (decide (((a0.fKeys.length : Nat) : Int) ≠ ((a0.fL.length : Nat) : Int))) (some false) (none)) (some false)))))
def f425_s (rc425 : TJson → Int → Option Bool) (k : Nat) (a0 : TJson) (a1 : Int) : Option Bool := cond (decide (a0.fKind = (1 : Int))) (f425_j33 k a0 a1 rc425 (decide (a0.fKind = (1 : Int)))) (cond (decide (a0.fKind = (2 : Int))) (f425_j33 k a0 a1 rc425 (decide (a0.fKind = (2 : Int)))) (f425_j33 k a0 a1 rc425 (decide (a0.fKind = (3 : Int)))))
theorem F425_s {P : Program} {N : Nat → Nat} (hmix : P.follows .mixedOrders = true) (hc : HC425 P N) {rc425 : TJson → Int → Option Bool} (hrc425 : RH425 P N rc425) {k : Nat} {a0 : TJson} {a1 : Int} {r : Bool} (h : f425_s rc425 k a0 a1 = some r) :
    ACalls P (N 425) [(.d (TJson.enc a0)), (.d (.int .i64 a1))] [] (.d (.bool r)) [] := by
  refine acalls_canon (F := C425 N) hc.1 0 0 rfl ?_
  unfold f425_s at h
  dsimp only [C425, startL]
  refine AWc.seq ?_
  refine AWc.rE hmix [] ?_
  refine AWc.seq ?_
  refine AWc.seq ?_
  refine AWc.rE hmix [] ?_
  refine AWc.block ?_
  refine AWc.seqS (N := 86) 3 (fun (z : Bool) => [(2, (.ptr 0 0)), (3, (.ptr 1 0)), (4, (.ptr 2 0)), (11, (.d (.int .i64 a0.fKind))), (12, (.d (.bool z)))]) (fun z => [(0, (.cells [(.d (.int .i64 a0.fKind)), (.d (.str a0.fText)), (.d (.sl (List.map (rtE (z := 4)) a0.fL))), (.d (.sl (List.map D.str a0.fKeys)))])), (1, (.cells [(.d (.int .i64 a1))])), (2, (.cells [(.d (.bool false))]))]) (fun z => f425_j33 k a0 a1 rc425 z = some r) rfl_le ?_ ?_
  · refine AWc.seq ?_
    refine AWc.rE hmix [] ?_
    rcases cc h with ⟨c20, h⟩ | ⟨c20, h⟩
    · refine AWc.cT c20 ?_
      refine AWc.skip ?_
      exact ⟨(decide (a0.fKind = (1 : Int))), h, (inT [] [])⟩
    · refine AWc.cF c20 ?_
      refine AWc.seq ?_
      refine AWc.rE hmix [] ?_
      rcases cc h with ⟨c27, h⟩ | ⟨c27, h⟩
      · refine AWc.cT c27 ?_
        refine AWc.skip ?_
        exact ⟨(decide (a0.fKind = (2 : Int))), h, (inT [] [])⟩
      · refine AWc.cF c27 ?_
        refine AWc.rE hmix [] ?_
        exact ⟨(decide (a0.fKind = (3 : Int))), h, (inT [] [])⟩
  · intro j33_1 h
    unfold f425_j33 at h
    rcases cc h with ⟨c33, h⟩ | ⟨c33, h⟩
    · refine AWc.cT c33 ?_
      refine AWc.seq ?_
      obtain ⟨r38, e38, h⟩ := bind_some h
      refine AWc.rE hmix [.call (F426 hmix hc.2.1 e38) [] 0] ?_
      have hr := Option.some.inj h
      subst hr
      exact AWc.ret (canQ (N := 86) (k := 1) (l' := [(4, (.ptr 0 0))]) (H' := [(0, (.cells [(.d (.bool r38))]))]) rfl (inT [(0, 2)] []) (doneA (.inr rfl) rfl ⟨trivial, trivial⟩ (.refl _) hasNil))
    · refine AWc.cF c33 ?_
      refine AWc.seq ?_
      refine AWc.rE hmix [] ?_
      rcases cc h with ⟨c46, h⟩ | ⟨c46, h⟩
      · refine AWc.cT c46 ?_
        refine AWc.seq ?_
        obtain ⟨r51, e51, h⟩ := bind_some h
        rcases cc h with ⟨c52, h⟩ | ⟨c52, h⟩
        · obtain ⟨r55, e55, h⟩ := bind_some h
          refine AWc.rE hmix [.call (F426 hmix hc.2.1 e51) [] 0, .br c52, .call (F406 hmix hc.2.2.1 e55) [] 0] ?_
          have hr := Option.some.inj h
          subst hr
          exact AWc.ret (canQ (N := 86) (k := 1) (l' := [(4, (.ptr 0 0))]) (H' := [(0, (.cells [(.d (.bool r55))]))]) rfl (inT [(0, 2)] []) (doneA (.inr rfl) rfl ⟨trivial, trivial⟩ (.refl _) hasNil))
        · refine AWc.rE hmix [.call (F426 hmix hc.2.1 e51) [] 0, .br c52] ?_
          have hr := Option.some.inj h
          subst hr
          exact AWc.ret (canQ (N := 86) (k := 1) (l' := [(4, (.ptr 0 0))]) (H' := [(0, (.cells [(.d (.bool false))]))]) rfl (inT [(0, 2)] []) (doneA (.inr rfl) rfl ⟨trivial, trivial⟩ (.refl _) hasNil))
      · refine AWc.cF c46 ?_
        refine AWc.seq ?_
        refine AWc.rE hmix [] ?_
        rcases cc h with ⟨c64, h⟩ | ⟨c64, h⟩
        · refine AWc.cT c64 ?_
          refine AWc.seq ?_
          obtain ⟨r69, e69, h⟩ := bind_some h
          rcases cc h with ⟨c70, h⟩ | ⟨c70, h⟩
          · obtain ⟨r73, e73, h⟩ := bind_some h
            refine AWc.rE hmix [.call (F426 hmix hc.2.1 e69) [] 0, .br c70, .call (F351 hmix hc.2.2.2.1 e73) [] 0] ?_
            have hr := Option.some.inj h
            subst hr
            exact AWc.ret (canQ (N := 86) (k := 1) (l' := [(4, (.ptr 0 0))]) (H' := [(0, (.cells [(.d (.bool r73))]))]) rfl (inT [(0, 2)] []) (doneA (.inr rfl) rfl ⟨trivial, trivial⟩ (.refl _) hasNil))
          · refine AWc.rE hmix [.call (F426 hmix hc.2.1 e69) [] 0, .br c70] ?_
            have hr := Option.some.inj h
            subst hr
            exact AWc.ret (canQ (N := 86) (k := 1) (l' := [(4, (.ptr 0 0))]) (H' := [(0, (.cells [(.d (.bool false))]))]) rfl (inT [(0, 2)] []) (doneA (.inr rfl) rfl ⟨trivial, trivial⟩ (.refl _) hasNil))
        · refine AWc.cF c64 ?_
          refine AWc.seq ?_
          refine AWc.rE hmix [] ?_
          rcases cc h with ⟨c82, h⟩ | ⟨c82, h⟩
          · refine AWc.cT c82 ?_
            refine AWc.seq ?_
            refine AWc.rE hmix [.ln D.str a0.fKeys] ?_
            rcases cc h with ⟨c90, h⟩ | ⟨c90, h⟩
            · refine AWc.cT c90 ?_
              refine AWc.seq ?_
              refine AWc.rE hmix [] ?_
              have hr := Option.some.inj h
              subst hr
              exact AWc.ret (canQ (N := 86) (k := 1) (l' := [(4, (.ptr 0 0))]) (H' := [(0, (.cells [(.d (.bool false))]))]) rfl (inT [(0, 2)] []) (doneA (.inr rfl) rfl ⟨trivial, trivial⟩ (.refl _) hasNil))
            · refine AWc.cF c90 ?_
              refine AWc.skip ?_
              refine AWc.seq ?_
              rcases cc h with ⟨c189, h⟩ | ⟨c189, h⟩
              · rcases cc h with ⟨c193, h⟩ | ⟨c193, h⟩
                · obtain ⟨r197, e197, h⟩ := bind_some h
                  refine AWc.rE hmix [.br c189, .br c193, .cq (F429 hmix hc.2.2.2.2 hrc425 e197) [(0, 1)] 1] ?_
                  have hr := Option.some.inj h
                  subst hr
                  exact AWc.ret (canQ (N := 86) (k := 1) (l' := [(4, (.ptr 0 0))]) (H' := [(0, (.cells [(.d (.bool (!r197)))]))]) rfl (inT [(0, 2)] []) (doneA (.inr rfl) rfl ⟨trivial, trivial⟩ (.refl _) hasNil))
                · refine AWc.rE hmix [.br c189, .br c193] ?_
                  have hr := Option.some.inj h
                  subst hr
                  exact AWc.ret (canQ (N := 86) (k := 1) (l' := [(4, (.ptr 0 0))]) (H' := [(0, (.cells [(.d (.bool false))]))]) rfl (inT [(0, 2)] []) (doneA (.inr rfl) rfl ⟨trivial, trivial⟩ (.refl _) hasNil))
              · refine AWc.rE hmix [.br c189, .br (rfl : false = false)] ?_
                have hr := Option.some.inj h
                subst hr
                exact AWc.ret (canQ (N := 86) (k := 1) (l' := [(4, (.ptr 0 0))]) (H' := [(0, (.cells [(.d (.bool false))]))]) rfl (inT [(0, 2)] []) (doneA (.inr rfl) rfl ⟨trivial, trivial⟩ (.refl _) hasNil))
          · refine AWc.cF c82 ?_
            refine AWc.seq ?_
            refine AWc.rE hmix [] ?_
            rcases cc h with ⟨c102, h⟩ | ⟨c102, h⟩
            · refine AWc.cT c102 ?_
              refine AWc.seq ?_
              refine AWc.seq ?_
              refine AWc.rE hmix [.ln D.str a0.fKeys, .ln (rtE (z := 4)) a0.fL] ?_
              rcases cc h with ⟨c114, h⟩ | ⟨c114, h⟩
              · refine AWc.cT c114 ?_
                refine AWc.seq ?_
                refine AWc.rE hmix [] ?_
                have hr := Option.some.inj h
                subst hr
                exact AWc.ret (canQ (N := 86) (k := 1) (l' := [(4, (.ptr 0 0))]) (H' := [(0, (.cells [(.d (.bool false))]))]) rfl (inT [(0, 2)] []) (doneA (.inr rfl) rfl ⟨trivial, trivial⟩ (.refl _) hasNil))
              · refine AWc.cF c114 ?_
                refine AWc.skip ?_
                refine AWc.seq ?_
                cases h
            · refine AWc.cF c102 ?_
              refine AWc.seq ?_
              refine AWc.rE hmix [] ?_
              have hr := Option.some.inj h
              subst hr
              exact AWc.ret (canQ (N := 86) (k := 1) (l' := [(4, (.ptr 0 0))]) (H' := [(0, (.cells [(.d (.bool false))]))]) rfl (inT [(0, 2)] []) (doneA (.inr rfl) rfl ⟨trivial, trivial⟩ (.refl _) hasNil))
def f425 : Nat → TJson → Int → Option Bool
  | 0, _, _ => none
  | k + 1, a0, a1 => f425_s (f425 k) k a0 a1
theorem F425 {P : Program} {N : Nat → Nat} (hmix : P.follows .mixedOrders = true) (hc : HC425 P N) {k : Nat} {a0 : TJson} {a1 : Int} {r : Bool} (h : f425 k a0 a1 = some r) :
    ACalls P (N 425) [(.d (TJson.enc a0)), (.d (.int .i64 a1))] [] (.d (.bool r)) [] := by
  induction k generalizing a0 a1 r with
  | zero => exact absurd (show (none : Option _) = some r from h) (fun h2 => by cases h2)
  | succ k ih => exact F425_s hmix hc (fun _ _ _ h => ih h) h
/-- courant/json.Right -/
def C422 (N : Nat → Nat) : AFunc := { n := 5, params := 1, res := [.tmp 2], body :=
 (.seq (.region false [⟨(some 1), .box (.t 0), none, []⟩,
   ⟨(some 2), .mv (.k (.d (.bool false))), none, []⟩])
  (.seq (.region false [⟨(some 3), .load (.t 1) 4 true, none, []⟩,
    ⟨(some 4), .call (.k (.d (.fn (N 425)))) [(.t 3), (.k (.d (.int .i64 0)))], none, [0]⟩,
    ⟨(some 2), .mv (.t 4), none, [1, 0]⟩])
   .ret)) }
def HC422 (P : Program) (N : Nat → Nat) : Prop := HasF P (N 422) (C422 N) ∧ HC425 P N
def f422 (k : Nat) (a0 : TJson) : Option Bool := (f425 k (TJson.mk a0.fKind a0.fText a0.fL a0.fKeys) (0 : Int)).bind fun r10 => some r10
theorem F422 {P : Program} {N : Nat → Nat} (hmix : P.follows .mixedOrders = true) (hc : HC422 P N) {k : Nat} {a0 : TJson} {r : Bool} (h : f422 k a0 = some r) :
    ACalls P (N 422) [(.d (TJson.enc a0))] [] (.d (.bool r)) [] := by
  refine acalls_canon (F := C422 N) hc.1 0 0 rfl ?_
  unfold f422 at h
  dsimp only [C422, startL]
  refine AWc.seq ?_
  refine AWc.rE hmix [] ?_
  refine AWc.seq ?_
  obtain ⟨r10, e10, h⟩ := bind_some h
  refine AWc.rE hmix [.call (F425 hmix hc.2 e10) [] 0] ?_
  have hr := Option.some.inj h
  subst hr
  exact AWc.ret (canQ (N := 5) (k := 0) (l' := [(2, (.d (.bool r10)))]) (H' := []) rfl (inT [] []) (doneA (.inr rfl) rfl ⟨trivial, trivial⟩ (.refl _) hasNil))
def RH423 (P : Program) (N : Nat → Nat) (rc423 : (List UInt8) → TJson → Option (List UInt8)) : Prop := ∀ (a0 : (List UInt8)) (a1 : TJson) (r : (List UInt8)), rc423 a0 a1 = some r → ACalls P (N 423) [(.ap 0 1 (List.map byteD a0)), (.d (TJson.enc a1))] [(0, (.tok ((List.map byteD a0).length * 1)))] (.ap 1 1 (List.map byteD r)) [(1, (.tok ((List.map byteD r).length * 1)))]
/-- courant/json.quoted -/
def C424 (N : Nat → Nat) : AFunc := { n := 49, params := 2, res := [.tmp 4], body :=
 (.seq (.region false [⟨(some 4), .mv (.k .nils), none, []⟩])
  (.seq (.region false [⟨(some 7), .mv (.t 0), none, []⟩,
    ⟨(some 8), .bslice 1 1 [(.int .u8 0)] [(0, (.k (.d (.int .u8 34))))], none, []⟩,
    ⟨(some 9), .app (.t 7) (.t 8) 1 1 [(.int .u8 0)], none, [0, 1]⟩,
    ⟨(some 0), .mv (.t 9), none, [2, 0, 1]⟩])
   (.seq (.seq (.region false [⟨(some 10), .mv (.t 1), none, []⟩,
      ⟨(some 11), .slen (.t 10), none, [0]⟩,
      ⟨(some 12), .mv (.k (.d (.int .i64 0))), none, []⟩])
     (.block 0 (.loop (.seq (.region false [⟨(some 13), .bin .lss (.t 12) (.t 11), none, []⟩])
        (.seq (.cond (.t 13) (.skip)
          (.exit 0))
         (.seq (.block 1 (.seq (.region false [⟨(some 14), .mv (.t 12), none, []⟩,
             ⟨(some 5), .mv (.t 14), none, [0]⟩])
            (.seq (.region false [⟨(some 15), .mv (.t 1), none, []⟩,
              ⟨(some 16), .mv (.t 5), none, []⟩,
              ⟨(some 17), .idx (.t 15) (.t 16), none, [0, 1]⟩,
              ⟨(some 6), .mv (.t 17), none, [2, 0, 1]⟩])
             (.block 2 (.seq (.region false [⟨(some 23), .mv (.t 6), none, []⟩,
                ⟨(some 24), .bin .eql (.t 23) (.k (.d (.int .u8 34))), none, [0]⟩,
                ⟨(some 25), .mv (.t 24), none, [1]⟩,
                ⟨(some 26), .mv (.t 6), (some (25, false)), [2]⟩,
                ⟨(some 27), .bin .eql (.t 26) (.k (.d (.int .u8 92))), (some (25, false)), [3, 2]⟩,
                ⟨(some 28), .pick (.t 25) (.k (.d (.bool true))) (.t 27), none, [2, 4]⟩,
                ⟨(some 22), .mv (.t 28), none, [5, 2]⟩])
               (.cond (.t 22) (.region false [⟨(some 29), .mv (.t 0), none, []⟩,
                 ⟨(some 30), .mv (.t 6), none, []⟩,
                 ⟨(some 31), .bslice 2 1 [(.int .u8 0)] [(0, (.k (.d (.int .u8 92)))), (1, (.t 30))], none, [1]⟩,
                 ⟨(some 32), .app (.t 29) (.t 31) 1 1 [(.int .u8 0)], none, [0, 2]⟩,
                 ⟨(some 0), .mv (.t 32), none, [3, 0, 1, 2]⟩])
                (.seq (.region false [⟨(some 34), .mv (.t 6), none, []⟩,
                  ⟨(some 35), .bin .lss (.t 34) (.k (.d (.int .u8 32))), none, [0]⟩,
                  ⟨(some 33), .mv (.t 35), none, [1]⟩])
                 (.cond (.t 33) (.region true [⟨(some 36), .mv (.t 0), none, []⟩,
                   ⟨(some 37), .mv (.t 6), none, []⟩,
                   ⟨(some 38), .bin .shr (.t 37) (.k (.d (.int .u64 4))), none, [1]⟩,
                   ⟨(some 39), .idx (.k (.d (.str [48, 49, 50, 51, 52, 53, 54, 55, 56, 57, 97, 98, 99, 100, 101, 102]))) (.t 38), none, [2]⟩,
                   ⟨(some 40), .mv (.t 6), none, []⟩,
                   ⟨(some 41), .bin .and (.t 40) (.k (.d (.int .u8 15))), none, [4]⟩,
                   ⟨(some 42), .idx (.k (.d (.str [48, 49, 50, 51, 52, 53, 54, 55, 56, 57, 97, 98, 99, 100, 101, 102]))) (.t 41), none, [5]⟩,
                   ⟨(some 43), .bslice 6 1 [(.int .u8 0)] [(0, (.k (.d (.int .u8 92)))), (1, (.k (.d (.int .u8 117)))), (2, (.k (.d (.int .u8 48)))), (3, (.k (.d (.int .u8 48)))), (4, (.t 39)), (5, (.t 42))], none, [3, 6]⟩,
                   ⟨(some 44), .app (.t 36) (.t 43) 1 1 [(.int .u8 0)], none, [0, 7]⟩,
                   ⟨(some 0), .mv (.t 44), none, [8, 0, 1, 2, 3, 4, 5, 6, 7]⟩])
                  (.region false [⟨(some 18), .mv (.t 0), none, []⟩,
                   ⟨(some 19), .mv (.t 6), none, []⟩,
                   ⟨(some 20), .bslice 1 1 [(.int .u8 0)] [(0, (.t 19))], none, [1]⟩,
                   ⟨(some 21), .app (.t 18) (.t 20) 1 1 [(.int .u8 0)], none, [0, 2]⟩,
                   ⟨(some 0), .mv (.t 21), none, [3, 0, 1, 2]⟩])))))))))
          (.region false [⟨(some 45), .bin .add (.t 12) (.k (.d (.int .i64 1))), none, []⟩,
           ⟨(some 12), .mv (.t 45), none, [0]⟩])))))))
    (.seq (.region false [⟨(some 46), .mv (.t 0), none, []⟩,
      ⟨(some 47), .bslice 1 1 [(.int .u8 0)] [(0, (.k (.d (.int .u8 34))))], none, []⟩,
      ⟨(some 48), .app (.t 46) (.t 47) 1 1 [(.int .u8 0)], none, [0, 1]⟩,
      ⟨(some 4), .mv (.t 48), none, [2, 0, 1]⟩])
     .ret)))) }
def HC424 (P : Program) (N : Nat → Nat) : Prop := HasF P (N 424) (C424 N)
def f424_j92 (k : Nat) (j92_1 : (List UInt8)) : Option (List UInt8) := gd ((j92_1.length + ([(34 : UInt8)] : List UInt8).length) * 2 * 1 ≤ 281474976710656) (some (j92_1 ++ ([(34 : UInt8)] : List UInt8)))
def f424_j54 (L : (List UInt8) → Int → Option (LR2 (List UInt8) Unit (List UInt8))) (k : Nat) (y19_1 : (List UInt8)) (a1 : (List UInt8)) (y19_2 : Int) (j54_1 : Bool) : Option (LR2 (List UInt8) Unit (List UInt8)) := cond j54_1 (gd ((y19_1.length + ([(92 : UInt8), (a1.getD (y19_2).toNat 0)] : List UInt8).length) * 2 * 1 ≤ 281474976710656) (L (y19_1 ++ ([(92 : UInt8), (a1.getD (y19_2).toNat 0)] : List UInt8)) (IntKind.i64.wrap (y19_2 + (1 : Int))))) (cond (decide ((((a1.getD (y19_2).toNat 0).toNat : Nat) : Int) < (32 : Int))) (gd (0 ≤ (Int.fdiv (((a1.getD (y19_2).toNat 0).toNat : Nat) : Int) (2 ^ (min ((4 : Int)).toNat IntKind.u8.bits))) ∧ (Int.fdiv (((a1.getD (y19_2).toNat 0).toNat : Nat) : Int) (2 ^ (min ((4 : Int)).toNat IntKind.u8.bits))) < ((([48, 49, 50, 51, 52, 53, 54, 55, 56, 57, 97, 98, 99, 100, 101, 102] : List UInt8).length : Nat) : Int)) (gd (0 ≤ (((u8 (bitsA .and .u8 (((a1.getD (y19_2).toNat 0).toNat : Nat) : Int) (15 : Int))).toNat : Nat) : Int) ∧ (((u8 (bitsA .and .u8 (((a1.getD (y19_2).toNat 0).toNat : Nat) : Int) (15 : Int))).toNat : Nat) : Int) < ((([48, 49, 50, 51, 52, 53, 54, 55, 56, 57, 97, 98, 99, 100, 101, 102] : List UInt8).length : Nat) : Int)) (gd ((y19_1.length + ([(92 : UInt8), (117 : UInt8), (48 : UInt8), (48 : UInt8), (([48, 49, 50, 51, 52, 53, 54, 55, 56, 57, 97, 98, 99, 100, 101, 102] : List UInt8).getD ((Int.fdiv (((a1.getD (y19_2).toNat 0).toNat : Nat) : Int) (2 ^ (min ((4 : Int)).toNat IntKind.u8.bits)))).toNat 0), (([48, 49, 50, 51, 52, 53, 54, 55, 56, 57, 97, 98, 99, 100, 101, 102] : List UInt8).getD ((((u8 (bitsA .and .u8 (((a1.getD (y19_2).toNat 0).toNat : Nat) : Int) (15 : Int))).toNat : Nat) : Int)).toNat 0)] : List UInt8).length) * 2 * 1 ≤ 281474976710656) (L (y19_1 ++ ([(92 : UInt8), (117 : UInt8), (48 : UInt8), (48 : UInt8), (([48, 49, 50, 51, 52, 53, 54, 55, 56, 57, 97, 98, 99, 100, 101, 102] : List UInt8).getD ((Int.fdiv (((a1.getD (y19_2).toNat 0).toNat : Nat) : Int) (2 ^ (min ((4 : Int)).toNat IntKind.u8.bits)))).toNat 0), (([48, 49, 50, 51, 52, 53, 54, 55, 56, 57, 97, 98, 99, 100, 101, 102] : List UInt8).getD ((((u8 (bitsA .and .u8 (((a1.getD (y19_2).toNat 0).toNat : Nat) : Int) (15 : Int))).toNat : Nat) : Int)).toNat 0)] : List UInt8)) (IntKind.i64.wrap (y19_2 + (1 : Int))))))) (gd ((y19_1.length + ([(a1.getD (y19_2).toNat 0)] : List UInt8).length) * 2 * 1 ≤ 281474976710656) (L (y19_1 ++ ([(a1.getD (y19_2).toNat 0)] : List UInt8)) (IntKind.i64.wrap (y19_2 + (1 : Int))))))
def f424_l19 (a1 : (List UInt8)) : Nat → (List UInt8) → Int → Option (LR2 (List UInt8) Unit (List UInt8))
  | 0, _, _ => none
  | k + 1, y19_1, y19_2 => cond (decide (y19_2 < ((a1.length : Nat) : Int))) (gd (0 ≤ y19_2 ∧ y19_2 < ((a1.length : Nat) : Int)) (cond (decide ((((a1.getD (y19_2).toNat 0).toNat : Nat) : Int) = (34 : Int))) (f424_j54 (f424_l19 a1 k) k y19_1 a1 y19_2 true) (f424_j54 (f424_l19 a1 k) k y19_1 a1 y19_2 (decide ((((a1.getD (y19_2).toNat 0).toNat : Nat) : Int) = (92 : Int)))))) (some (.b0 y19_1))
def f424 (k : Nat) (a0 : (List UInt8)) (a1 : (List UInt8)) : Option (List UInt8) := gd ((a0.length + ([(34 : UInt8)] : List UInt8).length) * 2 * 1 ≤ 281474976710656) ((f424_l19 a1 k (a0 ++ ([(34 : UInt8)] : List UInt8)) (0 : Int)).bind fun o19 => (match o19 with | .b0 x19_1 => f424_j92 k x19_1 | _ => none))
theorem F424 {P : Program} {N : Nat → Nat} (hmix : P.follows .mixedOrders = true) (hc : HC424 P N) {k : Nat} {a0 : (List UInt8)} {a1 : (List UInt8)} {r : (List UInt8)} (h : f424 k a0 a1 = some r) :
    ACalls P (N 424) [(.ap 0 1 (List.map byteD a0)), (.d (.str a1))] [(0, (.tok ((List.map byteD a0).length * 1)))] (.ap 1 1 (List.map byteD r)) [(1, (.tok ((List.map byteD r).length * 1)))] := by
  refine acalls_canon (F := C424 N) hc 1 2 rfl ?_
  unfold f424 at h
  dsimp only [C424, startL]
  refine AWc.seq ?_
  refine AWc.rE hmix [] ?_
  refine AWc.seq ?_
  obtain ⟨b10, h⟩ := gd_some h
  refine AWc.rE hmix [.apA byteD a0 ([(34 : UInt8)] : List UInt8) 1 (fun _ => rfl) b10] ?_
  refine AWc.seqS (N := 49) 2 (fun (z : (List UInt8)) => [(0, (.ap 1 1 (List.map byteD z)))]) (fun z => [(1, (.tok ((List.map byteD z).length * 1)))]) (fun z => f424_j92 k z = some r) rfl_le ?_ ?_
  · refine AWc.seq ?_
    refine AWc.rE hmix [] ?_
    obtain ⟨o19, h19, h⟩ := bind_some h
    refine AWc.block ?_
    refine AWc.loopK (N := 49) 2 (fun (x : ((List UInt8) × Int)) => [(0, (.ap 1 1 (List.map byteD x.1))), (1, (.d (.str a1))), (11, (.d (.int .i64 ((a1.length : Nat) : Int)))), (12, (.d (.int .i64 x.2)))]) (fun x => [(1, (.tok ((List.map byteD x.1).length * 1)))]) (fun k x => f424_l19 a1 k x.1 x.2 = some o19) k ((a0 ++ ([(34 : UInt8)] : List UInt8)), (0 : Int)) rfl_le (fun x hx => by cases hx) h19 (inT [] []) ?_
    clear h19
    intro k
    rintro ⟨y19_1, y19_2⟩ h19
    dsimp only at h19 ⊢
    rw [f424_l19] at h19
    refine AWc.seq ?_
    refine AWc.rE hmix [] ?_
    refine AWc.seq ?_
    rcases cc h19 with ⟨c26, h19⟩ | ⟨c26, h19⟩
    · refine AWc.cT c26 ?_
      refine AWc.skip ?_
      refine AWc.seq ?_
      refine AWc.block ?_
      refine AWc.seq ?_
      refine AWc.rE hmix [] ?_
      refine AWc.seq ?_
      obtain ⟨b41, h19⟩ := gd_some h19
      refine AWc.rE hmix [.sd b41] ?_
      refine AWc.block ?_
      refine AWc.seqS (N := 49) 2 (fun (z : Bool) => [(0, (.ap 1 1 (List.map byteD y19_1))), (1, (.d (.str a1))), (6, (.d (.int .u8 (((a1.getD (y19_2).toNat 0).toNat : Nat) : Int)))), (11, (.d (.int .i64 ((a1.length : Nat) : Int)))), (12, (.d (.int .i64 y19_2))), (22, (.d (.bool z))), (26, .any), (27, .any)]) (fun z => [(1, (.tok ((List.map byteD y19_1).length * 1)))]) (fun z => f424_j54 (f424_l19 a1 k) k y19_1 a1 y19_2 z = some o19) rfl_le ?_ ?_
      · rcases cc h19 with ⟨c49, h19⟩ | ⟨c49, h19⟩
        · refine AWc.rE hmix [.br c49] ?_
          exact ⟨true, h19, (inT [] [])⟩
        · refine AWc.rE hmix [.br c49] ?_
          exact ⟨(decide ((((a1.getD (y19_2).toNat 0).toNat : Nat) : Int) = (92 : Int))), h19, (inT [] [])⟩
      · intro j54_1 h19
        unfold f424_j54 at h19
        rcases cc h19 with ⟨c54, h19⟩ | ⟨c54, h19⟩
        · refine AWc.cT c54 ?_
          obtain ⟨b60, h19⟩ := gd_some h19
          refine AWc.rE hmix [.apA byteD y19_1 ([(92 : UInt8), (a1.getD (y19_2).toNat 0)] : List UInt8) 1 (fun _ => rfl) b60] ?_
          refine AWc.rE hmix [] ?_
          exact ⟨((y19_1 ++ ([(92 : UInt8), (a1.getD (y19_2).toNat 0)] : List UInt8)), (IntKind.i64.wrap (y19_2 + (1 : Int)))), h19, (inT [(1, 2)] [])⟩
        · refine AWc.cF c54 ?_
          refine AWc.seq ?_
          refine AWc.rE hmix [] ?_
          rcases cc h19 with ⟨c68, h19⟩ | ⟨c68, h19⟩
          · refine AWc.cT c68 ?_
            obtain ⟨b74, h19⟩ := gd_some h19
            obtain ⟨b77, h19⟩ := gd_some h19
            obtain ⟨b79, h19⟩ := gd_some h19
            refine AWc.rE hmix [.sd (p := 0 ≤ (4 : Int)) (by decide), .sd b74, .sd b77, .apA byteD y19_1 ([(92 : UInt8), (117 : UInt8), (48 : UInt8), (48 : UInt8), (([48, 49, 50, 51, 52, 53, 54, 55, 56, 57, 97, 98, 99, 100, 101, 102] : List UInt8).getD ((Int.fdiv (((a1.getD (y19_2).toNat 0).toNat : Nat) : Int) (2 ^ (min ((4 : Int)).toNat IntKind.u8.bits)))).toNat 0), (([48, 49, 50, 51, 52, 53, 54, 55, 56, 57, 97, 98, 99, 100, 101, 102] : List UInt8).getD ((((u8 (bitsA .and .u8 (((a1.getD (y19_2).toNat 0).toNat : Nat) : Int) (15 : Int))).toNat : Nat) : Int)).toNat 0)] : List UInt8) 1 (fun _ => rfl) b79] ?_
            refine AWc.rE hmix [] ?_
            exact ⟨((y19_1 ++ ([(92 : UInt8), (117 : UInt8), (48 : UInt8), (48 : UInt8), (([48, 49, 50, 51, 52, 53, 54, 55, 56, 57, 97, 98, 99, 100, 101, 102] : List UInt8).getD ((Int.fdiv (((a1.getD (y19_2).toNat 0).toNat : Nat) : Int) (2 ^ (min ((4 : Int)).toNat IntKind.u8.bits)))).toNat 0), (([48, 49, 50, 51, 52, 53, 54, 55, 56, 57, 97, 98, 99, 100, 101, 102] : List UInt8).getD ((((u8 (bitsA .and .u8 (((a1.getD (y19_2).toNat 0).toNat : Nat) : Int) (15 : Int))).toNat : Nat) : Int)).toNat 0)] : List UInt8)), (IntKind.i64.wrap (y19_2 + (1 : Int)))), h19, (inT [(1, 2)] [])⟩
          · refine AWc.cF c68 ?_
            obtain ⟨b86, h19⟩ := gd_some h19
            refine AWc.rE hmix [.apA byteD y19_1 ([(a1.getD (y19_2).toNat 0)] : List UInt8) 1 (fun _ => rfl) b86] ?_
            refine AWc.rE hmix [] ?_
            exact ⟨((y19_1 ++ ([(a1.getD (y19_2).toNat 0)] : List UInt8)), (IntKind.i64.wrap (y19_2 + (1 : Int)))), h19, (inT [(1, 2)] [])⟩
    · refine AWc.cF c26 ?_
      cases h19
      dsimp only at h
      refine AWc.exit ?_
      refine inBlk_eq ?_
      exact ⟨y19_1, h, (inT [] [])⟩
  · intro j92_1 h
    unfold f424_j92 at h
    refine AWc.seq ?_
    obtain ⟨b97, h⟩ := gd_some h
    refine AWc.rE hmix [.apA byteD j92_1 ([(34 : UInt8)] : List UInt8) 1 (fun _ => rfl) b97] ?_
    have hr := Option.some.inj h
    subst hr
    exact AWc.ret (canQ (N := 49) (k := 2) (l' := [(4, (.ap 1 1 (List.map byteD (j92_1 ++ ([(34 : UInt8)] : List UInt8)))))]) (H' := [(1, (.tok ((List.map byteD (j92_1 ++ ([(34 : UInt8)] : List UInt8))).length * 1)))]) rfl (inT [(1, 2)] []) (doneA (.inr rfl) rfl ⟨trivial, trivial⟩ (.refl _) (hasCons rfl hasNil)))
/-- courant/json.printed -/
def C423 (N : Nat → Nat) : AFunc := { n := 76, params := 2, res := [.tmp 4], body :=
 (.seq (.region false [⟨(some 3), .box (.t 1), none, []⟩,
   ⟨(some 4), .mv (.k .nils), none, []⟩])
  (.seq (.seq (.region false [⟨(some 8), .faddr (.t 3) 0, none, []⟩,
     ⟨(some 9), .load (.t 8) 1 false, none, [0]⟩])
    (.block 0 (.seq (.region false [⟨(some 11), .bin .eql (.t 9) (.k (.d (.int .i64 1))), none, []⟩,
       ⟨(some 10), .mv (.t 11), none, [0]⟩])
      (.cond (.t 10) (.seq (.region false [⟨(some 12), .mv (.t 0), none, []⟩,
         ⟨(some 13), .app (.t 12) (.k (.d (.str [110, 117, 108, 108]))) 1 1 [(.int .u8 0)], none, [0]⟩,
         ⟨(some 4), .mv (.t 13), none, [1, 0]⟩])
        .ret)
       (.seq (.region false [⟨(some 15), .bin .eql (.t 9) (.k (.d (.int .i64 2))), none, []⟩,
         ⟨(some 14), .mv (.t 15), none, [0]⟩])
        (.cond (.t 14) (.seq (.region false [⟨(some 16), .mv (.t 0), none, []⟩,
           ⟨(some 17), .app (.t 16) (.k (.d (.str [102, 97, 108, 115, 101]))) 1 1 [(.int .u8 0)], none, [0]⟩,
           ⟨(some 4), .mv (.t 17), none, [1, 0]⟩])
          .ret)
         (.seq (.region false [⟨(some 19), .bin .eql (.t 9) (.k (.d (.int .i64 3))), none, []⟩,
           ⟨(some 18), .mv (.t 19), none, [0]⟩])
          (.cond (.t 18) (.seq (.region false [⟨(some 20), .mv (.t 0), none, []⟩,
             ⟨(some 21), .app (.t 20) (.k (.d (.str [116, 114, 117, 101]))) 1 1 [(.int .u8 0)], none, [0]⟩,
             ⟨(some 4), .mv (.t 21), none, [1, 0]⟩])
            .ret)
           (.seq (.region false [⟨(some 23), .bin .eql (.t 9) (.k (.d (.int .i64 4))), none, []⟩,
             ⟨(some 22), .mv (.t 23), none, [0]⟩])
            (.cond (.t 22) (.seq (.region false [⟨(some 24), .mv (.t 0), none, []⟩,
               ⟨(some 25), .faddr (.t 3) 1, none, []⟩,
               ⟨(some 26), .load (.t 25) 1 false, none, [1]⟩,
               ⟨(some 27), .app (.t 24) (.t 26) 1 1 [(.int .u8 0)], none, [0, 2]⟩,
               ⟨(some 4), .mv (.t 27), none, [3, 0, 1, 2]⟩])
              .ret)
             (.seq (.region false [⟨(some 29), .bin .eql (.t 9) (.k (.d (.int .i64 5))), none, []⟩,
               ⟨(some 28), .mv (.t 29), none, [0]⟩])
              (.cond (.t 28) (.seq (.region false [⟨(some 30), .mv (.t 0), none, []⟩,
                 ⟨(some 31), .faddr (.t 3) 1, none, []⟩,
                 ⟨(some 32), .load (.t 31) 1 false, none, [1]⟩,
                 ⟨(some 33), .call (.k (.d (.fn (N 424)))) [(.t 30), (.t 32)], none, [0, 2]⟩,
                 ⟨(some 4), .mv (.t 33), none, [3, 0, 1, 2]⟩])
                .ret)
               (.skip)))))))))))))
   (.seq (.region false [⟨(some 5), .mv (.k (.d (.str [91, 93]))), none, []⟩])
    (.seq (.seq (.region false [⟨(some 34), .faddr (.t 3) 0, none, []⟩,
       ⟨(some 35), .load (.t 34) 1 false, none, [0]⟩,
       ⟨(some 36), .bin .eql (.t 35) (.k (.d (.int .i64 7))), none, [1]⟩])
      (.cond (.t 36) (.region false [⟨(some 5), .mv (.k (.d (.str [123, 125]))), none, []⟩])
       (.skip)))
     (.seq (.region false [⟨(some 37), .mv (.t 0), none, []⟩,
       ⟨(some 38), .mv (.t 5), none, []⟩,
       ⟨(some 39), .idx (.t 38) (.k (.d (.int .i64 0))), none, [1]⟩,
       ⟨(some 40), .bslice 1 1 [(.int .u8 0)] [(0, (.t 39))], none, [2]⟩,
       ⟨(some 41), .app (.t 37) (.t 40) 1 1 [(.int .u8 0)], none, [0, 3]⟩,
       ⟨(some 0), .mv (.t 41), none, [4, 0, 1, 2, 3]⟩])
      (.seq (.seq (.region false [⟨(some 42), .faddr (.t 3) 2, none, []⟩,
         ⟨(some 43), .load (.t 42) 1 false, none, [0]⟩,
         ⟨(some 44), .len (.t 43), none, [1]⟩,
         ⟨(some 45), .mv (.k (.d (.int .i64 0))), none, []⟩])
        (.block 1 (.loop (.seq (.region false [⟨(some 46), .bin .lss (.t 45) (.t 44), none, []⟩])
           (.seq (.cond (.t 46) (.skip)
             (.exit 1))
            (.seq (.block 2 (.seq (.region false [⟨(some 47), .mv (.t 45), none, []⟩,
                ⟨(some 48), .iaddr (.t 43) (.t 45) 4, none, []⟩,
                ⟨(some 49), .load (.t 48) 4 true, none, [1]⟩,
                ⟨(some 7), .alloc [(.int .i64 0), (.str []), (.sl []), (.sl [])], none, []⟩,
                ⟨(some 6), .mv (.t 47), none, [0, 1, 2, 3]⟩,
                ⟨none, .store (.t 7) (.t 49) 4, none, [3, 2, 4, 0, 1]⟩])
               (.seq (.seq (.region false [⟨(some 50), .mv (.t 6), none, []⟩,
                  ⟨(some 51), .bin .gtr (.t 50) (.k (.d (.int .i64 0))), none, [0]⟩])
                 (.cond (.t 51) (.region false [⟨(some 52), .mv (.t 0), none, []⟩,
                   ⟨(some 53), .bslice 1 1 [(.int .u8 0)] [(0, (.k (.d (.int .u8 44))))], none, []⟩,
                   ⟨(some 54), .app (.t 52) (.t 53) 1 1 [(.int .u8 0)], none, [0, 1]⟩,
                   ⟨(some 0), .mv (.t 54), none, [2, 0, 1]⟩])
                  (.skip)))
                (.seq (.seq (.region false [⟨(some 55), .faddr (.t 3) 0, none, []⟩,
                   ⟨(some 56), .load (.t 55) 1 false, none, [0]⟩,
                   ⟨(some 57), .bin .eql (.t 56) (.k (.d (.int .i64 7))), none, [1]⟩])
                  (.cond (.t 57) (.region false [⟨(some 58), .mv (.t 0), none, []⟩,
                    ⟨(some 59), .faddr (.t 3) 3, none, []⟩,
                    ⟨(some 60), .load (.t 59) 1 false, none, [1]⟩,
                    ⟨(some 61), .mv (.t 6), none, []⟩,
                    ⟨(some 62), .iaddr (.t 60) (.t 61) 1, none, [2, 3]⟩,
                    ⟨(some 63), .load (.t 62) 1 false, none, [4]⟩,
                    ⟨(some 64), .call (.k (.d (.fn (N 424)))) [(.t 58), (.t 63)], none, [0, 5]⟩,
                    ⟨(some 65), .bslice 1 1 [(.int .u8 0)] [(0, (.k (.d (.int .u8 58))))], none, []⟩,
                    ⟨(some 66), .app (.t 64) (.t 65) 1 1 [(.int .u8 0)], none, [6, 7]⟩,
                    ⟨(some 0), .mv (.t 66), none, [8, 0, 1, 2, 3, 4, 5, 6, 7]⟩])
                   (.skip)))
                 (.region false [⟨(some 67), .mv (.t 0), none, []⟩,
                  ⟨(some 68), .load (.t 7) 4 true, none, []⟩,
                  ⟨(some 69), .call (.k (.d (.fn (N 423)))) [(.t 67), (.t 68)], none, [0, 1]⟩,
                  ⟨(some 0), .mv (.t 69), none, [2, 0, 1]⟩])))))
             (.region false [⟨(some 70), .bin .add (.t 45) (.k (.d (.int .i64 1))), none, []⟩,
              ⟨(some 45), .mv (.t 70), none, [0]⟩])))))))
       (.seq (.region false [⟨(some 71), .mv (.t 0), none, []⟩,
         ⟨(some 72), .mv (.t 5), none, []⟩,
         ⟨(some 73), .idx (.t 72) (.k (.d (.int .i64 1))), none, [1]⟩,
         ⟨(some 74), .bslice 1 1 [(.int .u8 0)] [(0, (.t 73))], none, [2]⟩,
         ⟨(some 75), .app (.t 71) (.t 74) 1 1 [(.int .u8 0)], none, [0, 3]⟩,
         ⟨(some 4), .mv (.t 75), none, [4, 0, 1, 2, 3]⟩])
        .ret))))))) }
def HC423 (P : Program) (N : Nat → Nat) : Prop := HasF P (N 423) (C423 N) ∧ HC424 P N
def f423_j182 (k : Nat) (j99_1 : (List UInt8)) (j182_1 : (List UInt8)) : Option (List UInt8) := gd (0 ≤ (1 : Int) ∧ (1 : Int) < ((j99_1.length : Nat) : Int)) (gd ((j182_1.length + ([(j99_1.getD ((1 : Int)).toNat 0)] : List UInt8).length) * 2 * 1 ≤ 281474976710656) (some (j182_1 ++ ([(j99_1.getD ((1 : Int)).toNat 0)] : List UInt8))))
def f423_j172 (L : (List UInt8) → Int → Option (LR2 (List UInt8) Unit (List UInt8))) (k : Nat) (rc423 : (List UInt8) → TJson → Option (List UInt8)) (rx132 : TJson) (y116_2 : Int) (j172_1 : (List UInt8)) : Option (LR2 (List UInt8) Unit (List UInt8)) := (rc423 j172_1 (TJson.mk rx132.fKind rx132.fText rx132.fL rx132.fKeys)).bind fun r176 => L r176 (IntKind.i64.wrap (y116_2 + (1 : Int)))
def f423_j151 (L : (List UInt8) → Int → Option (LR2 (List UInt8) Unit (List UInt8))) (k : Nat) (a1 : TJson) (y116_2 : Int) (rc423 : (List UInt8) → TJson → Option (List UInt8)) (rx132 : TJson) (j151_1 : (List UInt8)) : Option (LR2 (List UInt8) Unit (List UInt8)) := cond (decide (a1.fKind = (7 : Int))) (gd (0 ≤ y116_2 ∧ y116_2 < ((a1.fKeys.length : Nat) : Int)) ((f424 k j151_1 (rd a1.fKeys y116_2)).bind fun r167 => gd ((r167.length + ([(58 : UInt8)] : List UInt8).length) * 2 * 1 ≤ 281474976710656) (f423_j172 (L) k rc423 rx132 y116_2 (r167 ++ ([(58 : UInt8)] : List UInt8))))) (f423_j172 (L) k rc423 rx132 y116_2 j151_1)
def f423_l116 (a1 : TJson) (rc423 : (List UInt8) → TJson → Option (List UInt8)) : Nat → (List UInt8) → Int → Option (LR2 (List UInt8) Unit (List UInt8))
  | 0, _, _ => none
  | k + 1, y116_1, y116_2 => cond (decide (y116_2 < ((a1.fL.length : Nat) : Int))) (gd (0 ≤ y116_2 ∧ y116_2 < ((a1.fL.length : Nat) : Int)) ((TJson.dec (rtE (rd a1.fL y116_2))).bind fun rx132 => cond (decide (y116_2 > (0 : Int))) (gd ((y116_1.length + ([(44 : UInt8)] : List UInt8).length) * 2 * 1 ≤ 281474976710656) (f423_j151 (f423_l116 a1 rc423 k) k a1 y116_2 rc423 rx132 (y116_1 ++ ([(44 : UInt8)] : List UInt8)))) (f423_j151 (f423_l116 a1 rc423 k) k a1 y116_2 rc423 rx132 y116_1))) (some (.b0 y116_1))
def f423_j99 (k : Nat) (a0 : (List UInt8)) (a1 : TJson) (rc423 : (List UInt8) → TJson → Option (List UInt8)) (j99_1 : (List UInt8)) : Option (List UInt8) := gd (0 ≤ (0 : Int) ∧ (0 : Int) < ((j99_1.length : Nat) : Int)) (gd ((a0.length + ([(j99_1.getD ((0 : Int)).toNat 0)] : List UInt8).length) * 2 * 1 ≤ 281474976710656) ((f423_l116 a1 rc423 k (a0 ++ ([(j99_1.getD ((0 : Int)).toNat 0)] : List UInt8)) (0 : Int)).bind fun o116 => (match o116 with | .b0 x116_1 => f423_j182 k j99_1 x116_1 | _ => none)))
def f423_s (rc423 : (List UInt8) → TJson → Option (List UInt8)) (k : Nat) (a0 : (List UInt8)) (a1 : TJson) : Option (List UInt8) := cond (decide (a1.fKind = (1 : Int))) (gd ((a0.length + ([110, 117, 108, 108] : List UInt8).length) * 2 * 1 ≤ 281474976710656) (some (a0 ++ ([110, 117, 108, 108] : List UInt8)))) (cond (decide (a1.fKind = (2 : Int))) (gd ((a0.length + ([102, 97, 108, 115, 101] : List UInt8).length) * 2 * 1 ≤ 281474976710656) (some (a0 ++ ([102, 97, 108, 115, 101] : List UInt8)))) (cond (decide (a1.fKind = (3 : Int))) (gd ((a0.length + ([116, 114, 117, 101] : List UInt8).length) * 2 * 1 ≤ 281474976710656) (some (a0 ++ ([116, 114, 117, 101] : List UInt8)))) (cond (decide (a1.fKind = (4 : Int))) (gd ((a0.length + a1.fText.length) * 2 * 1 ≤ 281474976710656) (some (a0 ++ a1.fText))) (cond (decide (a1.fKind = (5 : Int))) ((f424 k a0 a1.fText).bind fun r79 => some r79) (cond (decide (a1.fKind = (7 : Int))) (f423_j99 k a0 a1 rc423 ([123, 125] : List UInt8)) (f423_j99 k a0 a1 rc423 ([91, 93] : List UInt8)))))))
theorem F423_s {P : Program} {N : Nat → Nat} (hmix : P.follows .mixedOrders = true) (hc : HC423 P N) {rc423 : (List UInt8) → TJson → Option (List UInt8)} (hrc423 : RH423 P N rc423) {k : Nat} {a0 : (List UInt8)} {a1 : TJson} {r : (List UInt8)} (h : f423_s rc423 k a0 a1 = some r) :
    ACalls P (N 423) [(.ap 0 1 (List.map byteD a0)), (.d (TJson.enc a1))] [(0, (.tok ((List.map byteD a0).length * 1)))] (.ap 1 1 (List.map byteD r)) [(1, (.tok ((List.map byteD r).length * 1)))] := by
  refine acalls_canon (F := C423 N) hc.1 1 2 rfl ?_
  unfold f423_s at h
  dsimp only [C423, startL]
  refine AWc.seq ?_
  refine AWc.rE hmix [] ?_
  refine AWc.seq ?_
  refine AWc.seq ?_
  refine AWc.rE hmix [] ?_
  refine AWc.block ?_
  refine AWc.seq ?_
  refine AWc.rE hmix [] ?_
  rcases cc h with ⟨c18, h⟩ | ⟨c18, h⟩
  · refine AWc.cT c18 ?_
    refine AWc.seq ?_
    obtain ⟨b23, h⟩ := gd_some h
    refine AWc.rE hmix [.apA byteD a0 ([110, 117, 108, 108] : List UInt8) 1 (fun _ => rfl) b23] ?_
    have hr := Option.some.inj h
    subst hr
    exact AWc.ret (canQ (N := 76) (k := 2) (l' := [(4, (.ap 1 1 (List.map byteD (a0 ++ ([110, 117, 108, 108] : List UInt8)))))]) (H' := [(1, (.tok ((List.map byteD (a0 ++ ([110, 117, 108, 108] : List UInt8))).length * 1)))]) rfl (inT [(1, 2)] []) (doneA (.inr rfl) rfl ⟨trivial, trivial⟩ (.refl _) (hasCons rfl hasNil)))
  · refine AWc.cF c18 ?_
    refine AWc.seq ?_
    refine AWc.rE hmix [] ?_
    rcases cc h with ⟨c31, h⟩ | ⟨c31, h⟩
    · refine AWc.cT c31 ?_
      refine AWc.seq ?_
      obtain ⟨b36, h⟩ := gd_some h
      refine AWc.rE hmix [.apA byteD a0 ([102, 97, 108, 115, 101] : List UInt8) 1 (fun _ => rfl) b36] ?_
      have hr := Option.some.inj h
      subst hr
      exact AWc.ret (canQ (N := 76) (k := 2) (l' := [(4, (.ap 1 1 (List.map byteD (a0 ++ ([102, 97, 108, 115, 101] : List UInt8)))))]) (H' := [(1, (.tok ((List.map byteD (a0 ++ ([102, 97, 108, 115, 101] : List UInt8))).length * 1)))]) rfl (inT [(1, 2)] []) (doneA (.inr rfl) rfl ⟨trivial, trivial⟩ (.refl _) (hasCons rfl hasNil)))
    · refine AWc.cF c31 ?_
      refine AWc.seq ?_
      refine AWc.rE hmix [] ?_
      rcases cc h with ⟨c44, h⟩ | ⟨c44, h⟩
      · refine AWc.cT c44 ?_
        refine AWc.seq ?_
        obtain ⟨b49, h⟩ := gd_some h
        refine AWc.rE hmix [.apA byteD a0 ([116, 114, 117, 101] : List UInt8) 1 (fun _ => rfl) b49] ?_
        have hr := Option.some.inj h
        subst hr
        exact AWc.ret (canQ (N := 76) (k := 2) (l' := [(4, (.ap 1 1 (List.map byteD (a0 ++ ([116, 114, 117, 101] : List UInt8)))))]) (H' := [(1, (.tok ((List.map byteD (a0 ++ ([116, 114, 117, 101] : List UInt8))).length * 1)))]) rfl (inT [(1, 2)] []) (doneA (.inr rfl) rfl ⟨trivial, trivial⟩ (.refl _) (hasCons rfl hasNil)))
      · refine AWc.cF c44 ?_
        refine AWc.seq ?_
        refine AWc.rE hmix [] ?_
        rcases cc h with ⟨c57, h⟩ | ⟨c57, h⟩
        · refine AWc.cT c57 ?_
          refine AWc.seq ?_
          obtain ⟨b64, h⟩ := gd_some h
          refine AWc.rE hmix [.apA byteD a0 a1.fText 1 (fun _ => rfl) b64] ?_
          have hr := Option.some.inj h
          subst hr
          exact AWc.ret (canQ (N := 76) (k := 2) (l' := [(4, (.ap 1 1 (List.map byteD (a0 ++ a1.fText))))]) (H' := [(1, (.tok ((List.map byteD (a0 ++ a1.fText)).length * 1)))]) rfl (inT [(1, 2)] []) (doneA (.inr rfl) rfl ⟨trivial, trivial⟩ (.refl _) (hasCons rfl hasNil)))
        · refine AWc.cF c57 ?_
          refine AWc.seq ?_
          refine AWc.rE hmix [] ?_
          rcases cc h with ⟨c72, h⟩ | ⟨c72, h⟩
          · refine AWc.cT c72 ?_
            refine AWc.seq ?_
            obtain ⟨r79, e79, h⟩ := bind_some h
            refine AWc.rE hmix [.call (F424 hmix hc.2 e79) [(1, 2)] 2] ?_
            have hr := Option.some.inj h
            subst hr
            exact AWc.ret (canQ (N := 76) (k := 2) (l' := [(4, (.ap 1 1 (List.map byteD r79)))]) (H' := [(1, (.tok ((List.map byteD r79).length * 1)))]) rfl (inT [(1, 2)] []) (doneA (.inr rfl) rfl ⟨trivial, trivial⟩ (.refl _) (hasCons rfl hasNil)))
          · refine AWc.cF c72 ?_
            refine AWc.skip ?_
            refine AWc.seq ?_
            refine AWc.rE hmix [] ?_
            refine AWc.seqS (N := 76) 2 (fun (z : (List UInt8)) => [(0, (.ap 0 1 (List.map byteD a0))), (3, (.ptr 1 0)), (5, (.d (.str z)))]) (fun z => [(0, (.tok ((List.map byteD a0).length * 1))), (1, (.cells [(.d (.int .i64 a1.fKind)), (.d (.str a1.fText)), (.d (.sl (List.map (rtE (z := 4)) a1.fL))), (.d (.sl (List.map D.str a1.fKeys)))]))]) (fun z => f423_j99 k a0 a1 rc423 z = some r) rfl_le ?_ ?_
            · refine AWc.seq ?_
              refine AWc.rE hmix [] ?_
              rcases cc h with ⟨c94, h⟩ | ⟨c94, h⟩
              · refine AWc.cT c94 ?_
                refine AWc.rE hmix [] ?_
                exact ⟨([123, 125] : List UInt8), h, (inT [] [])⟩
              · refine AWc.cF c94 ?_
                refine AWc.skip ?_
                exact ⟨([91, 93] : List UInt8), h, (inT [] [])⟩
            · intro j99_1 h
              unfold f423_j99 at h
              refine AWc.seq ?_
              obtain ⟨b104, h⟩ := gd_some h
              obtain ⟨b106, h⟩ := gd_some h
              refine AWc.rE hmix [.sd b104, .apA byteD a0 ([(j99_1.getD ((0 : Int)).toNat 0)] : List UInt8) 1 (fun _ => rfl) b106] ?_
              refine AWc.seqS (N := 76) 2 (fun (z : (List UInt8)) => [(0, (.ap 1 1 (List.map byteD z))), (5, (.d (.str j99_1)))]) (fun z => [(1, (.tok ((List.map byteD z).length * 1)))]) (fun z => f423_j182 k j99_1 z = some r) rfl_le ?_ ?_
              · refine AWc.seq ?_
                refine AWc.rE hmix [.ln (rtE (z := 4)) a1.fL] ?_
                obtain ⟨o116, h116, h⟩ := bind_some h
                refine AWc.block ?_
                refine AWc.loopK (N := 76) 3 (fun (x : ((List UInt8) × Int)) => [(0, (.ap 1 1 (List.map byteD x.1))), (3, (.ptr 2 0)), (5, (.d (.str j99_1))), (43, (.d (.sl (List.map (rtE (z := 4)) a1.fL)))), (44, (.d (.int .i64 ((a1.fL.length : Nat) : Int)))), (45, (.d (.int .i64 x.2)))]) (fun x => [(1, (.tok ((List.map byteD x.1).length * 1))), (2, (.cells [(.d (.int .i64 a1.fKind)), (.d (.str a1.fText)), (.d (.sl (List.map (rtE (z := 4)) a1.fL))), (.d (.sl (List.map D.str a1.fKeys)))]))]) (fun k x => f423_l116 a1 rc423 k x.1 x.2 = some o116) k ((a0 ++ ([(j99_1.getD ((0 : Int)).toNat 0)] : List UInt8)), (0 : Int)) rfl_le (fun x hx => by cases hx) h116 (inT [(1, 2), (2, 1)] []) ?_
                clear h116
                intro k
                rintro ⟨y116_1, y116_2⟩ h116
                dsimp only at h116 ⊢
                rw [f423_l116] at h116
                refine AWc.seq ?_
                refine AWc.rE hmix [] ?_
                refine AWc.seq ?_
                rcases cc h116 with ⟨c123, h116⟩ | ⟨c123, h116⟩
                · refine AWc.cT c123 ?_
                  refine AWc.skip ?_
                  refine AWc.seq ?_
                  refine AWc.block ?_
                  refine AWc.seq ?_
                  obtain ⟨b132, h116⟩ := gd_some h116
                  obtain ⟨rx132, ex132, h116⟩ := bind_some h116
                  refine AWc.rE hmix [.iadE (rtE (z := 4)) a1.fL 4 rtE_ok.len b132 (TJson.dec_eq ex132)] ?_
                  refine AWc.seqS (N := 76) 4 (fun (z : (List UInt8)) => [(0, (.ap 1 1 (List.map byteD z))), (3, (.ptr 2 0)), (5, (.d (.str j99_1))), (6, (.d (.int .i64 y116_2))), (7, (.ptr 3 0)), (43, (.d (.sl (List.map (rtE (z := 4)) a1.fL)))), (44, (.d (.int .i64 ((a1.fL.length : Nat) : Int)))), (45, (.d (.int .i64 y116_2)))]) (fun z => [(1, (.tok ((List.map byteD z).length * 1))), (2, (.cells [(.d (.int .i64 a1.fKind)), (.d (.str a1.fText)), (.d (.sl (List.map (rtE (z := 4)) a1.fL))), (.d (.sl (List.map D.str a1.fKeys)))])), (3, (.cells [(.d (.int .i64 rx132.fKind)), (.d (.str rx132.fText)), (.d (.sl (List.map (rtE (z := 4)) rx132.fL))), (.d (.sl (List.map D.str rx132.fKeys)))]))]) (fun z => f423_j151 (f423_l116 a1 rc423 k) k a1 y116_2 rc423 rx132 z = some o116) rfl_le ?_ ?_
                  · refine AWc.seq ?_
                    refine AWc.rE hmix [] ?_
                    rcases cc h116 with ⟨c143, h116⟩ | ⟨c143, h116⟩
                    · refine AWc.cT c143 ?_
                      obtain ⟨b148, h116⟩ := gd_some h116
                      refine AWc.rE hmix [.apA byteD y116_1 ([(44 : UInt8)] : List UInt8) 1 (fun _ => rfl) b148] ?_
                      exact ⟨(y116_1 ++ ([(44 : UInt8)] : List UInt8)), h116, (inT [(1, 4)] [])⟩
                    · refine AWc.cF c143 ?_
                      refine AWc.skip ?_
                      exact ⟨y116_1, h116, (inT [] [])⟩
                  · intro j151_1 h116
                    unfold f423_j151 at h116
                    refine AWc.seqS (N := 76) 4 (fun (z : (List UInt8)) => [(0, (.ap 1 1 (List.map byteD z))), (3, (.ptr 2 0)), (5, (.d (.str j99_1))), (7, (.ptr 3 0)), (43, (.d (.sl (List.map (rtE (z := 4)) a1.fL)))), (44, (.d (.int .i64 ((a1.fL.length : Nat) : Int)))), (45, (.d (.int .i64 y116_2)))]) (fun z => [(1, (.tok ((List.map byteD z).length * 1))), (2, (.cells [(.d (.int .i64 a1.fKind)), (.d (.str a1.fText)), (.d (.sl (List.map (rtE (z := 4)) a1.fL))), (.d (.sl (List.map D.str a1.fKeys)))])), (3, (.cells [(.d (.int .i64 rx132.fKind)), (.d (.str rx132.fText)), (.d (.sl (List.map (rtE (z := 4)) rx132.fL))), (.d (.sl (List.map D.str rx132.fKeys)))]))]) (fun z => f423_j172 (f423_l116 a1 rc423 k) k rc423 rx132 y116_2 z = some o116) rfl_le ?_ ?_
                    · refine AWc.seq ?_
                      refine AWc.rE hmix [] ?_
                      rcases cc h116 with ⟨c158, h116⟩ | ⟨c158, h116⟩
                      · refine AWc.cT c158 ?_
                        obtain ⟨b165, h116⟩ := gd_some h116
                        obtain ⟨r167, e167, h116⟩ := bind_some h116
                        obtain ⟨b169, h116⟩ := gd_some h116
                        refine AWc.rE hmix [.iad D.str a1.fKeys 1 (fun _ => rfl) b165, .call (F424 hmix hc.2 e167) [(0, 1), (1, 4)] 2, .apA byteD r167 ([(58 : UInt8)] : List UInt8) 1 (fun _ => rfl) b169] ?_
                        exact ⟨(r167 ++ ([(58 : UInt8)] : List UInt8)), h116, (inT [(1, 5)] [])⟩
                      · refine AWc.cF c158 ?_
                        refine AWc.skip ?_
                        exact ⟨j151_1, h116, (inT [] [])⟩
                    · intro j172_1 h116
                      unfold f423_j172 at h116
                      obtain ⟨r176, e176, h116⟩ := bind_some h116
                      refine AWc.rE hmix [.call (hrc423 _ _ _ e176) [(0, 1), (1, 4)] 2] ?_
                      refine AWc.rE hmix [] ?_
                      exact ⟨(r176, (IntKind.i64.wrap (y116_2 + (1 : Int)))), h116, (inT [(1, 4)] [])⟩
                · refine AWc.cF c123 ?_
                  cases h116
                  dsimp only at h
                  refine AWc.exit ?_
                  refine inBlk_eq ?_
                  exact ⟨y116_1, h, (inT [] [])⟩
              · intro j182_1 h
                unfold f423_j182 at h
                refine AWc.seq ?_
                obtain ⟨b187, h⟩ := gd_some h
                obtain ⟨b189, h⟩ := gd_some h
                refine AWc.rE hmix [.sd b187, .apA byteD j182_1 ([(j99_1.getD ((1 : Int)).toNat 0)] : List UInt8) 1 (fun _ => rfl) b189] ?_
                have hr := Option.some.inj h
                subst hr
                exact AWc.ret (canQ (N := 76) (k := 2) (l' := [(4, (.ap 1 1 (List.map byteD (j182_1 ++ ([(j99_1.getD ((1 : Int)).toNat 0)] : List UInt8)))))]) (H' := [(1, (.tok ((List.map byteD (j182_1 ++ ([(j99_1.getD ((1 : Int)).toNat 0)] : List UInt8))).length * 1)))]) rfl (inT [(1, 2)] []) (doneA (.inr rfl) rfl ⟨trivial, trivial⟩ (.refl _) (hasCons rfl hasNil)))
def f423 : Nat → (List UInt8) → TJson → Option (List UInt8)
  | 0, _, _ => none
  | k + 1, a0, a1 => f423_s (f423 k) k a0 a1
theorem F423 {P : Program} {N : Nat → Nat} (hmix : P.follows .mixedOrders = true) (hc : HC423 P N) {k : Nat} {a0 : (List UInt8)} {a1 : TJson} {r : (List UInt8)} (h : f423 k a0 a1 = some r) :
    ACalls P (N 423) [(.ap 0 1 (List.map byteD a0)), (.d (TJson.enc a1))] [(0, (.tok ((List.map byteD a0).length * 1)))] (.ap 1 1 (List.map byteD r)) [(1, (.tok ((List.map byteD r).length * 1)))] := by
  induction k generalizing a0 a1 r with
  | zero => exact absurd (show (none : Option _) = some r from h) (fun h2 => by cases h2)
  | succ k ih => exact F423_s hmix hc (fun _ _ _ h => ih h) h
/-- courant/json.Print -/
def C421 (N : Nat → Nat) : AFunc := { n := 9, params := 1, res := [.tmp 2], body :=
 (.seq (.region false [⟨(some 1), .box (.t 0), none, []⟩,
   ⟨(some 2), .mv (.k (.d (.str []))), none, []⟩])
  (.seq (.seq (.region false [⟨(some 3), .load (.t 1) 4 true, none, []⟩,
     ⟨(some 4), .call (.k (.d (.fn (N 422)))) [(.t 3)], none, [0]⟩,
     ⟨(some 5), .un .not (.t 4), none, [1]⟩])
    (.cond (.t 5) (.seq (.region false [⟨(some 2), .mv (.k (.d (.str []))), none, []⟩])
      .ret)
     (.skip)))
   (.seq (.region false [⟨(some 6), .load (.t 1) 4 true, none, []⟩,
     ⟨(some 7), .call (.k (.d (.fn (N 423)))) [(.k .nils), (.t 6)], none, [0]⟩,
     ⟨(some 8), .bs2s (.t 7), none, [1]⟩,
     ⟨(some 2), .mv (.t 8), none, [2, 1, 0]⟩])
    .ret))) }
def HC421 (P : Program) (N : Nat → Nat) : Prop := HasF P (N 421) (C421 N) ∧ HC422 P N ∧ HC423 P N
def f421 (k : Nat) (a0 : TJson) : Option (List UInt8) := (f422 k (TJson.mk a0.fKind a0.fText a0.fL a0.fKeys)).bind fun r11 => cond (!r11) (some ([] : List UInt8)) ((f423 k ([] : List UInt8) (TJson.mk a0.fKind a0.fText a0.fL a0.fKeys)).bind fun r24 => some r24)
theorem F421 {P : Program} {N : Nat → Nat} (hmix : P.follows .mixedOrders = true) (hc : HC421 P N) {k : Nat} {a0 : TJson} {r : (List UInt8)} (h : f421 k a0 = some r) :
    ACalls P (N 421) [(.d (TJson.enc a0))] [] (.d (.str r)) [] := by
  refine acalls_canon (F := C421 N) hc.1 0 0 rfl ?_
  unfold f421 at h
  dsimp only [C421, startL]
  refine AWc.seq ?_
  refine AWc.rE hmix [] ?_
  refine AWc.seq ?_
  refine AWc.seq ?_
  obtain ⟨r11, e11, h⟩ := bind_some h
  refine AWc.rE hmix [.call (F422 hmix hc.2.1 e11) [] 0] ?_
  rcases cc h with ⟨c13, h⟩ | ⟨c13, h⟩
  · refine AWc.cT c13 ?_
    refine AWc.seq ?_
    refine AWc.rE hmix [] ?_
    have hr := Option.some.inj h
    subst hr
    exact AWc.ret (canQ (N := 9) (k := 0) (l' := [(2, (.d (.str ([] : List UInt8))))]) (H' := []) rfl (inT [] []) (doneA (.inr rfl) rfl ⟨trivial, trivial⟩ (.refl _) hasNil))
  · refine AWc.cF c13 ?_
    refine AWc.skip ?_
    refine AWc.seq ?_
    obtain ⟨r24, e24, h⟩ := bind_some h
    refine AWc.rE hmix [.call (ACalls.nilA (F423 hmix hc.2.2 e24) 0 0 1) [] 2, .bs r24] ?_
    have hr := Option.some.inj h
    subst hr
    exact AWc.ret (canQ (N := 9) (k := 0) (l' := [(2, (.d (.str r24)))]) (H' := []) rfl (inT [] []) (doneA (.inr rfl) rfl ⟨trivial, trivial⟩ (.refl _) hasNil))
/-- courant/courantlaw02.awake -/
def C395 (N : Nat → Nat) : AFunc := { n := 20, params := 0, res := [.tmp 0], body :=
 (.seq (.region false [⟨(some 0), .mv (.k (.d (.bool false))), none, []⟩])
  (.seq (.region false [⟨(some 4), .call (.k (.d (.fn (N 396)))) [(.k (.d (.str [91, 49, 44, 32, 34, 97, 34, 93])))], none, []⟩,
    ⟨(some 3), .mv (.t 4), none, [0]⟩,
    ⟨(some 5), .ext (.t 3) 0, none, [1]⟩,
    ⟨(some 6), .ext (.t 3) 1, none, [1]⟩,
    ⟨(some 1), .alloc [(.int .i64 0), (.str []), (.sl []), (.sl [])], none, []⟩,
    ⟨none, .store (.t 1) (.t 5) 4, none, [4, 2, 0, 1]⟩,
    ⟨(some 2), .mv (.t 6), none, [3, 5, 0, 1, 2, 4]⟩])
   (.seq (.region false [⟨(some 7), .mv (.t 2), none, []⟩,
     ⟨(some 8), .bin .eql (.t 7) (.k (.d (.int .i64 0))), none, [0]⟩,
     ⟨(some 9), .mv (.t 8), none, [1]⟩,
     ⟨(some 10), .faddr (.t 1) 2, (some (9, true)), [2]⟩,
     ⟨(some 11), .load (.t 10) 1 false, (some (9, true)), [3, 2]⟩,
     ⟨(some 12), .len (.t 11), (some (9, true)), [4, 2]⟩,
     ⟨(some 13), .bin .eql (.t 12) (.k (.d (.int .i64 2))), (some (9, true)), [5, 2]⟩,
     ⟨(some 14), .pick (.t 9) (.t 13) (.k (.d (.bool false))), none, [2, 6]⟩,
     ⟨(some 15), .mv (.t 14), none, [7, 2]⟩,
     ⟨(some 16), .load (.t 1) 4 true, (some (15, true)), [8]⟩,
     ⟨(some 17), .call (.k (.d (.fn (N 421)))) [(.t 16)], (some (15, true)), [9, 8]⟩,
     ⟨(some 18), .bin .eql (.t 17) (.k (.d (.str [91, 49, 44, 34, 97, 34, 93]))), (some (15, true)), [10, 8]⟩,
     ⟨(some 19), .pick (.t 15) (.t 18) (.k (.d (.bool false))), none, [8, 11]⟩,
     ⟨(some 0), .mv (.t 19), none, [12, 10, 0, 1, 2, 3, 4, 5, 6, 7, 8, 9, 11]⟩])
    .ret))) }
def HC395 (P : Program) (N : Nat → Nat) : Prop := HasF P (N 395) (C395 N) ∧ HC396 P N ∧ HC421 P N
def f395 (k : Nat) : Option Bool := (f396 k ([91, 49, 44, 32, 34, 97, 34, 93] : List UInt8)).bind fun r8 => cond (decide (r8.1 = (0 : Int))) (cond (decide (((r8.2.2.2.1.length : Nat) : Int) = (2 : Int))) ((f421 k (TJson.mk r8.2.1 r8.2.2.1 r8.2.2.2.1 r8.2.2.2.2)).bind fun r28 => some (decide (r28 = ([91, 49, 44, 34, 97, 34, 93] : List UInt8)))) (some false)) (some false)
theorem F395 {P : Program} {N : Nat → Nat} (hmix : P.follows .mixedOrders = true) (hc : HC395 P N) {k : Nat} {r : Bool} (h : f395 k = some r) :
    ACalls P (N 395) [] [] (.d (.bool r)) [] := by
  refine acalls_canon (F := C395 N) hc.1 0 0 rfl ?_
  unfold f395 at h
  dsimp only [C395, startL]
  refine AWc.seq ?_
  refine AWc.rE hmix [] ?_
  refine AWc.seq ?_
  obtain ⟨r8, e8, h⟩ := bind_some h
  refine AWc.rE hmix [.call (F396 hmix hc.2.1 e8) [] 0] ?_
  refine AWc.seq ?_
  rcases cc h with ⟨c20, h⟩ | ⟨c20, h⟩
  · rcases cc h with ⟨c26, h⟩ | ⟨c26, h⟩
    · obtain ⟨r28, e28, h⟩ := bind_some h
      refine AWc.rE hmix [.br c20, .ln (rtE (z := 4)) r8.2.2.2.1, .br c26, .call (F421 hmix hc.2.2 e28) [] 0] ?_
      have hr := Option.some.inj h
      subst hr
      exact AWc.ret (canQ (N := 20) (k := 0) (l' := [(0, (.d (.bool (decide (r28 = ([91, 49, 44, 34, 97, 34, 93] : List UInt8))))))]) (H' := []) rfl (inT [] []) (doneA (.inr rfl) rfl ⟨trivial, trivial⟩ (.refl _) hasNil))
    · refine AWc.rE hmix [.br c20, .ln (rtE (z := 4)) r8.2.2.2.1, .br c26] ?_
      have hr := Option.some.inj h
      subst hr
      exact AWc.ret (canQ (N := 20) (k := 0) (l' := [(0, (.d (.bool false)))]) (H' := []) rfl (inT [] []) (doneA (.inr rfl) rfl ⟨trivial, trivial⟩ (.refl _) hasNil))
  · refine AWc.rE hmix [.br c20, .br (rfl : false = false)] ?_
    have hr := Option.some.inj h
    subst hr
    exact AWc.ret (canQ (N := 20) (k := 0) (l' := [(0, (.d (.bool false)))]) (H' := []) rfl (inT [] []) (doneA (.inr rfl) rfl ⟨trivial, trivial⟩ (.refl _) hasNil))
def RH296 (P : Program) (N : Nat → Nat) (rc296 : (List UInt8) → Int → Int → Int → Option (Int × (List UInt8) × (List (RT 4)) × (List (List UInt8)) × Int × Int)) : Prop := ∀ (a0 : (List UInt8)) (a1 : Int) (a2 : Int) (a3 : Int) (r : (Int × (List UInt8) × (List (RT 4)) × (List (List UInt8)) × Int × Int)), rc296 a0 a1 a2 a3 = some r → ACalls P (N 296) [(.ptr 0 0), (.d (.int .i64 a3))] [(0, (.cells [(.d (.str a0)), (.d (.int .i64 a1)), (.d (.int .i64 a2))]))] (.d (.agg [(.int .i64 r.1), (.str r.2.1), (.sl (List.map (rtE (z := 4)) r.2.2.1)), (.sl (List.map D.str r.2.2.2.1))])) [(0, (.cells [(.d (.str a0)), (.d (.int .i64 r.2.2.2.2.1)), (.d (.int .i64 r.2.2.2.2.2))]))]
/-- (*courant/courantref02.reader).white -/
def C297 (N : Nat → Nat) : AFunc := { n := 67, params := 1, res := [], body :=
 (.block 0 (.loop (.seq (.seq (.region true [⟨(some 2), .mv (.t 0), none, []⟩,
      ⟨(some 3), .nilchk (.t 2), none, [0]⟩,
      ⟨(some 4), .faddr (.t 3) 1, none, [1]⟩,
      ⟨(some 5), .load (.t 4) 1 false, none, [2]⟩,
      ⟨(some 6), .mv (.t 0), none, []⟩,
      ⟨(some 7), .nilchk (.t 6), none, [4]⟩,
      ⟨(some 8), .faddr (.t 7) 0, none, [5]⟩,
      ⟨(some 9), .load (.t 8) 1 false, none, [6]⟩,
      ⟨(some 10), .slen (.t 9), none, [7]⟩,
      ⟨(some 11), .bin .lss (.t 5) (.t 10), none, [3, 8]⟩,
      ⟨(some 12), .mv (.t 11), none, [9]⟩,
      ⟨(some 13), .mv (.t 0), (some (12, true)), [10]⟩,
      ⟨(some 14), .nilchk (.t 13), (some (12, true)), [11, 10]⟩,
      ⟨(some 15), .faddr (.t 14) 0, (some (12, true)), [12, 10]⟩,
      ⟨(some 16), .load (.t 15) 1 false, (some (12, true)), [13, 10]⟩,
      ⟨(some 17), .mv (.t 0), (some (12, true)), [10]⟩,
      ⟨(some 18), .nilchk (.t 17), (some (12, true)), [15, 10]⟩,
      ⟨(some 19), .faddr (.t 18) 1, (some (12, true)), [16, 10]⟩,
      ⟨(some 20), .load (.t 19) 1 false, (some (12, true)), [17, 10]⟩,
      ⟨(some 21), .idx (.t 16) (.t 20), (some (12, true)), [14, 18, 10]⟩,
      ⟨(some 22), .bin .eql (.t 21) (.k (.d (.int .u8 32))), (some (12, true)), [19, 10]⟩,
      ⟨(some 23), .mv (.t 22), (some (12, true)), [20, 10]⟩,
      ⟨(some 24), .mv (.t 0), (some (23, false)), [21]⟩,
      ⟨(some 25), .nilchk (.t 24), (some (23, false)), [22, 21]⟩,
      ⟨(some 26), .faddr (.t 25) 0, (some (23, false)), [23, 21]⟩,
      ⟨(some 27), .load (.t 26) 1 false, (some (23, false)), [24, 21]⟩,
      ⟨(some 28), .mv (.t 0), (some (23, false)), [21]⟩,
      ⟨(some 29), .nilchk (.t 28), (some (23, false)), [26, 21]⟩,
      ⟨(some 30), .faddr (.t 29) 1, (some (23, false)), [27, 21]⟩,
      ⟨(some 31), .load (.t 30) 1 false, (some (23, false)), [28, 21]⟩,
      ⟨(some 32), .idx (.t 27) (.t 31), (some (23, false)), [25, 29, 21]⟩,
      ⟨(some 33), .bin .eql (.t 32) (.k (.d (.int .u8 9))), (some (23, false)), [30, 21]⟩,
      ⟨(some 34), .pick (.t 23) (.k (.d (.bool true))) (.t 33), (some (12, true)), [21, 31, 10]⟩,
      ⟨(some 35), .mv (.t 34), (some (12, true)), [32, 21, 10]⟩,
      ⟨(some 36), .mv (.t 0), (some (35, false)), [33]⟩,
      ⟨(some 37), .nilchk (.t 36), (some (35, false)), [34, 33]⟩,
      ⟨(some 38), .faddr (.t 37) 0, (some (35, false)), [35, 33]⟩,
      ⟨(some 39), .load (.t 38) 1 false, (some (35, false)), [36, 33]⟩,
      ⟨(some 40), .mv (.t 0), (some (35, false)), [33]⟩,
      ⟨(some 41), .nilchk (.t 40), (some (35, false)), [38, 33]⟩,
      ⟨(some 42), .faddr (.t 41) 1, (some (35, false)), [39, 33]⟩,
      ⟨(some 43), .load (.t 42) 1 false, (some (35, false)), [40, 33]⟩,
      ⟨(some 44), .idx (.t 39) (.t 43), (some (35, false)), [37, 41, 33]⟩,
      ⟨(some 45), .bin .eql (.t 44) (.k (.d (.int .u8 10))), (some (35, false)), [42, 33]⟩,
      ⟨(some 46), .pick (.t 35) (.k (.d (.bool true))) (.t 45), (some (12, true)), [33, 43, 10]⟩,
      ⟨(some 47), .mv (.t 46), (some (12, true)), [44, 33, 10]⟩,
      ⟨(some 48), .mv (.t 0), (some (47, false)), [45]⟩,
      ⟨(some 49), .nilchk (.t 48), (some (47, false)), [46, 45]⟩,
      ⟨(some 50), .faddr (.t 49) 0, (some (47, false)), [47, 45]⟩,
      ⟨(some 51), .load (.t 50) 1 false, (some (47, false)), [48, 45]⟩,
      ⟨(some 52), .mv (.t 0), (some (47, false)), [45]⟩,
      ⟨(some 53), .nilchk (.t 52), (some (47, false)), [50, 45]⟩,
      ⟨(some 54), .faddr (.t 53) 1, (some (47, false)), [51, 45]⟩,
      ⟨(some 55), .load (.t 54) 1 false, (some (47, false)), [52, 45]⟩,
      ⟨(some 56), .idx (.t 51) (.t 55), (some (47, false)), [49, 53, 45]⟩,
      ⟨(some 57), .bin .eql (.t 56) (.k (.d (.int .u8 13))), (some (47, false)), [54, 45]⟩,
      ⟨(some 58), .pick (.t 47) (.k (.d (.bool true))) (.t 57), (some (12, true)), [45, 55, 10]⟩,
      ⟨(some 59), .pick (.t 12) (.t 58) (.k (.d (.bool false))), none, [10, 56]⟩])
     (.cond (.t 59) (.skip)
      (.exit 0)))
    (.block 1 (.region false [⟨(some 60), .mv (.t 0), none, []⟩,
      ⟨(some 61), .nilchk (.t 60), none, [0]⟩,
      ⟨(some 62), .faddr (.t 61) 1, none, [1]⟩,
      ⟨(some 63), .load (.t 62) 1 false, none, [2]⟩,
      ⟨(some 64), .bin .add (.t 63) (.k (.d (.int .i64 1))), none, [3]⟩,
      ⟨(some 65), .nilchk (.t 60), none, [0, 1, 2, 3, 4]⟩,
      ⟨(some 66), .faddr (.t 65) 1, none, [5, 0, 1, 2, 3, 4]⟩,
      ⟨none, .store (.t 66) (.t 64) 1, none, [6, 4, 0, 1, 2, 3]⟩]))))) }
def HC297 (P : Program) (N : Nat → Nat) : Prop := HasF P (N 297) (C297 N)
def f297_j68 (L : Int → Option (LR2 Int Unit Int)) (k : Nat) (y1_1 : Int) (j68_1 : Bool) (j68_2 : Bool) (j68_3 : Bool) (j68_4 : Bool) (j68_5 : Bool) (j68_6 : Bool) : Option (LR2 Int Unit Int) := L (IntKind.i64.wrap (y1_1 + (1 : Int)))
def f297_l1 (a0 : (List UInt8)) : Nat → Int → Option (LR2 Int Unit Int)
  | 0, _ => none
  | k + 1, y1_1 => cond (decide (y1_1 < ((a0.length : Nat) : Int))) (gd (0 ≤ y1_1 ∧ y1_1 < ((a0.length : Nat) : Int)) (cond (decide ((((a0.getD (y1_1).toNat 0).toNat : Nat) : Int) = (32 : Int))) (f297_j68 (f297_l1 a0 k) k y1_1 true true true true true true) (gd (0 ≤ y1_1 ∧ y1_1 < ((a0.length : Nat) : Int)) (cond (decide ((((a0.getD (y1_1).toNat 0).toNat : Nat) : Int) = (9 : Int))) (f297_j68 (f297_l1 a0 k) k y1_1 false (decide ((((a0.getD (y1_1).toNat 0).toNat : Nat) : Int) = (9 : Int))) true true true true) (gd (0 ≤ y1_1 ∧ y1_1 < ((a0.length : Nat) : Int)) (cond (decide ((((a0.getD (y1_1).toNat 0).toNat : Nat) : Int) = (10 : Int))) (f297_j68 (f297_l1 a0 k) k y1_1 false (decide ((((a0.getD (y1_1).toNat 0).toNat : Nat) : Int) = (9 : Int))) false (decide ((((a0.getD (y1_1).toNat 0).toNat : Nat) : Int) = (10 : Int))) true true) (gd (0 ≤ y1_1 ∧ y1_1 < ((a0.length : Nat) : Int)) (cond (decide ((((a0.getD (y1_1).toNat 0).toNat : Nat) : Int) = (13 : Int))) (f297_j68 (f297_l1 a0 k) k y1_1 false (decide ((((a0.getD (y1_1).toNat 0).toNat : Nat) : Int) = (9 : Int))) false (decide ((((a0.getD (y1_1).toNat 0).toNat : Nat) : Int) = (10 : Int))) false (decide ((((a0.getD (y1_1).toNat 0).toNat : Nat) : Int) = (13 : Int)))) (some (.b0 y1_1)))))))))) (some (.b0 y1_1))
def f297 (k : Nat) (a0 : (List UInt8)) (a1 : Int) (a2 : Int) : Option Int := (f297_l1 a0 k a1).bind fun o1 => (match o1 with | .b0 x1_1 => some x1_1 | _ => none)
theorem F297 {P : Program} {N : Nat → Nat} (hmix : P.follows .mixedOrders = true) (hc : HC297 P N) {k : Nat} {a0 : (List UInt8)} {a1 : Int} {a2 : Int} {r : Int} (h : f297 k a0 a1 a2 = some r) :
    ACalls P (N 297) [(.ptr 0 0)] [(0, (.cells [(.d (.str a0)), (.d (.int .i64 a1)), (.d (.int .i64 a2))]))] (.tup []) [(0, (.cells [(.d (.str a0)), (.d (.int .i64 r)), (.d (.int .i64 a2))]))] := by
  refine acalls_canon (F := C297 N) hc 1 1 rfl ?_
  unfold f297 at h
  dsimp only [C297, startL]
  obtain ⟨o1, h1, h⟩ := bind_some h
  refine AWc.block ?_
  refine AWc.loopK (N := 67) 1 (fun (x : Int) => [(0, (.ptr 0 0))]) (fun x => [(0, (.cells [(.d (.str a0)), (.d (.int .i64 x)), (.d (.int .i64 a2))]))]) (fun k x => f297_l1 a0 k x = some o1) k a1 rfl_le (fun x hx => by cases hx) h1 (inT [] []) ?_
  clear h1
  intro k
  intro y1_1 h1
  rw [f297_l1] at h1
  refine AWc.seqS (N := 67) 1 (fun (z : (Bool × Bool × Bool × Bool × Bool × Bool)) => [(0, (.ptr 0 0)), (13, (.ptr 0 0)), (14, (.ptr 0 0)), (15, (.ptr 0 0)), (16, (.d (.str a0))), (17, (.ptr 0 0)), (18, (.ptr 0 0)), (19, (.ptr 0 1)), (20, (.d (.int .i64 y1_1))), (21, (.d (.int .u8 (((a0.getD (y1_1).toNat 0).toNat : Nat) : Int)))), (22, (.d (.bool (decide ((((a0.getD (y1_1).toNat 0).toNat : Nat) : Int) = (32 : Int)))))), (23, (.d (.bool z.1))), (24, .any), (25, .any), (26, .any), (27, .any), (28, .any), (29, .any), (30, .any), (31, .any), (32, .any), (33, .any), (34, (.d (.bool z.2.1))), (35, (.d (.bool z.2.2.1))), (36, .any), (37, .any), (38, .any), (39, .any), (40, .any), (41, .any), (42, .any), (43, .any), (44, .any), (45, .any), (46, (.d (.bool z.2.2.2.1))), (47, (.d (.bool z.2.2.2.2.1))), (48, .any), (49, .any), (50, .any), (51, .any), (52, .any), (53, .any), (54, .any), (55, .any), (56, .any), (57, .any), (58, (.d (.bool z.2.2.2.2.2)))]) (fun z => [(0, (.cells [(.d (.str a0)), (.d (.int .i64 y1_1)), (.d (.int .i64 a2))]))]) (fun z => f297_j68 (f297_l1 a0 k) k y1_1 z.1 z.2.1 z.2.2.1 z.2.2.2.1 z.2.2.2.2.1 z.2.2.2.2.2 = some o1) rfl_le ?_ ?_
  · refine AWc.seq ?_
    rcases cc h1 with ⟨c17, h1⟩ | ⟨c17, h1⟩
    · obtain ⟨b26, h1⟩ := gd_some h1
      rcases cc h1 with ⟨c28, h1⟩ | ⟨c28, h1⟩
      · refine AWc.rE hmix [.br c17, .sd b26, .br c28, .br (rfl : true = true), .br (rfl : true = true)] ?_
        refine AWc.cT rfl ?_
        refine AWc.skip ?_
        exact ⟨(true, true, true, true, true, true), h1, (inT [] [])⟩
      · obtain ⟨b37, h1⟩ := gd_some h1
        rcases cc h1 with ⟨c40, h1⟩ | ⟨c40, h1⟩
        · refine AWc.rE hmix [.br c17, .sd b26, .br c28, .sd b37, .br c40, .br (rfl : true = true)] ?_
          refine AWc.cT rfl ?_
          refine AWc.skip ?_
          exact ⟨(false, (decide ((((a0.getD (y1_1).toNat 0).toNat : Nat) : Int) = (9 : Int))), true, true, true, true), h1, (inT [] [])⟩
        · obtain ⟨b49, h1⟩ := gd_some h1
          rcases cc h1 with ⟨c52, h1⟩ | ⟨c52, h1⟩
          · refine AWc.rE hmix [.br c17, .sd b26, .br c28, .sd b37, .br c40, .sd b49, .br c52] ?_
            refine AWc.cT rfl ?_
            refine AWc.skip ?_
            exact ⟨(false, (decide ((((a0.getD (y1_1).toNat 0).toNat : Nat) : Int) = (9 : Int))), false, (decide ((((a0.getD (y1_1).toNat 0).toNat : Nat) : Int) = (10 : Int))), true, true), h1, (inT [] [])⟩
          · obtain ⟨b61, h1⟩ := gd_some h1
            refine AWc.rE hmix [.br c17, .sd b26, .br c28, .sd b37, .br c40, .sd b49, .br c52, .sd b61] ?_
            rcases cc h1 with ⟨c65, h1⟩ | ⟨c65, h1⟩
            · refine AWc.cT c65 ?_
              refine AWc.skip ?_
              exact ⟨(false, (decide ((((a0.getD (y1_1).toNat 0).toNat : Nat) : Int) = (9 : Int))), false, (decide ((((a0.getD (y1_1).toNat 0).toNat : Nat) : Int) = (10 : Int))), false, (decide ((((a0.getD (y1_1).toNat 0).toNat : Nat) : Int) = (13 : Int)))), h1, (inT [] [])⟩
            · refine AWc.cF c65 ?_
              cases h1
              dsimp only at h
              refine AWc.exit ?_
              refine inBlk_eq ?_
              have hr := Option.some.inj h
              subst hr
              exact canQ (N := 67) (k := 1) (l' := []) (H' := [(0, (.cells [(.d (.str a0)), (.d (.int .i64 y1_1)), (.d (.int .i64 a2))]))]) rfl (inT [] []) (doneA (.inl rfl) rfl trivial (.refl _) (hasCons rfl hasNil))
    · refine AWc.rE hmix [.br c17] ?_
      refine AWc.cF rfl ?_
      cases h1
      dsimp only at h
      refine AWc.exit ?_
      refine inBlk_eq ?_
      have hr := Option.some.inj h
      subst hr
      exact canQ (N := 67) (k := 1) (l' := []) (H' := [(0, (.cells [(.d (.str a0)), (.d (.int .i64 y1_1)), (.d (.int .i64 a2))]))]) rfl (inT [] []) (doneA (.inl rfl) rfl trivial (.refl _) (hasCons rfl hasNil))
  · rintro ⟨j68_1, j68_2, j68_3, j68_4, j68_5, j68_6⟩ h1
    dsimp only at h1 ⊢
    unfold f297_j68 at h1
    refine AWc.block ?_
    refine AWc.rE hmix [] ?_
    exact ⟨(IntKind.i64.wrap (y1_1 + (1 : Int))), h1, (inT [] [])⟩
/-- (*courant/courantref02.reader).fail -/
def C298 (N : Nat → Nat) : AFunc := { n := 13, params := 2, res := [], body :=
 (.seq (.region false [⟨(some 4), .mv (.t 0), none, []⟩,
   ⟨(some 5), .nilchk (.t 4), none, [0]⟩,
   ⟨(some 6), .faddr (.t 5) 2, none, [1]⟩,
   ⟨(some 7), .load (.t 6) 1 false, none, [2]⟩,
   ⟨(some 8), .bin .eql (.t 7) (.k (.d (.int .i64 0))), none, [3]⟩])
  (.cond (.t 8) (.region false [⟨(some 9), .mv (.t 0), none, []⟩,
    ⟨(some 10), .mv (.t 1), none, []⟩,
    ⟨(some 11), .nilchk (.t 9), none, [0, 1]⟩,
    ⟨(some 12), .faddr (.t 11) 2, none, [2, 0, 1]⟩,
    ⟨none, .store (.t 12) (.t 10) 1, none, [3, 1, 0]⟩])
   (.skip))) }
def HC298 (P : Program) (N : Nat → Nat) : Prop := HasF P (N 298) (C298 N)
def f298 (k : Nat) (a0 : (List UInt8)) (a1 : Int) (a2 : Int) (a3 : Int) : Option Int := cond (decide (a2 = (0 : Int))) (some a3) (some a2)
theorem F298 {P : Program} {N : Nat → Nat} (hmix : P.follows .mixedOrders = true) (hc : HC298 P N) {k : Nat} {a0 : (List UInt8)} {a1 : Int} {a2 : Int} {a3 : Int} {r : Int} (h : f298 k a0 a1 a2 a3 = some r) :
    ACalls P (N 298) [(.ptr 0 0), (.d (.int .i64 a3))] [(0, (.cells [(.d (.str a0)), (.d (.int .i64 a1)), (.d (.int .i64 a2))]))] (.tup []) [(0, (.cells [(.d (.str a0)), (.d (.int .i64 a1)), (.d (.int .i64 r))]))] := by
  refine acalls_canon (F := C298 N) hc 1 1 rfl ?_
  unfold f298 at h
  dsimp only [C298, startL]
  refine AWc.seq ?_
  refine AWc.rE hmix [] ?_
  rcases cc h with ⟨c9, h⟩ | ⟨c9, h⟩
  · refine AWc.cT c9 ?_
    refine AWc.rE hmix [] ?_
    have hr := Option.some.inj h
    subst hr
    exact canQ (N := 13) (k := 1) (l' := []) (H' := [(0, (.cells [(.d (.str a0)), (.d (.int .i64 a1)), (.d (.int .i64 a3))]))]) rfl (inT [] []) (doneA (.inl rfl) rfl trivial (.refl _) (hasCons rfl hasNil))
  · refine AWc.cF c9 ?_
    refine AWc.skip ?_
    have hr := Option.some.inj h
    subst hr
    exact canQ (N := 13) (k := 1) (l' := []) (H' := [(0, (.cells [(.d (.str a0)), (.d (.int .i64 a1)), (.d (.int .i64 a2))]))]) rfl (inT [] []) (doneA (.inl rfl) rfl trivial (.refl _) (hasCons rfl hasNil))
/-- (*courant/courantref02.reader).is -/
def C299 (N : Nat → Nat) : AFunc := { n := 48, params := 2, res := [.tmp 4], body :=
 (.seq (.region false [⟨(some 4), .mv (.k (.d (.bool false))), none, []⟩])
  (.seq (.seq (.region true [⟨(some 5), .mv (.t 0), none, []⟩,
     ⟨(some 6), .nilchk (.t 5), none, [0]⟩,
     ⟨(some 7), .faddr (.t 6) 0, none, [1]⟩,
     ⟨(some 8), .load (.t 7) 1 false, none, [2]⟩,
     ⟨(some 9), .slen (.t 8), none, [3]⟩,
     ⟨(some 10), .mv (.t 0), none, []⟩,
     ⟨(some 11), .nilchk (.t 10), none, [5]⟩,
     ⟨(some 12), .faddr (.t 11) 1, none, [6]⟩,
     ⟨(some 13), .load (.t 12) 1 false, none, [7]⟩,
     ⟨(some 14), .bin .sub (.t 9) (.t 13), none, [4, 8]⟩,
     ⟨(some 15), .mv (.t 1), none, []⟩,
     ⟨(some 16), .slen (.t 15), none, [10]⟩,
     ⟨(some 17), .bin .geq (.t 14) (.t 16), none, [9, 11]⟩,
     ⟨(some 18), .mv (.t 17), none, [12]⟩,
     ⟨(some 19), .mv (.t 0), (some (18, true)), [13]⟩,
     ⟨(some 20), .nilchk (.t 19), (some (18, true)), [14, 13]⟩,
     ⟨(some 21), .faddr (.t 20) 0, (some (18, true)), [15, 13]⟩,
     ⟨(some 22), .load (.t 21) 1 false, (some (18, true)), [16, 13]⟩,
     ⟨(some 23), .mv (.t 0), (some (18, true)), [13]⟩,
     ⟨(some 24), .nilchk (.t 23), (some (18, true)), [18, 13]⟩,
     ⟨(some 25), .faddr (.t 24) 1, (some (18, true)), [19, 13]⟩,
     ⟨(some 26), .load (.t 25) 1 false, (some (18, true)), [20, 13]⟩,
     ⟨(some 27), .mv (.t 0), (some (18, true)), [13]⟩,
     ⟨(some 28), .nilchk (.t 27), (some (18, true)), [22, 13]⟩,
     ⟨(some 29), .faddr (.t 28) 1, (some (18, true)), [23, 13]⟩,
     ⟨(some 30), .load (.t 29) 1 false, (some (18, true)), [24, 13]⟩,
     ⟨(some 31), .mv (.t 1), (some (18, true)), [13]⟩,
     ⟨(some 32), .slen (.t 31), (some (18, true)), [26, 13]⟩,
     ⟨(some 33), .bin .add (.t 30) (.t 32), (some (18, true)), [25, 27, 13]⟩,
     ⟨(some 34), .ssl (.t 22) (some (.t 26)) (some (.t 33)), (some (18, true)), [17, 21, 28, 13]⟩,
     ⟨(some 35), .mv (.t 1), (some (18, true)), [13]⟩,
     ⟨(some 36), .bin .eql (.t 34) (.t 35), (some (18, true)), [29, 30, 13]⟩,
     ⟨(some 37), .pick (.t 18) (.t 36) (.k (.d (.bool false))), none, [13, 31]⟩])
    (.cond (.t 37) (.seq (.region false [⟨(some 38), .mv (.t 0), none, []⟩,
       ⟨(some 39), .mv (.t 0), none, []⟩,
       ⟨(some 40), .nilchk (.t 39), none, [1]⟩,
       ⟨(some 41), .faddr (.t 40) 1, none, [2]⟩,
       ⟨(some 42), .load (.t 41) 1 false, none, [3]⟩,
       ⟨(some 43), .mv (.t 1), none, []⟩,
       ⟨(some 44), .slen (.t 43), none, [5]⟩,
       ⟨(some 45), .bin .add (.t 42) (.t 44), none, [4, 6]⟩,
       ⟨(some 46), .nilchk (.t 38), none, [0, 1, 2, 3, 4, 5, 6, 7]⟩,
       ⟨(some 47), .faddr (.t 46) 1, none, [8, 0, 1, 2, 3, 4, 5, 6, 7]⟩,
       ⟨none, .store (.t 47) (.t 45) 1, none, [9, 7, 0, 1, 2, 3, 4, 5, 6]⟩])
      (.seq (.region false [⟨(some 4), .mv (.k (.d (.bool true))), none, []⟩])
       .ret))
     (.skip)))
   (.seq (.region false [⟨(some 4), .mv (.k (.d (.bool false))), none, []⟩])
    .ret))) }
def HC299 (P : Program) (N : Nat → Nat) : Prop := HasF P (N 299) (C299 N)
def f299_j42 (k : Nat) (a1 : Int) (a3 : (List UInt8)) (j42_1 : Bool) : Option (Bool × Int) := cond j42_1 (some (true, (IntKind.i64.wrap (a1 + ((a3.length : Nat) : Int))))) (some (false, a1))
def f299 (k : Nat) (a0 : (List UInt8)) (a1 : Int) (a2 : Int) (a3 : (List UInt8)) : Option (Bool × Int) := cond (decide ((IntKind.i64.wrap (((a0.length : Nat) : Int) - a1)) ≥ ((a3.length : Nat) : Int))) (gd (0 ≤ a1 ∧ a1 ≤ (IntKind.i64.wrap (a1 + ((a3.length : Nat) : Int))) ∧ (IntKind.i64.wrap (a1 + ((a3.length : Nat) : Int))) ≤ ((a0.length : Nat) : Int)) (f299_j42 k a1 a3 (decide ((sl a0 a1 (IntKind.i64.wrap (a1 + ((a3.length : Nat) : Int)))) = a3)))) (f299_j42 k a1 a3 false)
theorem F299 {P : Program} {N : Nat → Nat} (hmix : P.follows .mixedOrders = true) (hc : HC299 P N) {k : Nat} {a0 : (List UInt8)} {a1 : Int} {a2 : Int} {a3 : (List UInt8)} {r : (Bool × Int)} (h : f299 k a0 a1 a2 a3 = some r) :
    ACalls P (N 299) [(.ptr 0 0), (.d (.str a3))] [(0, (.cells [(.d (.str a0)), (.d (.int .i64 a1)), (.d (.int .i64 a2))]))] (.d (.bool r.1)) [(0, (.cells [(.d (.str a0)), (.d (.int .i64 r.2)), (.d (.int .i64 a2))]))] := by
  refine acalls_canon (F := C299 N) hc 1 1 rfl ?_
  unfold f299 at h
  dsimp only [C299, startL]
  refine AWc.seq ?_
  refine AWc.rE hmix [] ?_
  refine AWc.seq ?_
  refine AWc.seqS (N := 48) 1 (fun (z : Bool) => [(0, (.ptr 0 0)), (1, (.d (.str a3))), (37, (.d (.bool z)))]) (fun z => [(0, (.cells [(.d (.str a0)), (.d (.int .i64 a1)), (.d (.int .i64 a2))]))]) (fun z => f299_j42 k a1 a3 z = some r) rfl_le ?_ ?_
  · rcases cc h with ⟨c22, h⟩ | ⟨c22, h⟩
    · obtain ⟨b38, h⟩ := gd_some h
      refine AWc.rE hmix [.br c22, .sd b38] ?_
      exact ⟨(decide ((sl a0 a1 (IntKind.i64.wrap (a1 + ((a3.length : Nat) : Int)))) = a3)), h, (inT [] [])⟩
    · refine AWc.rE hmix [.br c22] ?_
      exact ⟨false, h, (inT [] [])⟩
  · intro j42_1 h
    unfold f299_j42 at h
    rcases cc h with ⟨c42, h⟩ | ⟨c42, h⟩
    · refine AWc.cT c42 ?_
      refine AWc.seq ?_
      refine AWc.rE hmix [] ?_
      refine AWc.seq ?_
      refine AWc.rE hmix [] ?_
      have hr := Option.some.inj h
      subst hr
      exact AWc.ret (canQ (N := 48) (k := 1) (l' := [(4, (.d (.bool true)))]) (H' := [(0, (.cells [(.d (.str a0)), (.d (.int .i64 (IntKind.i64.wrap (a1 + ((a3.length : Nat) : Int))))), (.d (.int .i64 a2))]))]) rfl (inT [] []) (doneA (.inr rfl) rfl ⟨trivial, trivial⟩ (.refl _) (hasCons rfl hasNil)))
    · refine AWc.cF c42 ?_
      refine AWc.skip ?_
      refine AWc.seq ?_
      refine AWc.rE hmix [] ?_
      have hr := Option.some.inj h
      subst hr
      exact AWc.ret (canQ (N := 48) (k := 1) (l' := [(4, (.d (.bool false)))]) (H' := [(0, (.cells [(.d (.str a0)), (.d (.int .i64 a1)), (.d (.int .i64 a2))]))]) rfl (inT [] []) (doneA (.inr rfl) rfl ⟨trivial, trivial⟩ (.refl _) (hasCons rfl hasNil)))
/-- courant/courantref02.digit -/
def C303 (N : Nat → Nat) : AFunc := { n := 35, params := 1, res := [.tmp 2], body :=
 (.seq (.region false [⟨(some 2), .mv (.k (.d (.int .i64 0))), none, []⟩])
  (.seq (.block 0 (.seq (.region false [⟨(some 4), .mv (.t 0), none, []⟩,
      ⟨(some 5), .bin .geq (.t 4) (.k (.d (.int .u8 48))), none, [0]⟩,
      ⟨(some 6), .mv (.t 5), none, [1]⟩,
      ⟨(some 7), .mv (.t 0), (some (6, true)), [2]⟩,
      ⟨(some 8), .bin .leq (.t 7) (.k (.d (.int .u8 57))), (some (6, true)), [3, 2]⟩,
      ⟨(some 9), .pick (.t 6) (.t 8) (.k (.d (.bool false))), none, [2, 4]⟩,
      ⟨(some 3), .mv (.t 9), none, [5, 2]⟩])
     (.cond (.t 3) (.seq (.region false [⟨(some 10), .mv (.t 0), none, []⟩,
        ⟨(some 11), .bin .sub (.t 10) (.k (.d (.int .u8 48))), none, [0]⟩,
        ⟨(some 12), .cvi .i64 (.t 11), none, [1]⟩,
        ⟨(some 2), .mv (.t 12), none, [2, 0, 1]⟩])
       .ret)
      (.seq (.region false [⟨(some 14), .mv (.t 0), none, []⟩,
        ⟨(some 15), .bin .geq (.t 14) (.k (.d (.int .u8 97))), none, [0]⟩,
        ⟨(some 16), .mv (.t 15), none, [1]⟩,
        ⟨(some 17), .mv (.t 0), (some (16, true)), [2]⟩,
        ⟨(some 18), .bin .leq (.t 17) (.k (.d (.int .u8 102))), (some (16, true)), [3, 2]⟩,
        ⟨(some 19), .pick (.t 16) (.t 18) (.k (.d (.bool false))), none, [2, 4]⟩,
        ⟨(some 13), .mv (.t 19), none, [5, 2]⟩])
       (.cond (.t 13) (.seq (.region false [⟨(some 20), .mv (.t 0), none, []⟩,
          ⟨(some 21), .bin .sub (.t 20) (.k (.d (.int .u8 97))), none, [0]⟩,
          ⟨(some 22), .cvi .i64 (.t 21), none, [1]⟩,
          ⟨(some 23), .bin .add (.t 22) (.k (.d (.int .i64 10))), none, [2]⟩,
          ⟨(some 2), .mv (.t 23), none, [3, 0, 1, 2]⟩])
         .ret)
        (.seq (.region false [⟨(some 25), .mv (.t 0), none, []⟩,
          ⟨(some 26), .bin .geq (.t 25) (.k (.d (.int .u8 65))), none, [0]⟩,
          ⟨(some 27), .mv (.t 26), none, [1]⟩,
          ⟨(some 28), .mv (.t 0), (some (27, true)), [2]⟩,
          ⟨(some 29), .bin .leq (.t 28) (.k (.d (.int .u8 70))), (some (27, true)), [3, 2]⟩,
          ⟨(some 30), .pick (.t 27) (.t 29) (.k (.d (.bool false))), none, [2, 4]⟩,
          ⟨(some 24), .mv (.t 30), none, [5, 2]⟩])
         (.cond (.t 24) (.seq (.region false [⟨(some 31), .mv (.t 0), none, []⟩,
            ⟨(some 32), .bin .sub (.t 31) (.k (.d (.int .u8 65))), none, [0]⟩,
            ⟨(some 33), .cvi .i64 (.t 32), none, [1]⟩,
            ⟨(some 34), .bin .add (.t 33) (.k (.d (.int .i64 10))), none, [2]⟩,
            ⟨(some 2), .mv (.t 34), none, [3, 0, 1, 2]⟩])
           .ret)
          (.skip))))))))
   (.seq (.region false [⟨(some 2), .mv (.k (.d (.int .i64 (-1)))), none, []⟩])
    .ret))) }
def HC303 (P : Program) (N : Nat → Nat) : Prop := HasF P (N 303) (C303 N)
def f303_j56 (k : Nat) (a0 : UInt8) (j56_1 : Bool) : Option Int := cond j56_1 (some (IntKind.i64.wrap ((IntKind.i64.wrap (((u8 (IntKind.u8.wrap (((a0.toNat : Nat) : Int) - (65 : Int)))).toNat : Nat) : Int)) + (10 : Int)))) (some (-1 : Int))
def f303_j36 (k : Nat) (a0 : UInt8) (j36_1 : Bool) : Option Int := cond j36_1 (some (IntKind.i64.wrap ((IntKind.i64.wrap (((u8 (IntKind.u8.wrap (((a0.toNat : Nat) : Int) - (97 : Int)))).toNat : Nat) : Int)) + (10 : Int)))) (cond (decide (((a0.toNat : Nat) : Int) ≥ (65 : Int))) (f303_j56 k a0 (decide (((a0.toNat : Nat) : Int) ≤ (70 : Int)))) (f303_j56 k a0 false))
def f303_j17 (k : Nat) (a0 : UInt8) (j17_1 : Bool) : Option Int := cond j17_1 (some (IntKind.i64.wrap (((u8 (IntKind.u8.wrap (((a0.toNat : Nat) : Int) - (48 : Int)))).toNat : Nat) : Int))) (cond (decide (((a0.toNat : Nat) : Int) ≥ (97 : Int))) (f303_j36 k a0 (decide (((a0.toNat : Nat) : Int) ≤ (102 : Int)))) (f303_j36 k a0 false))
def f303 (k : Nat) (a0 : UInt8) : Option Int := cond (decide (((a0.toNat : Nat) : Int) ≥ (48 : Int))) (f303_j17 k a0 (decide (((a0.toNat : Nat) : Int) ≤ (57 : Int)))) (f303_j17 k a0 false)
theorem F303 {P : Program} {N : Nat → Nat} (hmix : P.follows .mixedOrders = true) (hc : HC303 P N) {k : Nat} {a0 : UInt8} {r : Int} (h : f303 k a0 = some r) :
    ACalls P (N 303) [(.d (.int .u8 ((a0.toNat : Nat) : Int)))] [] (.d (.int .i64 r)) [] := by
  refine acalls_canon (F := C303 N) hc 0 0 rfl ?_
  unfold f303 at h
  dsimp only [C303, startL]
  refine AWc.seq ?_
  refine AWc.rE hmix [] ?_
  refine AWc.seq ?_
  refine AWc.block ?_
  refine AWc.seqS (N := 35) 0 (fun (z : Bool) => [(0, (.d (.int .u8 ((a0.toNat : Nat) : Int)))), (3, (.d (.bool z)))]) (fun z => []) (fun z => f303_j17 k a0 z = some r) rfl_le ?_ ?_
  · rcases cc h with ⟨c12, h⟩ | ⟨c12, h⟩
    · refine AWc.rE hmix [.br c12] ?_
      exact ⟨(decide (((a0.toNat : Nat) : Int) ≤ (57 : Int))), h, (inT [] [])⟩
    · refine AWc.rE hmix [.br c12] ?_
      exact ⟨false, h, (inT [] [])⟩
  · intro j17_1 h
    unfold f303_j17 at h
    rcases cc h with ⟨c17, h⟩ | ⟨c17, h⟩
    · refine AWc.cT c17 ?_
      refine AWc.seq ?_
      refine AWc.rE hmix [] ?_
      have hr := Option.some.inj h
      subst hr
      exact AWc.ret (canQ (N := 35) (k := 0) (l' := [(2, (.d (.int .i64 (IntKind.i64.wrap (((u8 (IntKind.u8.wrap (((a0.toNat : Nat) : Int) - (48 : Int)))).toNat : Nat) : Int)))))]) (H' := []) rfl (inT [] []) (doneA (.inr rfl) rfl ⟨trivial, trivial⟩ (.refl _) hasNil))
    · refine AWc.cF c17 ?_
      refine AWc.seqS (N := 35) 0 (fun (z : Bool) => [(0, (.d (.int .u8 ((a0.toNat : Nat) : Int)))), (13, (.d (.bool z)))]) (fun z => []) (fun z => f303_j36 k a0 z = some r) rfl_le ?_ ?_
      · rcases cc h with ⟨c31, h⟩ | ⟨c31, h⟩
        · refine AWc.rE hmix [.br c31] ?_
          exact ⟨(decide (((a0.toNat : Nat) : Int) ≤ (102 : Int))), h, (inT [] [])⟩
        · refine AWc.rE hmix [.br c31] ?_
          exact ⟨false, h, (inT [] [])⟩
      · intro j36_1 h
        unfold f303_j36 at h
        rcases cc h with ⟨c36, h⟩ | ⟨c36, h⟩
        · refine AWc.cT c36 ?_
          refine AWc.seq ?_
          refine AWc.rE hmix [] ?_
          have hr := Option.some.inj h
          subst hr
          exact AWc.ret (canQ (N := 35) (k := 0) (l' := [(2, (.d (.int .i64 (IntKind.i64.wrap ((IntKind.i64.wrap (((u8 (IntKind.u8.wrap (((a0.toNat : Nat) : Int) - (97 : Int)))).toNat : Nat) : Int)) + (10 : Int))))))]) (H' := []) rfl (inT [] []) (doneA (.inr rfl) rfl ⟨trivial, trivial⟩ (.refl _) hasNil))
        · refine AWc.cF c36 ?_
          refine AWc.seqS (N := 35) 0 (fun (z : Bool) => [(0, (.d (.int .u8 ((a0.toNat : Nat) : Int)))), (24, (.d (.bool z)))]) (fun z => []) (fun z => f303_j56 k a0 z = some r) rfl_le ?_ ?_
          · rcases cc h with ⟨c51, h⟩ | ⟨c51, h⟩
            · refine AWc.rE hmix [.br c51] ?_
              exact ⟨(decide (((a0.toNat : Nat) : Int) ≤ (70 : Int))), h, (inT [] [])⟩
            · refine AWc.rE hmix [.br c51] ?_
              exact ⟨false, h, (inT [] [])⟩
          · intro j56_1 h
            unfold f303_j56 at h
            rcases cc h with ⟨c56, h⟩ | ⟨c56, h⟩
            · refine AWc.cT c56 ?_
              refine AWc.seq ?_
              refine AWc.rE hmix [] ?_
              have hr := Option.some.inj h
              subst hr
              exact AWc.ret (canQ (N := 35) (k := 0) (l' := [(2, (.d (.int .i64 (IntKind.i64.wrap ((IntKind.i64.wrap (((u8 (IntKind.u8.wrap (((a0.toNat : Nat) : Int) - (65 : Int)))).toNat : Nat) : Int)) + (10 : Int))))))]) (H' := []) rfl (inT [] []) (doneA (.inr rfl) rfl ⟨trivial, trivial⟩ (.refl _) hasNil))
            · refine AWc.cF c56 ?_
              refine AWc.skip ?_
              refine AWc.seq ?_
              refine AWc.rE hmix [] ?_
              have hr := Option.some.inj h
              subst hr
              exact AWc.ret (canQ (N := 35) (k := 0) (l' := [(2, (.d (.int .i64 (-1 : Int))))]) (H' := []) rfl (inT [] []) (doneA (.inr rfl) rfl ⟨trivial, trivial⟩ (.refl _) hasNil))
/-- (*courant/courantref02.reader).four -/
def C302 (N : Nat → Nat) : AFunc := { n := 53, params := 1, res := [.tmp 2], body :=
 (.seq (.region false [⟨(some 2), .mv (.k (.d (.int .i64 0))), none, []⟩])
  (.seq (.region false [⟨(some 3), .mv (.k (.d (.int .i64 0))), none, []⟩])
   (.seq (.seq (.region false [⟨(some 4), .mv (.k (.d (.int .i64 0))), none, []⟩])
     (.block 0 (.loop (.seq (.seq (.region false [⟨(some 5), .mv (.t 4), none, []⟩,
          ⟨(some 6), .bin .lss (.t 5) (.k (.d (.int .i64 4))), none, [0]⟩])
         (.cond (.t 6) (.skip)
          (.exit 0)))
        (.seq (.block 1 (.seq (.seq (.region true [⟨(some 9), .mv (.t 0), none, []⟩,
             ⟨(some 10), .nilchk (.t 9), none, [0]⟩,
             ⟨(some 11), .faddr (.t 10) 1, none, [1]⟩,
             ⟨(some 12), .load (.t 11) 1 false, none, [2]⟩,
             ⟨(some 13), .mv (.t 0), none, []⟩,
             ⟨(some 14), .nilchk (.t 13), none, [4]⟩,
             ⟨(some 15), .faddr (.t 14) 0, none, [5]⟩,
             ⟨(some 16), .load (.t 15) 1 false, none, [6]⟩,
             ⟨(some 17), .slen (.t 16), none, [7]⟩,
             ⟨(some 18), .bin .geq (.t 12) (.t 17), none, [3, 8]⟩,
             ⟨(some 19), .mv (.t 18), none, [9]⟩,
             ⟨(some 20), .mv (.t 0), (some (19, false)), [10]⟩,
             ⟨(some 21), .nilchk (.t 20), (some (19, false)), [11, 10]⟩,
             ⟨(some 22), .faddr (.t 21) 0, (some (19, false)), [12, 10]⟩,
             ⟨(some 23), .load (.t 22) 1 false, (some (19, false)), [13, 10]⟩,
             ⟨(some 24), .mv (.t 0), (some (19, false)), [10]⟩,
             ⟨(some 25), .nilchk (.t 24), (some (19, false)), [15, 10]⟩,
             ⟨(some 26), .faddr (.t 25) 1, (some (19, false)), [16, 10]⟩,
             ⟨(some 27), .load (.t 26) 1 false, (some (19, false)), [17, 10]⟩,
             ⟨(some 28), .idx (.t 23) (.t 27), (some (19, false)), [14, 18, 10]⟩,
             ⟨(some 29), .call (.k (.d (.fn (N 303)))) [(.t 28)], (some (19, false)), [19, 10]⟩,
             ⟨(some 30), .bin .lss (.t 29) (.k (.d (.int .i64 0))), (some (19, false)), [20, 10]⟩,
             ⟨(some 31), .pick (.t 19) (.k (.d (.bool true))) (.t 30), none, [10, 21]⟩])
            (.cond (.t 31) (.seq (.region false [⟨(some 2), .mv (.k (.d (.int .i64 (-1)))), none, []⟩])
              .ret)
             (.skip)))
           (.seq (.region true [⟨(some 32), .mv (.t 3), none, []⟩,
             ⟨(some 33), .bin .mul (.k (.d (.int .i64 16))) (.t 32), none, [0]⟩,
             ⟨(some 34), .mv (.t 0), none, []⟩,
             ⟨(some 35), .nilchk (.t 34), none, [2]⟩,
             ⟨(some 36), .faddr (.t 35) 0, none, [3]⟩,
             ⟨(some 37), .load (.t 36) 1 false, none, [4]⟩,
             ⟨(some 38), .mv (.t 0), none, []⟩,
             ⟨(some 39), .nilchk (.t 38), none, [6]⟩,
             ⟨(some 40), .faddr (.t 39) 1, none, [7]⟩,
             ⟨(some 41), .load (.t 40) 1 false, none, [8]⟩,
             ⟨(some 42), .idx (.t 37) (.t 41), none, [5, 9]⟩,
             ⟨(some 43), .call (.k (.d (.fn (N 303)))) [(.t 42)], none, [10]⟩,
             ⟨(some 44), .bin .add (.t 33) (.t 43), none, [1, 11]⟩,
             ⟨(some 3), .mv (.t 44), none, [12, 11, 0, 1, 2, 3, 4, 5, 6, 7, 8, 9, 10]⟩])
            (.region false [⟨(some 45), .mv (.t 0), none, []⟩,
             ⟨(some 46), .nilchk (.t 45), none, [0]⟩,
             ⟨(some 47), .faddr (.t 46) 1, none, [1]⟩,
             ⟨(some 48), .load (.t 47) 1 false, none, [2]⟩,
             ⟨(some 49), .bin .add (.t 48) (.k (.d (.int .i64 1))), none, [3]⟩,
             ⟨(some 50), .nilchk (.t 45), none, [0, 1, 2, 3, 4]⟩,
             ⟨(some 51), .faddr (.t 50) 1, none, [5, 0, 1, 2, 3, 4]⟩,
             ⟨none, .store (.t 51) (.t 49) 1, none, [6, 4, 0, 1, 2, 3]⟩]))))
         (.region false [⟨(some 7), .mv (.t 4), none, []⟩,
          ⟨(some 8), .bin .add (.t 7) (.k (.d (.int .i64 1))), none, [0]⟩,
          ⟨(some 4), .mv (.t 8), none, [1, 0]⟩]))))))
    (.seq (.region false [⟨(some 52), .mv (.t 3), none, []⟩,
      ⟨(some 2), .mv (.t 52), none, [0]⟩])
     .ret)))) }
def HC302 (P : Program) (N : Nat → Nat) : Prop := HasF P (N 302) (C302 N) ∧ HC303 P N
def f302_l14 (a0 : (List UInt8)) : Nat → Int → Int → Int → Option (LR2 (Int × Int) Unit (Int × Int))
  | 0, _, _, _ => none
  | k + 1, y14_1, y14_2, y14_3 => cond (decide (y14_2 < (4 : Int))) (cond (decide (y14_3 ≥ ((a0.length : Nat) : Int))) (some (.r ((-1 : Int), y14_3))) (gd (0 ≤ y14_3 ∧ y14_3 < ((a0.length : Nat) : Int)) ((f303 k (a0.getD (y14_3).toNat 0)).bind fun r51 => cond (decide (r51 < (0 : Int))) (some (.r ((-1 : Int), y14_3))) (gd (0 ≤ y14_3 ∧ y14_3 < ((a0.length : Nat) : Int)) ((f303 k (a0.getD (y14_3).toNat 0)).bind fun r75 => f302_l14 a0 k (IntKind.i64.wrap ((IntKind.i64.wrap ((16 : Int) * y14_1)) + r75)) (IntKind.i64.wrap (y14_2 + (1 : Int))) (IntKind.i64.wrap (y14_3 + (1 : Int)))))))) (some (.b0 (y14_1, y14_3)))
def f302 (k : Nat) (a0 : (List UInt8)) (a1 : Int) (a2 : Int) : Option (Int × Int) := (f302_l14 a0 k (0 : Int) (0 : Int) a1).bind fun o14 => (match o14 with | .b0 (x14_1, x14_2) => some (x14_1, x14_2) | .r x => some x | _ => none)
theorem F302 {P : Program} {N : Nat → Nat} (hmix : P.follows .mixedOrders = true) (hc : HC302 P N) {k : Nat} {a0 : (List UInt8)} {a1 : Int} {a2 : Int} {r : (Int × Int)} (h : f302 k a0 a1 a2 = some r) :
    ACalls P (N 302) [(.ptr 0 0)] [(0, (.cells [(.d (.str a0)), (.d (.int .i64 a1)), (.d (.int .i64 a2))]))] (.d (.int .i64 r.1)) [(0, (.cells [(.d (.str a0)), (.d (.int .i64 r.2)), (.d (.int .i64 a2))]))] := by
  refine acalls_canon (F := C302 N) hc.1 1 1 rfl ?_
  unfold f302 at h
  dsimp only [C302, startL]
  refine AWc.seq ?_
  refine AWc.rE hmix [] ?_
  refine AWc.seq ?_
  refine AWc.rE hmix [] ?_
  refine AWc.seq ?_
  refine AWc.seq ?_
  refine AWc.rE hmix [] ?_
  obtain ⟨o14, h14, h⟩ := bind_some h
  refine AWc.block ?_
  refine AWc.loopK (N := 53) 1 (fun (x : (Int × Int × Int)) => [(0, (.ptr 0 0)), (3, (.d (.int .i64 x.1))), (4, (.d (.int .i64 x.2.1)))]) (fun x => [(0, (.cells [(.d (.str a0)), (.d (.int .i64 x.2.2)), (.d (.int .i64 a2))]))]) (fun k x => f302_l14 a0 k x.1 x.2.1 x.2.2 = some o14) k ((0 : Int), (0 : Int), a1) rfl_le (fun x hx => by cases hx) h14 (inT [] []) ?_
  clear h14
  intro k
  rintro ⟨y14_1, y14_2, y14_3⟩ h14
  dsimp only at h14 ⊢
  rw [f302_l14] at h14
  refine AWc.seq ?_
  refine AWc.seq ?_
  refine AWc.rE hmix [] ?_
  rcases cc h14 with ⟨c22, h14⟩ | ⟨c22, h14⟩
  · refine AWc.cT c22 ?_
    refine AWc.skip ?_
    refine AWc.seq ?_
    refine AWc.block ?_
    refine AWc.seq ?_
    refine AWc.seq ?_
    rcases cc h14 with ⟨c41, h14⟩ | ⟨c41, h14⟩
    · refine AWc.rE hmix [.br c41] ?_
      refine AWc.cT rfl ?_
      refine AWc.seq ?_
      refine AWc.rE hmix [] ?_
      cases h14
      dsimp only at h
      have hr := Option.some.inj h
      subst hr
      exact AWc.ret (canQ (N := 53) (k := 1) (l' := [(2, (.d (.int .i64 (-1 : Int))))]) (H' := [(0, (.cells [(.d (.str a0)), (.d (.int .i64 y14_3)), (.d (.int .i64 a2))]))]) rfl (inT [] []) (doneA (.inr rfl) rfl ⟨trivial, trivial⟩ (.refl _) (hasCons rfl hasNil)))
    · obtain ⟨b50, h14⟩ := gd_some h14
      obtain ⟨r51, e51, h14⟩ := bind_some h14
      refine AWc.rE hmix [.br c41, .sd b50, .call (F303 hmix hc.2 e51) [] 0] ?_
      rcases cc h14 with ⟨c54, h14⟩ | ⟨c54, h14⟩
      · refine AWc.cT c54 ?_
        refine AWc.seq ?_
        refine AWc.rE hmix [] ?_
        cases h14
        dsimp only at h
        have hr := Option.some.inj h
        subst hr
        exact AWc.ret (canQ (N := 53) (k := 1) (l' := [(2, (.d (.int .i64 (-1 : Int))))]) (H' := [(0, (.cells [(.d (.str a0)), (.d (.int .i64 y14_3)), (.d (.int .i64 a2))]))]) rfl (inT [] []) (doneA (.inr rfl) rfl ⟨trivial, trivial⟩ (.refl _) (hasCons rfl hasNil)))
      · refine AWc.cF c54 ?_
        refine AWc.skip ?_
        refine AWc.seq ?_
        obtain ⟨b74, h14⟩ := gd_some h14
        obtain ⟨r75, e75, h14⟩ := bind_some h14
        refine AWc.rE hmix [.sd b74, .call (F303 hmix hc.2 e75) [] 0] ?_
        refine AWc.rE hmix [] ?_
        refine AWc.rE hmix [] ?_
        exact ⟨((IntKind.i64.wrap ((IntKind.i64.wrap ((16 : Int) * y14_1)) + r75)), (IntKind.i64.wrap (y14_2 + (1 : Int))), (IntKind.i64.wrap (y14_3 + (1 : Int)))), h14, (inT [] [])⟩
  · refine AWc.cF c22 ?_
    cases h14
    dsimp only at h
    refine AWc.exit ?_
    refine inBlk_eq ?_
    refine AWc.seq ?_
    refine AWc.rE hmix [] ?_
    have hr := Option.some.inj h
    subst hr
    exact AWc.ret (canQ (N := 53) (k := 1) (l' := [(2, (.d (.int .i64 y14_1)))]) (H' := [(0, (.cells [(.d (.str a0)), (.d (.int .i64 y14_3)), (.d (.int .i64 a2))]))]) rfl (inT [] []) (doneA (.inr rfl) rfl ⟨trivial, trivial⟩ (.refl _) (hasCons rfl hasNil)))
/-- (*courant/courantref02.reader).escaped -/
def C301 (N : Nat → Nat) : AFunc := { n := 98, params := 1, res := [.tmp 2], body :=
 (.seq (.region false [⟨(some 2), .mv (.k (.d (.str []))), none, []⟩])
  (.seq (.seq (.region true [⟨(some 6), .mv (.t 0), none, []⟩,
     ⟨(some 7), .nilchk (.t 6), none, [0]⟩,
     ⟨(some 8), .faddr (.t 7) 1, none, [1]⟩,
     ⟨(some 9), .load (.t 8) 1 false, none, [2]⟩,
     ⟨(some 10), .mv (.t 0), none, []⟩,
     ⟨(some 11), .nilchk (.t 10), none, [4]⟩,
     ⟨(some 12), .faddr (.t 11) 0, none, [5]⟩,
     ⟨(some 13), .load (.t 12) 1 false, none, [6]⟩,
     ⟨(some 14), .slen (.t 13), none, [7]⟩,
     ⟨(some 15), .bin .geq (.t 9) (.t 14), none, [3, 8]⟩])
    (.cond (.t 15) (.seq (.region false [⟨(some 16), .mv (.t 0), none, []⟩,
       ⟨(some 17), .call (.k (.d (.fn (N 298)))) [(.t 16), (.k (.d (.int .i64 4)))], none, [0]⟩])
      (.seq (.region false [⟨(some 2), .mv (.k (.d (.str []))), none, []⟩])
       .ret))
     (.skip)))
   (.seq (.region true [⟨(some 18), .mv (.t 0), none, []⟩,
     ⟨(some 19), .nilchk (.t 18), none, [0]⟩,
     ⟨(some 20), .faddr (.t 19) 0, none, [1]⟩,
     ⟨(some 21), .load (.t 20) 1 false, none, [2]⟩,
     ⟨(some 22), .mv (.t 0), none, []⟩,
     ⟨(some 23), .nilchk (.t 22), none, [4]⟩,
     ⟨(some 24), .faddr (.t 23) 1, none, [5]⟩,
     ⟨(some 25), .load (.t 24) 1 false, none, [6]⟩,
     ⟨(some 26), .idx (.t 21) (.t 25), none, [3, 7]⟩,
     ⟨(some 3), .mv (.t 26), none, [8, 0, 1, 2, 3, 4, 5, 6, 7]⟩])
    (.seq (.region false [⟨(some 27), .mv (.t 0), none, []⟩,
      ⟨(some 28), .nilchk (.t 27), none, [0]⟩,
      ⟨(some 29), .faddr (.t 28) 1, none, [1]⟩,
      ⟨(some 30), .load (.t 29) 1 false, none, [2]⟩,
      ⟨(some 31), .bin .add (.t 30) (.k (.d (.int .i64 1))), none, [3]⟩,
      ⟨(some 32), .nilchk (.t 27), none, [0, 1, 2, 3, 4]⟩,
      ⟨(some 33), .faddr (.t 32) 1, none, [5, 0, 1, 2, 3, 4]⟩,
      ⟨none, .store (.t 33) (.t 31) 1, none, [6, 4, 0, 1, 2, 3]⟩])
     (.seq (.seq (.region false [⟨(some 34), .mv (.t 3), none, []⟩])
       (.block 0 (.seq (.seq (.region false [⟨(some 36), .bin .eql (.t 34) (.k (.d (.int .u8 34))), none, []⟩,
           ⟨(some 35), .mv (.t 36), none, [0]⟩])
          (.cond (.t 35) (.skip)
           (.seq (.region false [⟨(some 37), .bin .eql (.t 34) (.k (.d (.int .u8 92))), none, []⟩,
             ⟨(some 35), .mv (.t 37), none, [0]⟩])
            (.cond (.t 35) (.skip)
             (.region false [⟨(some 38), .bin .eql (.t 34) (.k (.d (.int .u8 47))), none, []⟩,
              ⟨(some 35), .mv (.t 38), none, [0]⟩])))))
         (.cond (.t 35) (.seq (.region false [⟨(some 39), .mv (.t 3), none, []⟩,
            ⟨(some 40), .bslice 1 1 [(.int .u8 0)] [(0, (.t 39))], none, [0]⟩,
            ⟨(some 41), .bs2s (.t 40), none, [1]⟩,
            ⟨(some 2), .mv (.t 41), none, [2, 0, 1]⟩])
           .ret)
          (.seq (.region false [⟨(some 43), .bin .eql (.t 34) (.k (.d (.int .u8 98))), none, []⟩,
            ⟨(some 42), .mv (.t 43), none, [0]⟩])
           (.cond (.t 42) (.seq (.region false [⟨(some 2), .mv (.k (.d (.str [8]))), none, []⟩])
             .ret)
            (.seq (.region false [⟨(some 45), .bin .eql (.t 34) (.k (.d (.int .u8 102))), none, []⟩,
              ⟨(some 44), .mv (.t 45), none, [0]⟩])
             (.cond (.t 44) (.seq (.region false [⟨(some 2), .mv (.k (.d (.str [12]))), none, []⟩])
               .ret)
              (.seq (.region false [⟨(some 47), .bin .eql (.t 34) (.k (.d (.int .u8 110))), none, []⟩,
                ⟨(some 46), .mv (.t 47), none, [0]⟩])
               (.cond (.t 46) (.seq (.region false [⟨(some 2), .mv (.k (.d (.str [10]))), none, []⟩])
                 .ret)
                (.seq (.region false [⟨(some 49), .bin .eql (.t 34) (.k (.d (.int .u8 114))), none, []⟩,
                  ⟨(some 48), .mv (.t 49), none, [0]⟩])
                 (.cond (.t 48) (.seq (.region false [⟨(some 2), .mv (.k (.d (.str [13]))), none, []⟩])
                   .ret)
                  (.seq (.region false [⟨(some 51), .bin .eql (.t 34) (.k (.d (.int .u8 116))), none, []⟩,
                    ⟨(some 50), .mv (.t 51), none, [0]⟩])
                   (.cond (.t 50) (.seq (.region false [⟨(some 2), .mv (.k (.d (.str [9]))), none, []⟩])
                     .ret)
                    (.seq (.region false [⟨(some 53), .bin .eql (.t 34) (.k (.d (.int .u8 117))), none, []⟩,
                      ⟨(some 52), .mv (.t 53), none, [0]⟩])
                     (.cond (.t 52) (.seq (.region false [⟨(some 54), .mv (.t 0), none, []⟩,
                        ⟨(some 55), .call (.k (.d (.fn (N 302)))) [(.t 54)], none, [0]⟩,
                        ⟨(some 4), .mv (.t 55), none, [1, 0]⟩])
                       (.seq (.seq (.region false [⟨(some 56), .mv (.t 4), none, []⟩,
                          ⟨(some 57), .bin .geq (.t 56) (.k (.d (.int .i64 55296))), none, [0]⟩,
                          ⟨(some 58), .mv (.t 57), none, [1]⟩,
                          ⟨(some 59), .mv (.t 4), (some (58, true)), [2]⟩,
                          ⟨(some 60), .bin .lss (.t 59) (.k (.d (.int .i64 56320))), (some (58, true)), [3, 2]⟩,
                          ⟨(some 61), .pick (.t 58) (.t 60) (.k (.d (.bool false))), none, [2, 4]⟩,
                          ⟨(some 62), .mv (.t 61), none, [5, 2]⟩,
                          ⟨(some 63), .mv (.t 0), (some (62, true)), [6]⟩,
                          ⟨(some 64), .call (.k (.d (.fn (N 299)))) [(.t 63), (.k (.d (.str [92, 117])))], (some (62, true)), [7, 6]⟩,
                          ⟨(some 65), .pick (.t 62) (.t 64) (.k (.d (.bool false))), none, [6, 8]⟩])
                         (.cond (.t 65) (.seq (.region false [⟨(some 66), .mv (.t 0), none, []⟩,
                            ⟨(some 67), .call (.k (.d (.fn (N 302)))) [(.t 66)], none, [0]⟩,
                            ⟨(some 5), .mv (.t 67), none, [1, 0]⟩])
                           (.seq (.seq (.region false [⟨(some 68), .mv (.t 5), none, []⟩,
                              ⟨(some 69), .bin .geq (.t 68) (.k (.d (.int .i64 56320))), none, [0]⟩,
                              ⟨(some 70), .mv (.t 69), none, [1]⟩,
                              ⟨(some 71), .mv (.t 5), (some (70, true)), [2]⟩,
                              ⟨(some 72), .bin .lss (.t 71) (.k (.d (.int .i64 57344))), (some (70, true)), [3, 2]⟩,
                              ⟨(some 73), .pick (.t 70) (.t 72) (.k (.d (.bool false))), none, [2, 4]⟩])
                             (.cond (.t 73) (.seq (.region false [⟨(some 74), .mv (.t 4), none, []⟩,
                                ⟨(some 75), .bin .sub (.t 74) (.k (.d (.int .i64 55296))), none, [0]⟩,
                                ⟨(some 76), .bin .mul (.t 75) (.k (.d (.int .i64 1024))), none, [1]⟩,
                                ⟨(some 77), .bin .add (.k (.d (.int .i64 65536))) (.t 76), none, [2]⟩,
                                ⟨(some 78), .mv (.t 5), none, []⟩,
                                ⟨(some 79), .bin .add (.t 77) (.t 78), none, [3, 4]⟩,
                                ⟨(some 80), .bin .sub (.t 79) (.k (.d (.int .i64 56320))), none, [5]⟩,
                                ⟨(some 81), .cvi .i32 (.t 80), none, [6]⟩,
                                ⟨(some 82), .i2s (.t 81), none, [7]⟩,
                                ⟨(some 2), .mv (.t 82), none, [8, 0, 1, 2, 3, 4, 5, 6, 7]⟩])
                               .ret)
                              (.skip)))
                            (.region false [⟨(some 4), .mv (.k (.d (.int .i64 (-1)))), none, []⟩])))
                          (.skip)))
                        (.seq (.region false [⟨(some 83), .mv (.t 4), none, []⟩,
                          ⟨(some 84), .bin .geq (.t 83) (.k (.d (.int .i64 0))), none, [0]⟩,
                          ⟨(some 85), .mv (.t 84), none, [1]⟩,
                          ⟨(some 86), .mv (.t 4), (some (85, true)), [2]⟩,
                          ⟨(some 87), .bin .lss (.t 86) (.k (.d (.int .i64 55296))), (some (85, true)), [3, 2]⟩,
                          ⟨(some 88), .mv (.t 87), (some (85, true)), [4, 2]⟩,
                          ⟨(some 89), .mv (.t 4), (some (88, false)), [5]⟩,
                          ⟨(some 90), .bin .geq (.t 89) (.k (.d (.int .i64 57344))), (some (88, false)), [6, 5]⟩,
                          ⟨(some 91), .pick (.t 88) (.k (.d (.bool true))) (.t 90), (some (85, true)), [5, 7, 2]⟩,
                          ⟨(some 92), .pick (.t 85) (.t 91) (.k (.d (.bool false))), none, [2, 8]⟩])
                         (.cond (.t 92) (.seq (.region false [⟨(some 93), .mv (.t 4), none, []⟩,
                            ⟨(some 94), .cvi .i32 (.t 93), none, [0]⟩,
                            ⟨(some 95), .i2s (.t 94), none, [1]⟩,
                            ⟨(some 2), .mv (.t 95), none, [2, 0, 1]⟩])
                           .ret)
                          (.skip)))))
                      (.skip)))))))))))))))))
      (.seq (.region false [⟨(some 96), .mv (.t 0), none, []⟩,
        ⟨(some 97), .call (.k (.d (.fn (N 298)))) [(.t 96), (.k (.d (.int .i64 4)))], none, [0]⟩])
       (.seq (.region false [⟨(some 2), .mv (.k (.d (.str []))), none, []⟩])
        .ret))))))) }
def HC301 (P : Program) (N : Nat → Nat) : Prop := HasF P (N 301) (C301 N) ∧ HC298 P N ∧ HC302 P N ∧ HC299 P N
def f301_j231 (k : Nat) (a0 : (List UInt8)) (a2 : Int) (j231_1 : Int) : Option ((List UInt8) × Int × Int) := (f298 k a0 j231_1 a2 (4 : Int)).bind fun r235 => some (([] : List UInt8), j231_1, r235)
def f301_j220 (k : Nat) (j207_1 : Int) (j207_2 : Int) (a2 : Int) (a0 : (List UInt8)) (j220_1 : Bool) : Option ((List UInt8) × Int × Int) := cond j220_1 (some ((encL (IntKind.i32.wrap j207_1)), j207_2, a2)) (f301_j231 k a0 a2 j207_2)
def f301_j207 (k : Nat) (a2 : Int) (a0 : (List UInt8)) (j207_1 : Int) (j207_2 : Int) : Option ((List UInt8) × Int × Int) := cond (decide (j207_1 ≥ (0 : Int))) (cond (decide (j207_1 < (55296 : Int))) (f301_j220 k j207_1 j207_2 a2 a0 true) (f301_j220 k j207_1 j207_2 a2 a0 (decide (j207_1 ≥ (57344 : Int))))) (f301_j220 k j207_1 j207_2 a2 a0 false)
def f301_j187 (k : Nat) (r154 : (Int × Int)) (r175 : (Int × Int)) (a2 : Int) (a0 : (List UInt8)) (j187_1 : Bool) : Option ((List UInt8) × Int × Int) := cond j187_1 (some ((encL (IntKind.i32.wrap (IntKind.i64.wrap ((IntKind.i64.wrap ((IntKind.i64.wrap ((65536 : Int) + (IntKind.i64.wrap ((IntKind.i64.wrap (r154.1 - (55296 : Int))) * (1024 : Int))))) + r175.1)) - (56320 : Int))))), r175.2, a2)) (f301_j207 k a2 a0 (-1 : Int) r175.2)
def f301_j170 (k : Nat) (a0 : (List UInt8)) (a2 : Int) (r154 : (Int × Int)) (j170_1 : Bool) (j170_2 : Int) : Option ((List UInt8) × Int × Int) := cond j170_1 ((f302 k a0 j170_2 a2).bind fun r175 => cond (decide (r175.1 ≥ (56320 : Int))) (f301_j187 k r154 r175 a2 a0 (decide (r175.1 < (57344 : Int)))) (f301_j187 k r154 r175 a2 a0 false)) (f301_j207 k a2 a0 r154.1 j170_2)
def f301_j80 (k : Nat) (a0 : (List UInt8)) (a1 : Int) (a2 : Int) (j80_1 : Bool) : Option ((List UInt8) × Int × Int) := cond j80_1 (some (([(a0.getD (a1).toNat 0)] : List UInt8), (IntKind.i64.wrap (a1 + (1 : Int))), a2)) (cond (decide ((((a0.getD (a1).toNat 0).toNat : Nat) : Int) = (98 : Int))) (some (([8] : List UInt8), (IntKind.i64.wrap (a1 + (1 : Int))), a2)) (cond (decide ((((a0.getD (a1).toNat 0).toNat : Nat) : Int) = (102 : Int))) (some (([12] : List UInt8), (IntKind.i64.wrap (a1 + (1 : Int))), a2)) (cond (decide ((((a0.getD (a1).toNat 0).toNat : Nat) : Int) = (110 : Int))) (some (([10] : List UInt8), (IntKind.i64.wrap (a1 + (1 : Int))), a2)) (cond (decide ((((a0.getD (a1).toNat 0).toNat : Nat) : Int) = (114 : Int))) (some (([13] : List UInt8), (IntKind.i64.wrap (a1 + (1 : Int))), a2)) (cond (decide ((((a0.getD (a1).toNat 0).toNat : Nat) : Int) = (116 : Int))) (some (([9] : List UInt8), (IntKind.i64.wrap (a1 + (1 : Int))), a2)) (cond (decide ((((a0.getD (a1).toNat 0).toNat : Nat) : Int) = (117 : Int))) ((f302 k a0 (IntKind.i64.wrap (a1 + (1 : Int))) a2).bind fun r154 => cond (decide (r154.1 ≥ (55296 : Int))) (cond (decide (r154.1 < (56320 : Int))) ((f299 k a0 r154.2 a2 ([92, 117] : List UInt8)).bind fun r168 => f301_j170 k a0 a2 r154 r168.1 r168.2) (f301_j170 k a0 a2 r154 false r154.2)) (f301_j170 k a0 a2 r154 false r154.2)) (f301_j231 k a0 a2 (IntKind.i64.wrap (a1 + (1 : Int))))))))))
def f301 (k : Nat) (a0 : (List UInt8)) (a1 : Int) (a2 : Int) : Option ((List UInt8) × Int × Int) := cond (decide (a1 ≥ ((a0.length : Nat) : Int))) ((f298 k a0 a1 a2 (4 : Int)).bind fun r24 => some (([] : List UInt8), a1, r24)) (gd (0 ≤ a1 ∧ a1 < ((a0.length : Nat) : Int)) (cond (decide ((((a0.getD (a1).toNat 0).toNat : Nat) : Int) = (34 : Int))) (f301_j80 k a0 a1 a2 (decide ((((a0.getD (a1).toNat 0).toNat : Nat) : Int) = (34 : Int)))) (cond (decide ((((a0.getD (a1).toNat 0).toNat : Nat) : Int) = (92 : Int))) (f301_j80 k a0 a1 a2 (decide ((((a0.getD (a1).toNat 0).toNat : Nat) : Int) = (92 : Int)))) (f301_j80 k a0 a1 a2 (decide ((((a0.getD (a1).toNat 0).toNat : Nat) : Int) = (47 : Int)))))))
theorem F301 {P : Program} {N : Nat → Nat} (hmix : P.follows .mixedOrders = true) (hc : HC301 P N) {k : Nat} {a0 : (List UInt8)} {a1 : Int} {a2 : Int} {r : ((List UInt8) × Int × Int)} (h : f301 k a0 a1 a2 = some r) :
    ACalls P (N 301) [(.ptr 0 0)] [(0, (.cells [(.d (.str a0)), (.d (.int .i64 a1)), (.d (.int .i64 a2))]))] (.d (.str r.1)) [(0, (.cells [(.d (.str a0)), (.d (.int .i64 r.2.1)), (.d (.int .i64 r.2.2))]))] := by
  refine acalls_canon (F := C301 N) hc.1 1 1 rfl ?_
  unfold f301 at h
  dsimp only [C301, startL]
  refine AWc.seq ?_
  refine AWc.rE hmix [] ?_
  refine AWc.seq ?_
  refine AWc.seq ?_
  refine AWc.rE hmix [] ?_
  rcases cc h with ⟨c19, h⟩ | ⟨c19, h⟩
  · refine AWc.cT c19 ?_
    refine AWc.seq ?_
    obtain ⟨r24, e24, h⟩ := bind_some h
    refine AWc.rE hmix [.call (F298 hmix hc.2.1 e24) [] 1] ?_
    refine AWc.seq ?_
    refine AWc.rE hmix [] ?_
    have hr := Option.some.inj h
    subst hr
    exact AWc.ret (canQ (N := 98) (k := 1) (l' := [(2, (.d (.str ([] : List UInt8))))]) (H' := [(0, (.cells [(.d (.str a0)), (.d (.int .i64 a1)), (.d (.int .i64 r24))]))]) rfl (inT [] []) (doneA (.inr rfl) rfl ⟨trivial, trivial⟩ (.refl _) (hasCons rfl hasNil)))
  · refine AWc.cF c19 ?_
    refine AWc.skip ?_
    refine AWc.seq ?_
    obtain ⟨b42, h⟩ := gd_some h
    refine AWc.rE hmix [.sd b42] ?_
    refine AWc.seq ?_
    refine AWc.rE hmix [] ?_
    refine AWc.seqS (N := 98) 1 (fun (z : Int) => [(0, (.ptr 0 0))]) (fun z => [(0, (.cells [(.d (.str a0)), (.d (.int .i64 z)), (.d (.int .i64 a2))]))]) (fun z => f301_j231 k a0 a2 z = some r) rfl_le ?_ ?_
    · refine AWc.seq ?_
      refine AWc.rE hmix [] ?_
      refine AWc.block ?_
      refine AWc.seqS (N := 98) 1 (fun (z : Bool) => [(0, (.ptr 0 0)), (3, (.d (.int .u8 (((a0.getD (a1).toNat 0).toNat : Nat) : Int)))), (34, (.d (.int .u8 (((a0.getD (a1).toNat 0).toNat : Nat) : Int)))), (35, (.d (.bool z)))]) (fun z => [(0, (.cells [(.d (.str a0)), (.d (.int .i64 (IntKind.i64.wrap (a1 + (1 : Int))))), (.d (.int .i64 a2))]))]) (fun z => f301_j80 k a0 a1 a2 z = some r) rfl_le ?_ ?_
      · refine AWc.seq ?_
        refine AWc.rE hmix [] ?_
        rcases cc h with ⟨c67, h⟩ | ⟨c67, h⟩
        · refine AWc.cT c67 ?_
          refine AWc.skip ?_
          exact ⟨(decide ((((a0.getD (a1).toNat 0).toNat : Nat) : Int) = (34 : Int))), h, (inT [] [])⟩
        · refine AWc.cF c67 ?_
          refine AWc.seq ?_
          refine AWc.rE hmix [] ?_
          rcases cc h with ⟨c74, h⟩ | ⟨c74, h⟩
          · refine AWc.cT c74 ?_
            refine AWc.skip ?_
            exact ⟨(decide ((((a0.getD (a1).toNat 0).toNat : Nat) : Int) = (92 : Int))), h, (inT [] [])⟩
          · refine AWc.cF c74 ?_
            refine AWc.rE hmix [] ?_
            exact ⟨(decide ((((a0.getD (a1).toNat 0).toNat : Nat) : Int) = (47 : Int))), h, (inT [] [])⟩
      · intro j80_1 h
        unfold f301_j80 at h
        rcases cc h with ⟨c80, h⟩ | ⟨c80, h⟩
        · refine AWc.cT c80 ?_
          refine AWc.seq ?_
          refine AWc.rE hmix [.bs ([(a0.getD (a1).toNat 0)] : List UInt8)] ?_
          have hr := Option.some.inj h
          subst hr
          exact AWc.ret (canQ (N := 98) (k := 1) (l' := [(2, (.d (.str ([(a0.getD (a1).toNat 0)] : List UInt8))))]) (H' := [(0, (.cells [(.d (.str a0)), (.d (.int .i64 (IntKind.i64.wrap (a1 + (1 : Int))))), (.d (.int .i64 a2))]))]) rfl (inT [] []) (doneA (.inr rfl) rfl ⟨trivial, trivial⟩ (.refl _) (hasCons rfl hasNil)))
        · refine AWc.cF c80 ?_
          refine AWc.seq ?_
          refine AWc.rE hmix [] ?_
          rcases cc h with ⟨c94, h⟩ | ⟨c94, h⟩
          · refine AWc.cT c94 ?_
            refine AWc.seq ?_
            refine AWc.rE hmix [] ?_
            have hr := Option.some.inj h
            subst hr
            exact AWc.ret (canQ (N := 98) (k := 1) (l' := [(2, (.d (.str ([8] : List UInt8))))]) (H' := [(0, (.cells [(.d (.str a0)), (.d (.int .i64 (IntKind.i64.wrap (a1 + (1 : Int))))), (.d (.int .i64 a2))]))]) rfl (inT [] []) (doneA (.inr rfl) rfl ⟨trivial, trivial⟩ (.refl _) (hasCons rfl hasNil)))
          · refine AWc.cF c94 ?_
            refine AWc.seq ?_
            refine AWc.rE hmix [] ?_
            rcases cc h with ⟨c105, h⟩ | ⟨c105, h⟩
            · refine AWc.cT c105 ?_
              refine AWc.seq ?_
              refine AWc.rE hmix [] ?_
              have hr := Option.some.inj h
              subst hr
              exact AWc.ret (canQ (N := 98) (k := 1) (l' := [(2, (.d (.str ([12] : List UInt8))))]) (H' := [(0, (.cells [(.d (.str a0)), (.d (.int .i64 (IntKind.i64.wrap (a1 + (1 : Int))))), (.d (.int .i64 a2))]))]) rfl (inT [] []) (doneA (.inr rfl) rfl ⟨trivial, trivial⟩ (.refl _) (hasCons rfl hasNil)))
            · refine AWc.cF c105 ?_
              refine AWc.seq ?_
              refine AWc.rE hmix [] ?_
              rcases cc h with ⟨c116, h⟩ | ⟨c116, h⟩
              · refine AWc.cT c116 ?_
                refine AWc.seq ?_
                refine AWc.rE hmix [] ?_
                have hr := Option.some.inj h
                subst hr
                exact AWc.ret (canQ (N := 98) (k := 1) (l' := [(2, (.d (.str ([10] : List UInt8))))]) (H' := [(0, (.cells [(.d (.str a0)), (.d (.int .i64 (IntKind.i64.wrap (a1 + (1 : Int))))), (.d (.int .i64 a2))]))]) rfl (inT [] []) (doneA (.inr rfl) rfl ⟨trivial, trivial⟩ (.refl _) (hasCons rfl hasNil)))
              · refine AWc.cF c116 ?_
                refine AWc.seq ?_
                refine AWc.rE hmix [] ?_
                rcases cc h with ⟨c127, h⟩ | ⟨c127, h⟩
                · refine AWc.cT c127 ?_
                  refine AWc.seq ?_
                  refine AWc.rE hmix [] ?_
                  have hr := Option.some.inj h
                  subst hr
                  exact AWc.ret (canQ (N := 98) (k := 1) (l' := [(2, (.d (.str ([13] : List UInt8))))]) (H' := [(0, (.cells [(.d (.str a0)), (.d (.int .i64 (IntKind.i64.wrap (a1 + (1 : Int))))), (.d (.int .i64 a2))]))]) rfl (inT [] []) (doneA (.inr rfl) rfl ⟨trivial, trivial⟩ (.refl _) (hasCons rfl hasNil)))
                · refine AWc.cF c127 ?_
                  refine AWc.seq ?_
                  refine AWc.rE hmix [] ?_
                  rcases cc h with ⟨c138, h⟩ | ⟨c138, h⟩
                  · refine AWc.cT c138 ?_
                    refine AWc.seq ?_
                    refine AWc.rE hmix [] ?_
                    have hr := Option.some.inj h
                    subst hr
                    exact AWc.ret (canQ (N := 98) (k := 1) (l' := [(2, (.d (.str ([9] : List UInt8))))]) (H' := [(0, (.cells [(.d (.str a0)), (.d (.int .i64 (IntKind.i64.wrap (a1 + (1 : Int))))), (.d (.int .i64 a2))]))]) rfl (inT [] []) (doneA (.inr rfl) rfl ⟨trivial, trivial⟩ (.refl _) (hasCons rfl hasNil)))
                  · refine AWc.cF c138 ?_
                    refine AWc.seq ?_
                    refine AWc.rE hmix [] ?_
                    rcases cc h with ⟨c149, h⟩ | ⟨c149, h⟩
                    · refine AWc.cT c149 ?_
                      refine AWc.seq ?_
                      obtain ⟨r154, e154, h⟩ := bind_some h
                      refine AWc.rE hmix [.call (F302 hmix hc.2.2.1 e154) [] 1] ?_
                      refine AWc.seqS (N := 98) 1 (fun (z : (Int × Int)) => [(0, (.ptr 0 0)), (4, (.d (.int .i64 z.1)))]) (fun z => [(0, (.cells [(.d (.str a0)), (.d (.int .i64 z.2)), (.d (.int .i64 a2))]))]) (fun z => f301_j207 k a2 a0 z.1 z.2 = some r) rfl_le ?_ ?_
                      · refine AWc.seqS (N := 98) 1 (fun (z : (Bool × Int)) => [(0, (.ptr 0 0)), (4, (.d (.int .i64 r154.1))), (65, (.d (.bool z.1)))]) (fun z => [(0, (.cells [(.d (.str a0)), (.d (.int .i64 z.2)), (.d (.int .i64 a2))]))]) (fun z => f301_j170 k a0 a2 r154 z.1 z.2 = some r) rfl_le ?_ ?_
                        · rcases cc h with ⟨c162, h⟩ | ⟨c162, h⟩
                          · rcases cc h with ⟨c166, h⟩ | ⟨c166, h⟩
                            · obtain ⟨r168, e168, h⟩ := bind_some h
                              refine AWc.rE hmix [.br c162, .br c166, .call (F299 hmix hc.2.2.2 e168) [] 1] ?_
                              exact ⟨(r168.1, r168.2), h, (inT [] [])⟩
                            · refine AWc.rE hmix [.br c162, .br c166] ?_
                              exact ⟨(false, r154.2), h, (inT [] [])⟩
                          · refine AWc.rE hmix [.br c162, .br (rfl : false = false)] ?_
                            exact ⟨(false, r154.2), h, (inT [] [])⟩
                        · rintro ⟨j170_1, j170_2⟩ h
                          dsimp only at h ⊢
                          unfold f301_j170 at h
                          rcases cc h with ⟨c170, h⟩ | ⟨c170, h⟩
                          · refine AWc.cT c170 ?_
                            refine AWc.seq ?_
                            obtain ⟨r175, e175, h⟩ := bind_some h
                            refine AWc.rE hmix [.call (F302 hmix hc.2.2.1 e175) [] 1] ?_
                            refine AWc.seq ?_
                            refine AWc.seqS (N := 98) 1 (fun (z : Bool) => [(0, (.ptr 0 0)), (4, (.d (.int .i64 r154.1))), (5, (.d (.int .i64 r175.1))), (73, (.d (.bool z)))]) (fun z => [(0, (.cells [(.d (.str a0)), (.d (.int .i64 r175.2)), (.d (.int .i64 a2))]))]) (fun z => f301_j187 k r154 r175 a2 a0 z = some r) rfl_le ?_ ?_
                            · rcases cc h with ⟨c183, h⟩ | ⟨c183, h⟩
                              · refine AWc.rE hmix [.br c183] ?_
                                exact ⟨(decide (r175.1 < (57344 : Int))), h, (inT [] [])⟩
                              · refine AWc.rE hmix [.br c183] ?_
                                exact ⟨false, h, (inT [] [])⟩
                            · intro j187_1 h
                              unfold f301_j187 at h
                              rcases cc h with ⟨c187, h⟩ | ⟨c187, h⟩
                              · refine AWc.cT c187 ?_
                                refine AWc.seq ?_
                                refine AWc.rE hmix [] ?_
                                have hr := Option.some.inj h
                                subst hr
                                exact AWc.ret (canQ (N := 98) (k := 1) (l' := [(2, (.d (.str (encL (IntKind.i32.wrap (IntKind.i64.wrap ((IntKind.i64.wrap ((IntKind.i64.wrap ((65536 : Int) + (IntKind.i64.wrap ((IntKind.i64.wrap (r154.1 - (55296 : Int))) * (1024 : Int))))) + r175.1)) - (56320 : Int))))))))]) (H' := [(0, (.cells [(.d (.str a0)), (.d (.int .i64 r175.2)), (.d (.int .i64 a2))]))]) rfl (inT [] []) (doneA (.inr rfl) rfl ⟨trivial, trivial⟩ (.refl _) (hasCons rfl hasNil)))
                              · refine AWc.cF c187 ?_
                                refine AWc.skip ?_
                                refine AWc.rE hmix [] ?_
                                exact ⟨((-1 : Int), r175.2), h, (inT [] [])⟩
                          · refine AWc.cF c170 ?_
                            refine AWc.skip ?_
                            exact ⟨(r154.1, j170_2), h, (inT [] [])⟩
                      · rintro ⟨j207_1, j207_2⟩ h
                        dsimp only at h ⊢
                        unfold f301_j207 at h
                        refine AWc.seqS (N := 98) 1 (fun (z : Bool) => [(0, (.ptr 0 0)), (4, (.d (.int .i64 j207_1))), (92, (.d (.bool z)))]) (fun z => [(0, (.cells [(.d (.str a0)), (.d (.int .i64 j207_2)), (.d (.int .i64 a2))]))]) (fun z => f301_j220 k j207_1 j207_2 a2 a0 z = some r) rfl_le ?_ ?_
                        · rcases cc h with ⟨c212, h⟩ | ⟨c212, h⟩
                          · rcases cc h with ⟨c215, h⟩ | ⟨c215, h⟩
                            · refine AWc.rE hmix [.br c212, .br c215] ?_
                              exact ⟨true, h, (inT [] [])⟩
                            · refine AWc.rE hmix [.br c212, .br c215] ?_
                              exact ⟨(decide (j207_1 ≥ (57344 : Int))), h, (inT [] [])⟩
                          · refine AWc.rE hmix [.br c212] ?_
                            exact ⟨false, h, (inT [] [])⟩
                        · intro j220_1 h
                          unfold f301_j220 at h
                          rcases cc h with ⟨c220, h⟩ | ⟨c220, h⟩
                          · refine AWc.cT c220 ?_
                            refine AWc.seq ?_
                            refine AWc.rE hmix [] ?_
                            have hr := Option.some.inj h
                            subst hr
                            exact AWc.ret (canQ (N := 98) (k := 1) (l' := [(2, (.d (.str (encL (IntKind.i32.wrap j207_1)))))]) (H' := [(0, (.cells [(.d (.str a0)), (.d (.int .i64 j207_2)), (.d (.int .i64 a2))]))]) rfl (inT [] []) (doneA (.inr rfl) rfl ⟨trivial, trivial⟩ (.refl _) (hasCons rfl hasNil)))
                          · refine AWc.cF c220 ?_
                            refine AWc.skip ?_
                            exact ⟨j207_2, h, (inT [] [])⟩
                    · refine AWc.cF c149 ?_
                      refine AWc.skip ?_
                      exact ⟨(IntKind.i64.wrap (a1 + (1 : Int))), h, (inT [] [])⟩
    · intro j231_1 h
      unfold f301_j231 at h
      refine AWc.seq ?_
      obtain ⟨r235, e235, h⟩ := bind_some h
      refine AWc.rE hmix [.call (F298 hmix hc.2.1 e235) [] 1] ?_
      refine AWc.seq ?_
      refine AWc.rE hmix [] ?_
      have hr := Option.some.inj h
      subst hr
      exact AWc.ret (canQ (N := 98) (k := 1) (l' := [(2, (.d (.str ([] : List UInt8))))]) (H' := [(0, (.cells [(.d (.str a0)), (.d (.int .i64 j231_1)), (.d (.int .i64 r235))]))]) rfl (inT [] []) (doneA (.inr rfl) rfl ⟨trivial, trivial⟩ (.refl _) (hasCons rfl hasNil)))
/-- (*courant/courantref02.reader).text -/
def C300 (N : Nat → Nat) : AFunc := { n := 115, params := 1, res := [.tmp 2], body :=
 (.seq (.region false [⟨(some 2), .mv (.k (.d (.str []))), none, []⟩])
  (.seq (.region false [⟨(some 3), .mv (.k (.d (.str []))), none, []⟩])
   (.seq (.block 0 (.loop (.seq (.seq (.region false [⟨(some 7), .mv (.t 0), none, []⟩,
         ⟨(some 8), .nilchk (.t 7), none, [0]⟩,
         ⟨(some 9), .faddr (.t 8) 2, none, [1]⟩,
         ⟨(some 10), .load (.t 9) 1 false, none, [2]⟩,
         ⟨(some 11), .bin .eql (.t 10) (.k (.d (.int .i64 0))), none, [3]⟩])
        (.cond (.t 11) (.skip)
         (.exit 0)))
       (.block 1 (.seq (.seq (.region true [⟨(some 12), .mv (.t 0), none, []⟩,
           ⟨(some 13), .nilchk (.t 12), none, [0]⟩,
           ⟨(some 14), .faddr (.t 13) 1, none, [1]⟩,
           ⟨(some 15), .load (.t 14) 1 false, none, [2]⟩,
           ⟨(some 16), .mv (.t 0), none, []⟩,
           ⟨(some 17), .nilchk (.t 16), none, [4]⟩,
           ⟨(some 18), .faddr (.t 17) 0, none, [5]⟩,
           ⟨(some 19), .load (.t 18) 1 false, none, [6]⟩,
           ⟨(some 20), .slen (.t 19), none, [7]⟩,
           ⟨(some 21), .bin .geq (.t 15) (.t 20), none, [3, 8]⟩,
           ⟨(some 22), .mv (.t 21), none, [9]⟩,
           ⟨(some 23), .mv (.t 0), (some (22, false)), [10]⟩,
           ⟨(some 24), .nilchk (.t 23), (some (22, false)), [11, 10]⟩,
           ⟨(some 25), .faddr (.t 24) 0, (some (22, false)), [12, 10]⟩,
           ⟨(some 26), .load (.t 25) 1 false, (some (22, false)), [13, 10]⟩,
           ⟨(some 27), .mv (.t 0), (some (22, false)), [10]⟩,
           ⟨(some 28), .nilchk (.t 27), (some (22, false)), [15, 10]⟩,
           ⟨(some 29), .faddr (.t 28) 1, (some (22, false)), [16, 10]⟩,
           ⟨(some 30), .load (.t 29) 1 false, (some (22, false)), [17, 10]⟩,
           ⟨(some 31), .idx (.t 26) (.t 30), (some (22, false)), [14, 18, 10]⟩,
           ⟨(some 32), .bin .lss (.t 31) (.k (.d (.int .u8 32))), (some (22, false)), [19, 10]⟩,
           ⟨(some 33), .pick (.t 22) (.k (.d (.bool true))) (.t 32), none, [10, 20]⟩])
          (.cond (.t 33) (.seq (.region false [⟨(some 34), .mv (.t 0), none, []⟩,
             ⟨(some 35), .call (.k (.d (.fn (N 298)))) [(.t 34), (.k (.d (.int .i64 4)))], none, [0]⟩])
            (.exit 0))
           (.skip)))
         (.seq (.region true [⟨(some 36), .mv (.t 0), none, []⟩,
           ⟨(some 37), .nilchk (.t 36), none, [0]⟩,
           ⟨(some 38), .faddr (.t 37) 0, none, [1]⟩,
           ⟨(some 39), .load (.t 38) 1 false, none, [2]⟩,
           ⟨(some 40), .mv (.t 0), none, []⟩,
           ⟨(some 41), .nilchk (.t 40), none, [4]⟩,
           ⟨(some 42), .faddr (.t 41) 1, none, [5]⟩,
           ⟨(some 43), .load (.t 42) 1 false, none, [6]⟩,
           ⟨(some 44), .idx (.t 39) (.t 43), none, [3, 7]⟩,
           ⟨(some 4), .mv (.t 44), none, [8, 0, 1, 2, 3, 4, 5, 6, 7]⟩])
          (.seq (.seq (.region false [⟨(some 45), .mv (.t 4), none, []⟩,
             ⟨(some 46), .bin .eql (.t 45) (.k (.d (.int .u8 34))), none, [0]⟩])
            (.cond (.t 46) (.seq (.region false [⟨(some 47), .mv (.t 0), none, []⟩,
               ⟨(some 48), .nilchk (.t 47), none, [0]⟩,
               ⟨(some 49), .faddr (.t 48) 1, none, [1]⟩,
               ⟨(some 50), .load (.t 49) 1 false, none, [2]⟩,
               ⟨(some 51), .bin .add (.t 50) (.k (.d (.int .i64 1))), none, [3]⟩,
               ⟨(some 52), .nilchk (.t 47), none, [0, 1, 2, 3, 4]⟩,
               ⟨(some 53), .faddr (.t 52) 1, none, [5, 0, 1, 2, 3, 4]⟩,
               ⟨none, .store (.t 53) (.t 51) 1, none, [6, 4, 0, 1, 2, 3]⟩])
              (.seq (.region false [⟨(some 54), .mv (.t 3), none, []⟩,
                ⟨(some 2), .mv (.t 54), none, [0]⟩])
               .ret))
             (.skip)))
           (.seq (.seq (.region false [⟨(some 55), .mv (.t 4), none, []⟩,
              ⟨(some 56), .bin .eql (.t 55) (.k (.d (.int .u8 92))), none, [0]⟩])
             (.cond (.t 56) (.seq (.region false [⟨(some 57), .mv (.t 0), none, []⟩,
                ⟨(some 58), .nilchk (.t 57), none, [0]⟩,
                ⟨(some 59), .faddr (.t 58) 1, none, [1]⟩,
                ⟨(some 60), .load (.t 59) 1 false, none, [2]⟩,
                ⟨(some 61), .bin .add (.t 60) (.k (.d (.int .i64 1))), none, [3]⟩,
                ⟨(some 62), .nilchk (.t 57), none, [0, 1, 2, 3, 4]⟩,
                ⟨(some 63), .faddr (.t 62) 1, none, [5, 0, 1, 2, 3, 4]⟩,
                ⟨none, .store (.t 63) (.t 61) 1, none, [6, 4, 0, 1, 2, 3]⟩])
               (.seq (.region false [⟨(some 64), .mv (.t 3), none, []⟩,
                 ⟨(some 65), .mv (.t 0), none, []⟩,
                 ⟨(some 66), .call (.k (.d (.fn (N 301)))) [(.t 65)], none, [1]⟩,
                 ⟨(some 67), .bin .add (.t 64) (.t 66), none, [0, 2]⟩,
                 ⟨(some 3), .mv (.t 67), none, [3, 2, 0, 1]⟩])
                (.exit 1)))
              (.skip)))
            (.seq (.region true [⟨(some 69), .mv (.t 0), none, []⟩,
              ⟨(some 70), .nilchk (.t 69), none, [0]⟩,
              ⟨(some 71), .faddr (.t 70) 0, none, [1]⟩,
              ⟨(some 72), .load (.t 71) 1 false, none, [2]⟩,
              ⟨(some 73), .mv (.t 0), none, []⟩,
              ⟨(some 74), .nilchk (.t 73), none, [4]⟩,
              ⟨(some 75), .faddr (.t 74) 1, none, [5]⟩,
              ⟨(some 76), .load (.t 75) 1 false, none, [6]⟩,
              ⟨(some 77), .ssl (.t 72) (some (.t 76)) none, none, [3, 7]⟩,
              ⟨(some 78), .call (.k (.d (.fn (N 336)))) [(.t 77)], none, [8]⟩,
              ⟨(some 68), .mv (.t 78), none, [9]⟩,
              ⟨(some 79), .ext (.t 68) 0, none, [10]⟩,
              ⟨(some 80), .ext (.t 68) 1, none, [10]⟩,
              ⟨(some 5), .mv (.t 79), none, [11, 9, 0, 1, 2, 3, 4, 5, 6, 7, 8, 10]⟩,
              ⟨(some 6), .mv (.t 80), none, [12, 13, 0, 1, 2, 3, 4, 5, 6, 7, 8, 9, 10, 11]⟩])
             (.seq (.seq (.region false [⟨(some 81), .mv (.t 5), none, []⟩,
                ⟨(some 82), .bin .eql (.t 81) (.k (.d (.int .i32 65533))), none, [0]⟩,
                ⟨(some 83), .mv (.t 82), none, [1]⟩,
                ⟨(some 84), .mv (.t 6), (some (83, true)), [2]⟩,
                ⟨(some 85), .bin .lss (.t 84) (.k (.d (.int .i64 2))), (some (83, true)), [3, 2]⟩,
                ⟨(some 86), .pick (.t 83) (.t 85) (.k (.d (.bool false))), none, [2, 4]⟩])
               (.cond (.t 86) (.seq (.region false [⟨(some 87), .mv (.t 0), none, []⟩,
                  ⟨(some 88), .call (.k (.d (.fn (N 298)))) [(.t 87), (.k (.d (.int .i64 4)))], none, [0]⟩])
                 (.exit 0))
                (.skip)))
              (.seq (.region true [⟨(some 89), .mv (.t 3), none, []⟩,
                ⟨(some 90), .mv (.t 0), none, []⟩,
                ⟨(some 91), .nilchk (.t 90), none, [1]⟩,
                ⟨(some 92), .faddr (.t 91) 0, none, [2]⟩,
                ⟨(some 93), .load (.t 92) 1 false, none, [3]⟩,
                ⟨(some 94), .mv (.t 0), none, []⟩,
                ⟨(some 95), .nilchk (.t 94), none, [5]⟩,
                ⟨(some 96), .faddr (.t 95) 1, none, [6]⟩,
                ⟨(some 97), .load (.t 96) 1 false, none, [7]⟩,
                ⟨(some 98), .mv (.t 0), none, []⟩,
                ⟨(some 99), .nilchk (.t 98), none, [9]⟩,
                ⟨(some 100), .faddr (.t 99) 1, none, [10]⟩,
                ⟨(some 101), .load (.t 100) 1 false, none, [11]⟩,
                ⟨(some 102), .mv (.t 6), none, []⟩,
                ⟨(some 103), .bin .add (.t 101) (.t 102), none, [12, 13]⟩,
                ⟨(some 104), .ssl (.t 93) (some (.t 97)) (some (.t 103)), none, [4, 8, 14]⟩,
                ⟨(some 105), .bin .add (.t 89) (.t 104), none, [0, 15]⟩,
                ⟨(some 3), .mv (.t 105), none, [16, 0, 1, 2, 3, 4, 5, 6, 7, 8, 9, 10, 11, 12, 13, 14, 15]⟩])
               (.region false [⟨(some 106), .mv (.t 0), none, []⟩,
                ⟨(some 107), .mv (.t 0), none, []⟩,
                ⟨(some 108), .nilchk (.t 107), none, [1]⟩,
                ⟨(some 109), .faddr (.t 108) 1, none, [2]⟩,
                ⟨(some 110), .load (.t 109) 1 false, none, [3]⟩,
                ⟨(some 111), .mv (.t 6), none, []⟩,
                ⟨(some 112), .bin .add (.t 110) (.t 111), none, [4, 5]⟩,
                ⟨(some 113), .nilchk (.t 106), none, [0, 1, 2, 3, 4, 5, 6]⟩,
                ⟨(some 114), .faddr (.t 113) 1, none, [7, 0, 1, 2, 3, 4, 5, 6]⟩,
                ⟨none, .store (.t 114) (.t 112) 1, none, [8, 6, 0, 1, 2, 3, 4, 5]⟩]))))))))))))
    (.seq (.region false [⟨(some 2), .mv (.k (.d (.str []))), none, []⟩])
     .ret)))) }
def HC300 (P : Program) (N : Nat → Nat) : Prop := HasF P (N 300) (C300 N) ∧ HC298 P N ∧ HC301 P N ∧ HC336 P N
def f300_j161 (L : (List UInt8) → Int → Int → Option (LR2 (Int × Int) Unit ((List UInt8) × Int × Int))) (k : Nat) (y10_2 : Int) (r137 : (Int × Int)) (a0 : (List UInt8)) (y10_1 : (List UInt8)) (y10_3 : Int) : Option (LR2 (Int × Int) Unit ((List UInt8) × Int × Int)) := gd (0 ≤ y10_2 ∧ y10_2 ≤ (IntKind.i64.wrap (y10_2 + r137.2)) ∧ (IntKind.i64.wrap (y10_2 + r137.2)) ≤ ((a0.length : Nat) : Int)) (gd (y10_1.length + (sl a0 y10_2 (IntKind.i64.wrap (y10_2 + r137.2))).length ≤ 9223372036854775807) (L (y10_1 ++ (sl a0 y10_2 (IntKind.i64.wrap (y10_2 + r137.2)))) (IntKind.i64.wrap (y10_2 + r137.2)) y10_3))
def f300_l10 (a0 : (List UInt8)) : Nat → (List UInt8) → Int → Int → Option (LR2 (Int × Int) Unit ((List UInt8) × Int × Int))
  | 0, _, _, _ => none
  | k + 1, y10_1, y10_2, y10_3 => cond (decide (y10_3 = (0 : Int))) (cond (decide (y10_2 ≥ ((a0.length : Nat) : Int))) ((f298 k a0 y10_2 y10_3 (4 : Int)).bind fun r56 => some (.b0 (y10_2, r56))) (gd (0 ≤ y10_2 ∧ y10_2 < ((a0.length : Nat) : Int)) (cond (decide ((((a0.getD (y10_2).toNat 0).toNat : Nat) : Int) < (32 : Int))) ((f298 k a0 y10_2 y10_3 (4 : Int)).bind fun r56 => some (.b0 (y10_2, r56))) (gd (0 ≤ y10_2 ∧ y10_2 < ((a0.length : Nat) : Int)) (cond (decide ((((a0.getD (y10_2).toNat 0).toNat : Nat) : Int) = (34 : Int))) (some (.r (y10_1, (IntKind.i64.wrap (y10_2 + (1 : Int))), y10_3))) (cond (decide ((((a0.getD (y10_2).toNat 0).toNat : Nat) : Int) = (92 : Int))) ((f301 k a0 (IntKind.i64.wrap (y10_2 + (1 : Int))) y10_3).bind fun r120 => gd (y10_1.length + r120.1.length ≤ 9223372036854775807) (f300_l10 a0 k (y10_1 ++ r120.1) r120.2.1 r120.2.2)) (gd (0 ≤ y10_2 ∧ y10_2 ≤ ((a0.length : Nat) : Int) ∧ ((a0.length : Nat) : Int) ≤ ((a0.length : Nat) : Int)) ((f336 k (sl a0 y10_2 ((a0.length : Nat) : Int))).bind fun r137 => cond (decide (r137.1 = (65533 : Int))) (cond (decide (r137.2 < (2 : Int))) ((f298 k a0 y10_2 y10_3 (4 : Int)).bind fun r158 => some (.b0 (y10_2, r158))) (f300_j161 (f300_l10 a0 k) k y10_2 r137 a0 y10_1 y10_3)) (f300_j161 (f300_l10 a0 k) k y10_2 r137 a0 y10_1 y10_3))))))))) (some (.b0 (y10_2, y10_3)))
def f300 (k : Nat) (a0 : (List UInt8)) (a1 : Int) (a2 : Int) : Option ((List UInt8) × Int × Int) := (f300_l10 a0 k ([] : List UInt8) a1 a2).bind fun o10 => (match o10 with | .b0 (x10_1, x10_2) => some (([] : List UInt8), x10_1, x10_2) | .r x => some x | _ => none)
theorem F300 {P : Program} {N : Nat → Nat} (hmix : P.follows .mixedOrders = true) (hc : HC300 P N) {k : Nat} {a0 : (List UInt8)} {a1 : Int} {a2 : Int} {r : ((List UInt8) × Int × Int)} (h : f300 k a0 a1 a2 = some r) :
    ACalls P (N 300) [(.ptr 0 0)] [(0, (.cells [(.d (.str a0)), (.d (.int .i64 a1)), (.d (.int .i64 a2))]))] (.d (.str r.1)) [(0, (.cells [(.d (.str a0)), (.d (.int .i64 r.2.1)), (.d (.int .i64 r.2.2))]))] := by
  refine acalls_canon (F := C300 N) hc.1 1 1 rfl ?_
  unfold f300 at h
  dsimp only [C300, startL]
  refine AWc.seq ?_
  refine AWc.rE hmix [] ?_
  refine AWc.seq ?_
  refine AWc.rE hmix [] ?_
  obtain ⟨o10, h10, h⟩ := bind_some h
  refine AWc.seqS (N := 115) 1 (fun (z : (Int × Int)) => []) (fun z => [(0, (.cells [(.d (.str a0)), (.d (.int .i64 z.1)), (.d (.int .i64 z.2))]))]) (fun z => o10 = .b0 z) rfl_le ?_ ?_
  · refine AWc.block ?_
    refine AWc.loopK (N := 115) 1 (fun (x : ((List UInt8) × Int × Int)) => [(0, (.ptr 0 0)), (3, (.d (.str x.1)))]) (fun x => [(0, (.cells [(.d (.str a0)), (.d (.int .i64 x.2.1)), (.d (.int .i64 x.2.2))]))]) (fun k x => f300_l10 a0 k x.1 x.2.1 x.2.2 = some o10) k (([] : List UInt8), a1, a2) rfl_le (fun x hx => by cases hx) h10 (inT [] []) ?_
    clear h10
    intro k
    rintro ⟨y10_1, y10_2, y10_3⟩ h10
    dsimp only at h10 ⊢
    rw [f300_l10] at h10
    refine AWc.seq ?_
    refine AWc.seq ?_
    refine AWc.rE hmix [] ?_
    rcases cc h10 with ⟨c21, h10⟩ | ⟨c21, h10⟩
    · refine AWc.cT c21 ?_
      refine AWc.skip ?_
      refine AWc.block ?_
      refine AWc.seq ?_
      refine AWc.seq ?_
      rcases cc h10 with ⟨c39, h10⟩ | ⟨c39, h10⟩
      · refine AWc.rE hmix [.br c39] ?_
        refine AWc.cT rfl ?_
        refine AWc.seq ?_
        obtain ⟨r56, e56, h10⟩ := bind_some h10
        refine AWc.rE hmix [.call (F298 hmix hc.2.1 e56) [] 1] ?_
        cases h10
        dsimp only at h
        refine AWc.exit ?_
        refine inBlk_ne rfl ?_
        refine inBlk_eq ?_
        exact ⟨(y10_2, r56), rfl, (inT [] [])⟩
      · obtain ⟨b48, h10⟩ := gd_some h10
        refine AWc.rE hmix [.br c39, .sd b48] ?_
        rcases cc h10 with ⟨c51, h10⟩ | ⟨c51, h10⟩
        · refine AWc.cT c51 ?_
          refine AWc.seq ?_
          obtain ⟨r56, e56, h10⟩ := bind_some h10
          refine AWc.rE hmix [.call (F298 hmix hc.2.1 e56) [] 1] ?_
          cases h10
          dsimp only at h
          refine AWc.exit ?_
          refine inBlk_ne rfl ?_
          refine inBlk_eq ?_
          exact ⟨(y10_2, r56), rfl, (inT [] [])⟩
        · refine AWc.cF c51 ?_
          refine AWc.skip ?_
          refine AWc.seq ?_
          obtain ⟨b70, h10⟩ := gd_some h10
          refine AWc.rE hmix [.sd b70] ?_
          refine AWc.seq ?_
          refine AWc.seq ?_
          refine AWc.rE hmix [] ?_
          rcases cc h10 with ⟨c78, h10⟩ | ⟨c78, h10⟩
          · refine AWc.cT c78 ?_
            refine AWc.seq ?_
            refine AWc.rE hmix [] ?_
            refine AWc.seq ?_
            refine AWc.rE hmix [] ?_
            cases h10
            dsimp only at h
            have hr := Option.some.inj h
            subst hr
            exact AWc.ret (canQ (N := 115) (k := 1) (l' := [(2, (.d (.str y10_1)))]) (H' := [(0, (.cells [(.d (.str a0)), (.d (.int .i64 (IntKind.i64.wrap (y10_2 + (1 : Int))))), (.d (.int .i64 y10_3))]))]) rfl (inT [] []) (doneA (.inr rfl) rfl ⟨trivial, trivial⟩ (.refl _) (hasCons rfl hasNil)))
          · refine AWc.cF c78 ?_
            refine AWc.skip ?_
            refine AWc.seq ?_
            refine AWc.seq ?_
            refine AWc.rE hmix [] ?_
            rcases cc h10 with ⟨c103, h10⟩ | ⟨c103, h10⟩
            · refine AWc.cT c103 ?_
              refine AWc.seq ?_
              refine AWc.rE hmix [] ?_
              refine AWc.seq ?_
              obtain ⟨r120, e120, h10⟩ := bind_some h10
              obtain ⟨b121, h10⟩ := gd_some h10
              refine AWc.rE hmix [.call (F301 hmix hc.2.2.1 e120) [] 1, .sd b121] ?_
              refine AWc.exit ?_
              refine inBlk_eq ?_
              exact ⟨((y10_1 ++ r120.1), r120.2.1, r120.2.2), h10, (inT [] [])⟩
            · refine AWc.cF c103 ?_
              refine AWc.skip ?_
              refine AWc.seq ?_
              obtain ⟨b136, h10⟩ := gd_some h10
              obtain ⟨r137, e137, h10⟩ := bind_some h10
              refine AWc.rE hmix [.sd b136, .call (F336 hmix hc.2.2.2 e137) [] 0] ?_
              refine AWc.seqS (N := 115) 1 (fun (z : Unit) => [(0, (.ptr 0 0)), (3, (.d (.str y10_1))), (6, (.d (.int .i64 r137.2))), (23, (.ptr 0 0)), (24, (.ptr 0 0)), (25, (.ptr 0 0)), (26, (.d (.str a0))), (27, (.ptr 0 0)), (28, (.ptr 0 0)), (29, (.ptr 0 1)), (30, (.d (.int .i64 y10_2))), (31, (.d (.int .u8 (((a0.getD (y10_2).toNat 0).toNat : Nat) : Int)))), (32, (.d (.bool (decide ((((a0.getD (y10_2).toNat 0).toNat : Nat) : Int) < (32 : Int)))))), (84, .any), (85, .any)]) (fun z => [(0, (.cells [(.d (.str a0)), (.d (.int .i64 y10_2)), (.d (.int .i64 y10_3))]))]) (fun z => f300_j161 (f300_l10 a0 k) k y10_2 r137 a0 y10_1 y10_3 = some o10) rfl_le ?_ ?_
              · refine AWc.seq ?_
                rcases cc h10 with ⟨c149, h10⟩ | ⟨c149, h10⟩
                · refine AWc.rE hmix [.br c149] ?_
                  rcases cc h10 with ⟨c153, h10⟩ | ⟨c153, h10⟩
                  · refine AWc.cT c153 ?_
                    refine AWc.seq ?_
                    obtain ⟨r158, e158, h10⟩ := bind_some h10
                    refine AWc.rE hmix [.call (F298 hmix hc.2.1 e158) [] 1] ?_
                    cases h10
                    dsimp only at h
                    refine AWc.exit ?_
                    refine inBlk_ne rfl ?_
                    refine inBlk_eq ?_
                    exact ⟨(y10_2, r158), rfl, (inT [] [])⟩
                  · refine AWc.cF c153 ?_
                    refine AWc.skip ?_
                    exact ⟨(), h10, (inT [] [])⟩
                · refine AWc.rE hmix [.br c149] ?_
                  refine AWc.cF rfl ?_
                  refine AWc.skip ?_
                  exact ⟨(), h10, (inT [] [])⟩
              · rintro ⟨⟩ h10
                unfold f300_j161 at h10
                refine AWc.seq ?_
                obtain ⟨b179, h10⟩ := gd_some h10
                obtain ⟨b180, h10⟩ := gd_some h10
                refine AWc.rE hmix [.sd b179, .sd b180] ?_
                refine AWc.rE hmix [] ?_
                exact ⟨((y10_1 ++ (sl a0 y10_2 (IntKind.i64.wrap (y10_2 + r137.2)))), (IntKind.i64.wrap (y10_2 + r137.2)), y10_3), h10, (inT [] [])⟩
    · refine AWc.cF c21 ?_
      cases h10
      dsimp only at h
      refine AWc.exit ?_
      refine inBlk_eq ?_
      exact ⟨(y10_2, y10_3), rfl, (inT [] [])⟩
  · rintro ⟨x10_1, x10_2⟩ ho
    subst ho
    dsimp only at h ⊢
    refine AWc.seq ?_
    refine AWc.rE hmix [] ?_
    have hr := Option.some.inj h
    subst hr
    exact AWc.ret (canQ (N := 115) (k := 1) (l' := [(2, (.d (.str ([] : List UInt8))))]) (H' := [(0, (.cells [(.d (.str a0)), (.d (.int .i64 x10_1)), (.d (.int .i64 x10_2))]))]) rfl (inT [] []) (doneA (.inr rfl) rfl ⟨trivial, trivial⟩ (.refl _) (hasCons rfl hasNil)))
/-- courant/couranthelp.In[string] -/
def C77 (N : Nat → Nat) : AFunc := { n := 18, params := 2, res := [.tmp 4], body :=
 (.seq (.region false [⟨(some 4), .mv (.k (.d (.bool false))), none, []⟩])
  (.seq (.seq (.region false [⟨(some 5), .mv (.k (.d (.int .i64 0))), none, []⟩])
    (.block 0 (.loop (.seq (.seq (.region false [⟨(some 6), .mv (.t 5), none, []⟩,
         ⟨(some 7), .mv (.t 0), none, []⟩,
         ⟨(some 8), .len (.t 7), none, [1]⟩,
         ⟨(some 9), .bin .lss (.t 6) (.t 8), none, [0, 2]⟩])
        (.cond (.t 9) (.skip)
         (.exit 0)))
       (.seq (.block 1 (.seq (.region false [⟨(some 12), .mv (.t 0), none, []⟩,
           ⟨(some 13), .mv (.t 5), none, []⟩,
           ⟨(some 14), .iaddr (.t 12) (.t 13) 1, none, [0, 1]⟩,
           ⟨(some 15), .load (.t 14) 1 false, none, [2]⟩,
           ⟨(some 16), .mv (.t 1), none, []⟩,
           ⟨(some 17), .bin .eql (.t 15) (.t 16), none, [3, 4]⟩])
          (.cond (.t 17) (.seq (.region false [⟨(some 4), .mv (.k (.d (.bool true))), none, []⟩])
            .ret)
           (.skip))))
        (.region false [⟨(some 10), .mv (.t 5), none, []⟩,
         ⟨(some 11), .bin .add (.t 10) (.k (.d (.int .i64 1))), none, [0]⟩,
         ⟨(some 5), .mv (.t 11), none, [1, 0]⟩]))))))
   (.seq (.region false [⟨(some 4), .mv (.k (.d (.bool false))), none, []⟩])
    .ret))) }
def HC77 (P : Program) (N : Nat → Nat) : Prop := HasF P (N 77) (C77 N)
def f77_l10 (a0 : (List (List UInt8))) (a1 : (List UInt8)) : Nat → Int → Option (LR2 Unit Unit Bool)
  | 0, _ => none
  | k + 1, y10_1 => cond (decide (y10_1 < ((a0.length : Nat) : Int))) (gd (0 ≤ y10_1 ∧ y10_1 < ((a0.length : Nat) : Int)) (cond (decide ((rd a0 y10_1) = a1)) (some (.r true)) (f77_l10 a0 a1 k (IntKind.i64.wrap (y10_1 + (1 : Int)))))) (some (.b0 ()))
def f77 (k : Nat) (a0 : (List (List UInt8))) (a1 : (List UInt8)) : Option Bool := (f77_l10 a0 a1 k (0 : Int)).bind fun o10 => (match o10 with | .b0 () => some false | .r x => some x | _ => none)
theorem F77 {P : Program} {N : Nat → Nat} (hmix : P.follows .mixedOrders = true) (hc : HC77 P N) {k : Nat} {a0 : (List (List UInt8))} {a1 : (List UInt8)} {r : Bool} (h : f77 k a0 a1 = some r) :
    ACalls P (N 77) [(.d (.sl (List.map D.str a0))), (.d (.str a1))] [] (.d (.bool r)) [] := by
  refine acalls_canon (F := C77 N) hc 0 0 rfl ?_
  unfold f77 at h
  dsimp only [C77, startL]
  refine AWc.seq ?_
  refine AWc.rE hmix [] ?_
  refine AWc.seq ?_
  refine AWc.seq ?_
  refine AWc.rE hmix [] ?_
  obtain ⟨o10, h10, h⟩ := bind_some h
  refine AWc.block ?_
  refine AWc.loopK (N := 18) 0 (fun (x : Int) => [(0, (.d (.sl (List.map D.str a0)))), (1, (.d (.str a1))), (5, (.d (.int .i64 x)))]) (fun x => []) (fun k x => f77_l10 a0 a1 k x = some o10) k (0 : Int) rfl_le (fun x hx => by cases hx) h10 (inT [] []) ?_
  clear h10
  intro k
  intro y10_1 h10
  rw [f77_l10] at h10
  refine AWc.seq ?_
  refine AWc.seq ?_
  refine AWc.rE hmix [.ln D.str a0] ?_
  rcases cc h10 with ⟨c20, h10⟩ | ⟨c20, h10⟩
  · refine AWc.cT c20 ?_
    refine AWc.skip ?_
    refine AWc.seq ?_
    refine AWc.block ?_
    refine AWc.seq ?_
    obtain ⟨b30, h10⟩ := gd_some h10
    refine AWc.rE hmix [.iad D.str a0 1 (fun _ => rfl) b30] ?_
    rcases cc h10 with ⟨c34, h10⟩ | ⟨c34, h10⟩
    · refine AWc.cT c34 ?_
      refine AWc.seq ?_
      refine AWc.rE hmix [] ?_
      cases h10
      dsimp only at h
      have hr := Option.some.inj h
      subst hr
      exact AWc.ret (canQ (N := 18) (k := 0) (l' := [(4, (.d (.bool true)))]) (H' := []) rfl (inT [] []) (doneA (.inr rfl) rfl ⟨trivial, trivial⟩ (.refl _) hasNil))
    · refine AWc.cF c34 ?_
      refine AWc.skip ?_
      refine AWc.rE hmix [] ?_
      exact ⟨(IntKind.i64.wrap (y10_1 + (1 : Int))), h10, (inT [] [])⟩
  · refine AWc.cF c20 ?_
    cases h10
    dsimp only at h
    refine AWc.exit ?_
    refine inBlk_eq ?_
    refine AWc.seq ?_
    refine AWc.rE hmix [] ?_
    have hr := Option.some.inj h
    subst hr
    exact AWc.ret (canQ (N := 18) (k := 0) (l' := [(4, (.d (.bool false)))]) (H' := []) rfl (inT [] []) (doneA (.inr rfl) rfl ⟨trivial, trivial⟩ (.refl _) hasNil))
/-- (*courant/courantref02.reader).many -/
def C353 (N : Nat → Nat) : AFunc := { n := 97, params := 2, res := [.cell 4 4 true], body :=
 (.seq (.region false [⟨(some 4), .alloc [(.int .i64 0), (.str []), (.sl []), (.sl [])], none, []⟩])
  (.seq (.region false [⟨(some 8), .build [(.int .i64 0), (.str []), (.sl []), (.sl [])] [(0, 1, (.k (.d (.int .i64 6))))], none, []⟩,
    ⟨(some 5), .alloc [(.int .i64 0), (.str []), (.sl []), (.sl [])], none, []⟩,
    ⟨none, .store (.t 5) (.t 8) 4, none, [1, 0]⟩])
   (.seq (.region false [⟨(some 6), .mv (.k (.d (.str [93]))), none, []⟩])
    (.seq (.seq (.region true [⟨(some 9), .mv (.t 0), none, []⟩,
       ⟨(some 10), .nilchk (.t 9), none, [0]⟩,
       ⟨(some 11), .faddr (.t 10) 0, none, [1]⟩,
       ⟨(some 12), .load (.t 11) 1 false, none, [2]⟩,
       ⟨(some 13), .mv (.t 0), none, []⟩,
       ⟨(some 14), .nilchk (.t 13), none, [4]⟩,
       ⟨(some 15), .faddr (.t 14) 1, none, [5]⟩,
       ⟨(some 16), .load (.t 15) 1 false, none, [6]⟩,
       ⟨(some 17), .idx (.t 12) (.t 16), none, [3, 7]⟩,
       ⟨(some 18), .bin .eql (.t 17) (.k (.d (.int .u8 123))), none, [8]⟩])
      (.cond (.t 18) (.region false [⟨(some 19), .faddr (.t 5) 0, none, []⟩,
        ⟨none, .store (.t 19) (.k (.d (.int .i64 7))) 1, none, [0]⟩,
        ⟨(some 6), .mv (.k (.d (.str [125]))), none, [1, 0]⟩])
       (.skip)))
     (.seq (.region false [⟨(some 20), .mv (.t 0), none, []⟩,
       ⟨(some 21), .nilchk (.t 20), none, [0]⟩,
       ⟨(some 22), .faddr (.t 21) 1, none, [1]⟩,
       ⟨(some 23), .load (.t 22) 1 false, none, [2]⟩,
       ⟨(some 24), .bin .add (.t 23) (.k (.d (.int .i64 1))), none, [3]⟩,
       ⟨(some 25), .nilchk (.t 20), none, [0, 1, 2, 3, 4]⟩,
       ⟨(some 26), .faddr (.t 25) 1, none, [5, 0, 1, 2, 3, 4]⟩,
       ⟨none, .store (.t 26) (.t 24) 1, none, [6, 4, 0, 1, 2, 3]⟩])
      (.seq (.region false [⟨(some 27), .mv (.t 0), none, []⟩,
        ⟨(some 28), .call (.k (.d (.fn (N 297)))) [(.t 27)], none, [0]⟩])
       (.seq (.seq (.region false [⟨(some 29), .mv (.t 0), none, []⟩,
          ⟨(some 30), .mv (.t 6), none, []⟩,
          ⟨(some 31), .call (.k (.d (.fn (N 299)))) [(.t 29), (.t 30)], none, [0, 1]⟩])
         (.cond (.t 31) (.seq (.region false [⟨(some 32), .load (.t 5) 4 true, none, []⟩,
            ⟨none, .store (.t 4) (.t 32) 4, none, [0]⟩])
           .ret)
          (.skip)))
        (.seq (.block 0 (.loop (.seq (.seq (.region false [⟨(some 33), .mv (.t 0), none, []⟩,
              ⟨(some 34), .nilchk (.t 33), none, [0]⟩,
              ⟨(some 35), .faddr (.t 34) 2, none, [1]⟩,
              ⟨(some 36), .load (.t 35) 1 false, none, [2]⟩,
              ⟨(some 37), .bin .eql (.t 36) (.k (.d (.int .i64 0))), none, [3]⟩])
             (.cond (.t 37) (.skip)
              (.exit 0)))
            (.block 1 (.seq (.seq (.region false [⟨(some 38), .faddr (.t 5) 0, none, []⟩,
                ⟨(some 39), .load (.t 38) 1 false, none, [0]⟩,
                ⟨(some 40), .bin .eql (.t 39) (.k (.d (.int .i64 7))), none, [1]⟩])
               (.cond (.t 40) (.seq (.region false [⟨(some 41), .mv (.t 0), none, []⟩,
                  ⟨(some 42), .call (.k (.d (.fn (N 297)))) [(.t 41)], none, [0]⟩])
                 (.seq (.seq (.region false [⟨(some 43), .mv (.t 0), none, []⟩,
                    ⟨(some 44), .call (.k (.d (.fn (N 299)))) [(.t 43), (.k (.d (.str [34])))], none, [0]⟩,
                    ⟨(some 45), .un .not (.t 44), none, [1]⟩])
                   (.cond (.t 45) (.seq (.region false [⟨(some 46), .mv (.t 0), none, []⟩,
                      ⟨(some 47), .call (.k (.d (.fn (N 298)))) [(.t 46), (.k (.d (.int .i64 4)))], none, [0]⟩])
                     (.exit 0))
                    (.skip)))
                  (.seq (.region false [⟨(some 48), .mv (.t 0), none, []⟩,
                    ⟨(some 49), .call (.k (.d (.fn (N 300)))) [(.t 48)], none, [0]⟩,
                    ⟨(some 7), .mv (.t 49), none, [1, 0]⟩])
                   (.seq (.seq (.region false [⟨(some 50), .mv (.t 0), none, []⟩,
                      ⟨(some 51), .nilchk (.t 50), none, [0]⟩,
                      ⟨(some 52), .faddr (.t 51) 2, none, [1]⟩,
                      ⟨(some 53), .load (.t 52) 1 false, none, [2]⟩,
                      ⟨(some 54), .bin .eql (.t 53) (.k (.d (.int .i64 0))), none, [3]⟩,
                      ⟨(some 55), .mv (.t 54), none, [4]⟩,
                      ⟨(some 56), .faddr (.t 5) 3, (some (55, true)), [5]⟩,
                      ⟨(some 57), .load (.t 56) 1 false, (some (55, true)), [6, 5]⟩,
                      ⟨(some 58), .mv (.t 7), (some (55, true)), [5]⟩,
                      ⟨(some 59), .call (.k (.d (.fn (N 77)))) [(.t 57), (.t 58)], (some (55, true)), [7, 8, 5]⟩,
                      ⟨(some 60), .pick (.t 55) (.t 59) (.k (.d (.bool false))), none, [5, 9]⟩])
                     (.cond (.t 60) (.seq (.region false [⟨(some 61), .mv (.t 0), none, []⟩,
                        ⟨(some 62), .call (.k (.d (.fn (N 298)))) [(.t 61), (.k (.d (.int .i64 7)))], none, [0]⟩])
                       (.exit 0))
                      (.skip)))
                    (.seq (.region false [⟨(some 63), .faddr (.t 5) 3, none, []⟩,
                      ⟨(some 64), .load (.t 63) 1 false, none, [0]⟩,
                      ⟨(some 65), .mv (.t 7), none, []⟩,
                      ⟨(some 66), .bslice 1 1 [(.str [])] [(0, (.t 65))], none, [2]⟩,
                      ⟨(some 67), .app (.t 64) (.t 66) 1 16 [(.str [])], none, [1, 3]⟩,
                      ⟨(some 68), .faddr (.t 5) 3, none, [0, 1, 2, 3, 4]⟩,
                      ⟨none, .store (.t 68) (.t 67) 1, none, [5, 4, 0, 1, 2, 3]⟩])
                     (.seq (.region false [⟨(some 69), .mv (.t 0), none, []⟩,
                       ⟨(some 70), .call (.k (.d (.fn (N 297)))) [(.t 69)], none, [0]⟩])
                      (.seq (.region false [⟨(some 71), .mv (.t 0), none, []⟩,
                        ⟨(some 72), .call (.k (.d (.fn (N 299)))) [(.t 71), (.k (.d (.str [58])))], none, [0]⟩,
                        ⟨(some 73), .un .not (.t 72), none, [1]⟩])
                       (.cond (.t 73) (.seq (.region false [⟨(some 74), .mv (.t 0), none, []⟩,
                          ⟨(some 75), .call (.k (.d (.fn (N 298)))) [(.t 74), (.k (.d (.int .i64 4)))], none, [0]⟩])
                         (.exit 0))
                        (.skip)))))))))
                (.skip)))
              (.seq (.region true [⟨(some 76), .faddr (.t 5) 2, none, []⟩,
                ⟨(some 77), .load (.t 76) 1 false, none, [0]⟩,
                ⟨(some 78), .mv (.t 0), none, []⟩,
                ⟨(some 79), .mv (.t 1), none, []⟩,
                ⟨(some 80), .bin .add (.t 79) (.k (.d (.int .i64 1))), none, [3]⟩,
                ⟨(some 81), .call (.k (.d (.fn (N 296)))) [(.t 78), (.t 80)], none, [2, 4]⟩,
                ⟨(some 82), .bslice 1 4 [(.int .i64 0), (.str []), (.sl []), (.sl [])] [(0, (.t 81))], none, [5]⟩,
                ⟨(some 83), .app (.t 77) (.t 82) 4 72 [(.int .i64 0), (.str []), (.sl []), (.sl [])], none, [1, 6, 5]⟩,
                ⟨(some 84), .faddr (.t 5) 2, none, [0, 1, 2, 3, 4, 5, 6, 7]⟩,
                ⟨none, .store (.t 84) (.t 83) 1, none, [8, 7, 0, 1, 2, 3, 4, 5, 6]⟩])
               (.seq (.region false [⟨(some 85), .mv (.t 0), none, []⟩,
                 ⟨(some 86), .call (.k (.d (.fn (N 297)))) [(.t 85)], none, [0]⟩])
                (.seq (.seq (.region false [⟨(some 87), .mv (.t 0), none, []⟩,
                   ⟨(some 88), .mv (.t 6), none, []⟩,
                   ⟨(some 89), .call (.k (.d (.fn (N 299)))) [(.t 87), (.t 88)], none, [0, 1]⟩])
                  (.cond (.t 89) (.seq (.region false [⟨(some 90), .load (.t 5) 4 true, none, []⟩,
                     ⟨none, .store (.t 4) (.t 90) 4, none, [0]⟩])
                    .ret)
                   (.skip)))
                 (.seq (.region false [⟨(some 91), .mv (.t 0), none, []⟩,
                   ⟨(some 92), .call (.k (.d (.fn (N 299)))) [(.t 91), (.k (.d (.str [44])))], none, [0]⟩,
                   ⟨(some 93), .un .not (.t 92), none, [1]⟩])
                  (.cond (.t 93) (.region false [⟨(some 94), .mv (.t 0), none, []⟩,
                    ⟨(some 95), .call (.k (.d (.fn (N 298)))) [(.t 94), (.k (.d (.int .i64 4)))], none, [0]⟩])
                   (.skip)))))))))))
         (.seq (.region false [⟨(some 96), .build [(.int .i64 0), (.str []), (.sl []), (.sl [])] [], none, []⟩,
           ⟨none, .store (.t 4) (.t 96) 4, none, [0]⟩])
          .ret))))))))) }
def HC353 (P : Program) (N : Nat → Nat) : Prop := HasF P (N 353) (C353 N) ∧ HC297 P N ∧ HC299 P N ∧ HC298 P N ∧ HC300 P N ∧ HC77 P N
def f353_j170 (L : Int → Int → (List (RT 4)) → (List (List UInt8)) → Option (LR2 (Int × Int) Unit (Int × (List (RT 4)) × (List (List UInt8)) × Int × Int))) (k : Nat) (rc296 : (List UInt8) → Int → Int → Int → Option (Int × (List UInt8) × (List (RT 4)) × (List (List UInt8)) × Int × Int)) (a0 : (List UInt8)) (a3 : Int) (y68_3 : (List (RT 4))) (j36_1 : (List UInt8)) (j36_2 : Int) (j170_1 : Int) (j170_2 : Int) (j170_3 : (List (List UInt8))) : Option (LR2 (Int × Int) Unit (Int × (List (RT 4)) × (List (List UInt8)) × Int × Int)) := (rc296 a0 j170_1 j170_2 (IntKind.i64.wrap (a3 + (1 : Int)))).bind fun r178 => gd ((y68_3.length + ([(RT.of TJson.ok (TJson.mk r178.1 r178.2.1 r178.2.2.1 r178.2.2.2.1))] : List (RT 4)).length) * 2 * 72 ≤ 281474976710656) ((f297 k a0 r178.2.2.2.2.1 r178.2.2.2.2.2).bind fun r187 => (f299 k a0 r187 r178.2.2.2.2.2 j36_1).bind fun r194 => cond r194.1 (some (.r (j36_2, (y68_3 ++ ([(RT.of TJson.ok (TJson.mk r178.1 r178.2.1 r178.2.2.1 r178.2.2.2.1))] : List (RT 4))), j170_3, r194.2, r178.2.2.2.2.2))) ((f299 k a0 r194.2 r178.2.2.2.2.2 ([44] : List UInt8)).bind fun r207 => cond (!r207.1) ((f298 k a0 r207.2 r178.2.2.2.2.2 (4 : Int)).bind fun r213 => L r207.2 r213 (y68_3 ++ ([(RT.of TJson.ok (TJson.mk r178.1 r178.2.1 r178.2.2.1 r178.2.2.2.1))] : List (RT 4))) j170_3) (L r207.2 r178.2.2.2.2.2 (y68_3 ++ ([(RT.of TJson.ok (TJson.mk r178.1 r178.2.1 r178.2.2.1 r178.2.2.2.1))] : List (RT 4))) j170_3)))
def f353_j140 (L : Int → Int → (List (RT 4)) → (List (List UInt8)) → Option (LR2 (Int × Int) Unit (Int × (List (RT 4)) × (List (List UInt8)) × Int × Int))) (k : Nat) (y68_4 : (List (List UInt8))) (r115 : ((List UInt8) × Int × Int)) (a0 : (List UInt8)) (rc296 : (List UInt8) → Int → Int → Int → Option (Int × (List UInt8) × (List (RT 4)) × (List (List UInt8)) × Int × Int)) (a3 : Int) (y68_3 : (List (RT 4))) (j36_1 : (List UInt8)) (j36_2 : Int) : Option (LR2 (Int × Int) Unit (Int × (List (RT 4)) × (List (List UInt8)) × Int × Int)) := gd ((y68_4.length + ([r115.1] : List (List UInt8)).length) * 2 * 16 ≤ 281474976710656) ((f297 k a0 r115.2.1 r115.2.2).bind fun r154 => (f299 k a0 r154 r115.2.2 ([58] : List UInt8)).bind fun r159 => cond (!r159.1) ((f298 k a0 r159.2 r115.2.2 (4 : Int)).bind fun r166 => some (.b0 (r159.2, r166))) (f353_j170 (L) k rc296 a0 a3 y68_3 j36_1 j36_2 r159.2 r115.2.2 (y68_4 ++ ([r115.1] : List (List UInt8)))))
def f353_l68 (j36_2 : Int) (a0 : (List UInt8)) (rc296 : (List UInt8) → Int → Int → Int → Option (Int × (List UInt8) × (List (RT 4)) × (List (List UInt8)) × Int × Int)) (a3 : Int) (j36_1 : (List UInt8)) : Nat → Int → Int → (List (RT 4)) → (List (List UInt8)) → Option (LR2 (Int × Int) Unit (Int × (List (RT 4)) × (List (List UInt8)) × Int × Int))
  | 0, _, _, _, _ => none
  | k + 1, y68_1, y68_2, y68_3, y68_4 => cond (decide (y68_2 = (0 : Int))) (cond (decide (j36_2 = (7 : Int))) ((f297 k a0 y68_1 y68_2).bind fun r95 => (f299 k a0 r95 y68_2 ([34] : List UInt8)).bind fun r101 => cond (!r101.1) ((f298 k a0 r101.2 y68_2 (4 : Int)).bind fun r108 => some (.b0 (r101.2, r108))) ((f300 k a0 r101.2 y68_2).bind fun r115 => cond (decide (r115.2.2 = (0 : Int))) ((f77 k y68_4 r115.1).bind fun r130 => cond r130 ((f298 k a0 r115.2.1 r115.2.2 (7 : Int)).bind fun r137 => some (.b0 (r115.2.1, r137))) (f353_j140 (f353_l68 j36_2 a0 rc296 a3 j36_1 k) k y68_4 r115 a0 rc296 a3 y68_3 j36_1 j36_2)) (f353_j140 (f353_l68 j36_2 a0 rc296 a3 j36_1 k) k y68_4 r115 a0 rc296 a3 y68_3 j36_1 j36_2))) (f353_j170 (f353_l68 j36_2 a0 rc296 a3 j36_1 k) k rc296 a0 a3 y68_3 j36_1 j36_2 y68_1 y68_2 y68_4)) (some (.b0 (y68_1, y68_2)))
def f353_j36 (k : Nat) (a0 : (List UInt8)) (a1 : Int) (a2 : Int) (rc296 : (List UInt8) → Int → Int → Int → Option (Int × (List UInt8) × (List (RT 4)) × (List (List UInt8)) × Int × Int)) (a3 : Int) (j36_1 : (List UInt8)) (j36_2 : Int) : Option (Int × (List (RT 4)) × (List (List UInt8)) × Int × Int) := (f297 k a0 (IntKind.i64.wrap (a1 + (1 : Int))) a2).bind fun r51 => (f299 k a0 r51 a2 j36_1).bind fun r58 => cond r58.1 (some (j36_2, ([] : List (RT 4)), ([] : List (List UInt8)), r58.2, a2)) ((f353_l68 j36_2 a0 rc296 a3 j36_1 k r58.2 a2 ([] : List (RT 4)) ([] : List (List UInt8))).bind fun o68 => (match o68 with | .b0 (x68_1, x68_2) => some ((0 : Int), ([] : List (RT 4)), ([] : List (List UInt8)), x68_1, x68_2) | .r x => some x | _ => none))
def f353 (rc296 : (List UInt8) → Int → Int → Int → Option (Int × (List UInt8) × (List (RT 4)) × (List (List UInt8)) × Int × Int)) (k : Nat) (a0 : (List UInt8)) (a1 : Int) (a2 : Int) (a3 : Int) : Option (Int × (List (RT 4)) × (List (List UInt8)) × Int × Int) := gd (0 ≤ a1 ∧ a1 < ((a0.length : Nat) : Int)) (cond (decide ((((a0.getD (a1).toNat 0).toNat : Nat) : Int) = (123 : Int))) (f353_j36 k a0 a1 a2 rc296 a3 ([125] : List UInt8) (7 : Int)) (f353_j36 k a0 a1 a2 rc296 a3 ([93] : List UInt8) (6 : Int)))
theorem F353 {P : Program} {N : Nat → Nat} (hmix : P.follows .mixedOrders = true) (hc : HC353 P N) {rc296 : (List UInt8) → Int → Int → Int → Option (Int × (List UInt8) × (List (RT 4)) × (List (List UInt8)) × Int × Int)} (hrc296 : RH296 P N rc296) {k : Nat} {a0 : (List UInt8)} {a1 : Int} {a2 : Int} {a3 : Int} {r : (Int × (List (RT 4)) × (List (List UInt8)) × Int × Int)} (h : f353 rc296 k a0 a1 a2 a3 = some r) :
    ACalls P (N 353) [(.ptr 0 0), (.d (.int .i64 a3))] [(0, (.cells [(.d (.str a0)), (.d (.int .i64 a1)), (.d (.int .i64 a2))]))] (.d (.agg [(.int .i64 r.1), (.str ([] : List UInt8)), (.sl (List.map (rtE (z := 4)) r.2.1)), (.sl (List.map D.str r.2.2.1))])) [(0, (.cells [(.d (.str a0)), (.d (.int .i64 r.2.2.2.1)), (.d (.int .i64 r.2.2.2.2))]))] := by
  refine acalls_canon (F := C353 N) hc.1 1 1 rfl ?_
  unfold f353 at h
  dsimp only [C353, startL]
  refine AWc.seq ?_
  refine AWc.rE hmix [] ?_
  refine AWc.seq ?_
  refine AWc.rE hmix [.raw] ?_
  refine AWc.seq ?_
  refine AWc.rE hmix [] ?_
  refine AWc.seqS (N := 97) 3 (fun (z : ((List UInt8) × Int)) => [(0, (.ptr 0 0)), (1, (.d (.int .i64 a3))), (4, (.ptr 1 0)), (5, (.ptr 2 0)), (6, (.d (.str z.1)))]) (fun z => [(0, (.cells [(.d (.str a0)), (.d (.int .i64 a1)), (.d (.int .i64 a2))])), (1, (.cells [(.d (.int .i64 (0 : Int))), (.d (.str ([] : List UInt8))), .nils, .nils])), (2, (.cells [(.d (.int .i64 z.2)), (.d (.str ([] : List UInt8))), .nils, .nils]))]) (fun z => f353_j36 k a0 a1 a2 rc296 a3 z.1 z.2 = some r) rfl_le ?_ ?_
  · refine AWc.seq ?_
    obtain ⟨b27, h⟩ := gd_some h
    refine AWc.rE hmix [.sd b27] ?_
    rcases cc h with ⟨c29, h⟩ | ⟨c29, h⟩
    · refine AWc.cT c29 ?_
      refine AWc.rE hmix [] ?_
      exact ⟨(([125] : List UInt8), (7 : Int)), h, (inT [] [])⟩
    · refine AWc.cF c29 ?_
      refine AWc.skip ?_
      exact ⟨(([93] : List UInt8), (6 : Int)), h, (inT [] [])⟩
  · rintro ⟨j36_1, j36_2⟩ h
    dsimp only at h ⊢
    unfold f353_j36 at h
    refine AWc.seq ?_
    refine AWc.rE hmix [] ?_
    refine AWc.seq ?_
    obtain ⟨r51, e51, h⟩ := bind_some h
    refine AWc.rE hmix [.call (F297 hmix hc.2.1 e51) [] 1] ?_
    refine AWc.seq ?_
    refine AWc.seq ?_
    obtain ⟨r58, e58, h⟩ := bind_some h
    refine AWc.rE hmix [.call (F299 hmix hc.2.2.1 e58) [] 1] ?_
    rcases cc h with ⟨c59, h⟩ | ⟨c59, h⟩
    · refine AWc.cT c59 ?_
      refine AWc.seq ?_
      refine AWc.rE hmix [] ?_
      have hr := Option.some.inj h
      subst hr
      exact AWc.ret (canQ (N := 97) (k := 2) (l' := [(4, (.ptr 1 0))]) (H' := [(1, (.cells [(.d (.int .i64 j36_2)), (.d (.str ([] : List UInt8))), (.d (.sl (List.map (rtE (z := 4)) ([] : List (RT 4))))), (.d (.sl (List.map D.str ([] : List (List UInt8)))))])), (0, (.cells [(.d (.str a0)), (.d (.int .i64 r58.2)), (.d (.int .i64 a2))]))]) rfl (inT [] []) (doneA (.inr rfl) rfl ⟨(Nat.le_of_ble_eq_true rfl), trivial⟩ (.refl _) (hasCons rfl hasNil)))
    · refine AWc.cF c59 ?_
      refine AWc.skip ?_
      obtain ⟨o68, h68, h⟩ := bind_some h
      refine AWc.seqS (N := 97) 2 (fun (z : (Int × Int)) => [(4, (.ptr 1 0))]) (fun z => [(1, (.cells [(.d (.int .i64 (0 : Int))), (.d (.str ([] : List UInt8))), .nils, .nils])), (0, (.cells [(.d (.str a0)), (.d (.int .i64 z.1)), (.d (.int .i64 z.2))]))]) (fun z => o68 = .b0 z) rfl_le ?_ ?_
      · refine AWc.block ?_
        refine AWc.loopK (N := 97) 5 (fun (x : (Int × Int × (List (RT 4)) × (List (List UInt8)))) => [(0, (.ptr 0 0)), (1, (.d (.int .i64 a3))), (4, (.ptr 1 0)), (5, (.ptr 2 0)), (6, (.d (.str j36_1)))]) (fun x => [(0, (.cells [(.d (.str a0)), (.d (.int .i64 x.1)), (.d (.int .i64 x.2.1))])), (1, (.cells [(.d (.int .i64 (0 : Int))), (.d (.str ([] : List UInt8))), .nils, .nils])), (2, (.cells [(.d (.int .i64 j36_2)), (.d (.str ([] : List UInt8))), (.ap 3 4 (List.map (rtE (z := 4)) x.2.2.1)), (.ap 4 1 (List.map D.str x.2.2.2))])), (3, (.tok ((List.map (rtE (z := 4)) x.2.2.1).length * 4))), (4, (.tok ((List.map D.str x.2.2.2).length * 1)))]) (fun k x => f353_l68 j36_2 a0 rc296 a3 j36_1 k x.1 x.2.1 x.2.2.1 x.2.2.2 = some o68) k (r58.2, a2, ([] : List (RT 4)), ([] : List (List UInt8))) rfl_le (fun x hx => by cases hx) h68 (inT [(3, 3), (4, 4)] [.tok 0, .tok 0]) ?_
        clear h68
        intro k
        rintro ⟨y68_1, y68_2, y68_3, y68_4⟩ h68
        dsimp only at h68 ⊢
        rw [f353_l68] at h68
        refine AWc.seq ?_
        refine AWc.seq ?_
        refine AWc.rE hmix [] ?_
        rcases cc h68 with ⟨c79, h68⟩ | ⟨c79, h68⟩
        · refine AWc.cT c79 ?_
          refine AWc.skip ?_
          refine AWc.block ?_
          refine AWc.seqS (N := 97) 5 (fun (z : (Int × Int × (List (List UInt8)))) => [(0, (.ptr 0 0)), (1, (.d (.int .i64 a3))), (4, (.ptr 1 0)), (5, (.ptr 2 0)), (6, (.d (.str j36_1)))]) (fun z => [(0, (.cells [(.d (.str a0)), (.d (.int .i64 z.1)), (.d (.int .i64 z.2.1))])), (1, (.cells [(.d (.int .i64 (0 : Int))), (.d (.str ([] : List UInt8))), .nils, .nils])), (2, (.cells [(.d (.int .i64 j36_2)), (.d (.str ([] : List UInt8))), (.ap 3 4 (List.map (rtE (z := 4)) y68_3)), (.ap 4 1 (List.map D.str z.2.2))])), (3, (.tok ((List.map (rtE (z := 4)) y68_3).length * 4))), (4, (.tok ((List.map D.str z.2.2).length * 1)))]) (fun z => f353_j170 (f353_l68 j36_2 a0 rc296 a3 j36_1 k) k rc296 a0 a3 y68_3 j36_1 j36_2 z.1 z.2.1 z.2.2 = some o68) rfl_le ?_ ?_
          · refine AWc.seq ?_
            refine AWc.rE hmix [] ?_
            rcases cc h68 with ⟨c90, h68⟩ | ⟨c90, h68⟩
            · refine AWc.cT c90 ?_
              refine AWc.seq ?_
              obtain ⟨r95, e95, h68⟩ := bind_some h68
              refine AWc.rE hmix [.call (F297 hmix hc.2.1 e95) [] 1] ?_
              refine AWc.seq ?_
              refine AWc.seq ?_
              obtain ⟨r101, e101, h68⟩ := bind_some h68
              refine AWc.rE hmix [.call (F299 hmix hc.2.2.1 e101) [] 1] ?_
              rcases cc h68 with ⟨c103, h68⟩ | ⟨c103, h68⟩
              · refine AWc.cT c103 ?_
                refine AWc.seq ?_
                obtain ⟨r108, e108, h68⟩ := bind_some h68
                refine AWc.rE hmix [.call (F298 hmix hc.2.2.2.1 e108) [] 1] ?_
                cases h68
                dsimp only at h
                refine AWc.exit ?_
                refine inBlk_ne rfl ?_
                refine inBlk_eq ?_
                exact ⟨(r101.2, r108), rfl, (inT [] [])⟩
              · refine AWc.cF c103 ?_
                refine AWc.skip ?_
                refine AWc.seq ?_
                obtain ⟨r115, e115, h68⟩ := bind_some h68
                refine AWc.rE hmix [.call (F300 hmix hc.2.2.2.2.1 e115) [] 1] ?_
                refine AWc.seqS (N := 97) 5 (fun (z : Unit) => [(0, (.ptr 0 0)), (1, (.d (.int .i64 a3))), (4, (.ptr 1 0)), (5, (.ptr 2 0)), (6, (.d (.str j36_1))), (7, (.d (.str r115.1))), (56, .any), (57, .any), (58, .any), (59, .any)]) (fun z => [(0, (.cells [(.d (.str a0)), (.d (.int .i64 r115.2.1)), (.d (.int .i64 r115.2.2))])), (1, (.cells [(.d (.int .i64 (0 : Int))), (.d (.str ([] : List UInt8))), .nils, .nils])), (2, (.cells [(.d (.int .i64 j36_2)), (.d (.str ([] : List UInt8))), (.ap 3 4 (List.map (rtE (z := 4)) y68_3)), (.ap 4 1 (List.map D.str y68_4))])), (3, (.tok ((List.map (rtE (z := 4)) y68_3).length * 4))), (4, (.tok ((List.map D.str y68_4).length * 1)))]) (fun z => f353_j140 (f353_l68 j36_2 a0 rc296 a3 j36_1 k) k y68_4 r115 a0 rc296 a3 y68_3 j36_1 j36_2 = some o68) rfl_le ?_ ?_
                · refine AWc.seq ?_
                  rcases cc h68 with ⟨c126, h68⟩ | ⟨c126, h68⟩
                  · obtain ⟨r130, e130, h68⟩ := bind_some h68
                    refine AWc.rE hmix [.br c126, .call (F77 hmix hc.2.2.2.2.2 e130) [] 0] ?_
                    rcases cc h68 with ⟨c132, h68⟩ | ⟨c132, h68⟩
                    · refine AWc.cT c132 ?_
                      refine AWc.seq ?_
                      obtain ⟨r137, e137, h68⟩ := bind_some h68
                      refine AWc.rE hmix [.call (F298 hmix hc.2.2.2.1 e137) [] 1] ?_
                      cases h68
                      dsimp only at h
                      refine AWc.exit ?_
                      refine inBlk_ne rfl ?_
                      refine inBlk_eq ?_
                      exact ⟨(r115.2.1, r137), rfl, (inT [] [])⟩
                    · refine AWc.cF c132 ?_
                      refine AWc.skip ?_
                      exact ⟨(), h68, (inT [] [])⟩
                  · refine AWc.rE hmix [.br c126] ?_
                    refine AWc.cF rfl ?_
                    refine AWc.skip ?_
                    exact ⟨(), h68, (inT [] [])⟩
                · rintro ⟨⟩ h68
                  unfold f353_j140 at h68
                  refine AWc.seq ?_
                  obtain ⟨b147, h68⟩ := gd_some h68
                  refine AWc.rE hmix [.apA D.str y68_4 ([r115.1] : List (List UInt8)) 1 (fun _ => rfl) b147] ?_
                  refine AWc.seq ?_
                  obtain ⟨r154, e154, h68⟩ := bind_some h68
                  refine AWc.rE hmix [.call (F297 hmix hc.2.1 e154) [] 1] ?_
                  refine AWc.seq ?_
                  obtain ⟨r159, e159, h68⟩ := bind_some h68
                  refine AWc.rE hmix [.call (F299 hmix hc.2.2.1 e159) [] 1] ?_
                  rcases cc h68 with ⟨c161, h68⟩ | ⟨c161, h68⟩
                  · refine AWc.cT c161 ?_
                    refine AWc.seq ?_
                    obtain ⟨r166, e166, h68⟩ := bind_some h68
                    refine AWc.rE hmix [.call (F298 hmix hc.2.2.2.1 e166) [] 1] ?_
                    cases h68
                    dsimp only at h
                    refine AWc.exit ?_
                    refine inBlk_ne rfl ?_
                    refine inBlk_eq ?_
                    exact ⟨(r159.2, r166), rfl, (inT [] [])⟩
                  · refine AWc.cF c161 ?_
                    refine AWc.skip ?_
                    exact ⟨(r159.2, r115.2.2, (y68_4 ++ ([r115.1] : List (List UInt8)))), h68, (inT [(4, 5)] [])⟩
            · refine AWc.cF c90 ?_
              refine AWc.skip ?_
              exact ⟨(y68_1, y68_2, y68_4), h68, (inT [] [])⟩
          · rintro ⟨j170_1, j170_2, j170_3⟩ h68
            dsimp only at h68 ⊢
            unfold f353_j170 at h68
            refine AWc.seq ?_
            obtain ⟨r178, e178, h68⟩ := bind_some h68
            obtain ⟨b180, h68⟩ := gd_some h68
            refine AWc.rE hmix [.call (hrc296 _ _ _ _ _ e178) [] 1, .apA (rtE (z := 4)) y68_3 ([(RT.of TJson.ok (TJson.mk r178.1 r178.2.1 r178.2.2.1 r178.2.2.2.1))] : List (RT 4)) 4 rtE_ok.len b180] ?_
            refine AWc.seq ?_
            obtain ⟨r187, e187, h68⟩ := bind_some h68
            refine AWc.rE hmix [.call (F297 hmix hc.2.1 e187) [] 1] ?_
            refine AWc.seq ?_
            refine AWc.seq ?_
            obtain ⟨r194, e194, h68⟩ := bind_some h68
            refine AWc.rE hmix [.call (F299 hmix hc.2.2.1 e194) [] 1] ?_
            rcases cc h68 with ⟨c195, h68⟩ | ⟨c195, h68⟩
            · refine AWc.cT c195 ?_
              refine AWc.seq ?_
              refine AWc.rE hmix [] ?_
              cases h68
              dsimp only at h
              have hr := Option.some.inj h
              subst hr
              exact AWc.ret (canQ (N := 97) (k := 2) (l' := [(4, (.ptr 1 0))]) (H' := [(1, (.cells [(.d (.int .i64 j36_2)), (.d (.str ([] : List UInt8))), (.d (.sl (List.map (rtE (z := 4)) (y68_3 ++ ([(RT.of TJson.ok (TJson.mk r178.1 r178.2.1 r178.2.2.1 r178.2.2.2.1))] : List (RT 4)))))), (.d (.sl (List.map D.str j170_3)))])), (0, (.cells [(.d (.str a0)), (.d (.int .i64 r194.2)), (.d (.int .i64 r178.2.2.2.2.2))]))]) rfl (inT [] []) (doneA (.inr rfl) rfl ⟨(Nat.le_of_ble_eq_true rfl), trivial⟩ (.refl _) (hasCons rfl hasNil)))
            · refine AWc.cF c195 ?_
              refine AWc.skip ?_
              refine AWc.seq ?_
              obtain ⟨r207, e207, h68⟩ := bind_some h68
              refine AWc.rE hmix [.call (F299 hmix hc.2.2.1 e207) [] 1] ?_
              rcases cc h68 with ⟨c209, h68⟩ | ⟨c209, h68⟩
              · refine AWc.cT c209 ?_
                obtain ⟨r213, e213, h68⟩ := bind_some h68
                refine AWc.rE hmix [.call (F298 hmix hc.2.2.2.1 e213) [] 1] ?_
                exact ⟨(r207.2, r213, (y68_3 ++ ([(RT.of TJson.ok (TJson.mk r178.1 r178.2.1 r178.2.2.1 r178.2.2.2.1))] : List (RT 4))), j170_3), h68, (inT [(3, 5)] [])⟩
              · refine AWc.cF c209 ?_
                refine AWc.skip ?_
                exact ⟨(r207.2, r178.2.2.2.2.2, (y68_3 ++ ([(RT.of TJson.ok (TJson.mk r178.1 r178.2.1 r178.2.2.1 r178.2.2.2.1))] : List (RT 4))), j170_3), h68, (inT [(3, 5)] [])⟩
        · refine AWc.cF c79 ?_
          cases h68
          dsimp only at h
          refine AWc.exit ?_
          refine inBlk_eq ?_
          exact ⟨(y68_1, y68_2), rfl, (inT [] [])⟩
      · rintro ⟨x68_1, x68_2⟩ ho
        subst ho
        dsimp only at h ⊢
        refine AWc.seq ?_
        refine AWc.rE hmix [] ?_
        have hr := Option.some.inj h
        subst hr
        exact AWc.ret (canQ (N := 97) (k := 2) (l' := [(4, (.ptr 1 0))]) (H' := [(1, (.cells [(.d (.int .i64 (0 : Int))), (.d (.str ([] : List UInt8))), (.d (.sl (List.map (rtE (z := 4)) ([] : List (RT 4))))), (.d (.sl (List.map D.str ([] : List (List UInt8)))))])), (0, (.cells [(.d (.str a0)), (.d (.int .i64 x68_1)), (.d (.int .i64 x68_2))]))]) rfl (inT [] []) (doneA (.inr rfl) rfl ⟨(Nat.le_of_ble_eq_true rfl), trivial⟩ (.refl _) (hasCons rfl hasNil)))
/-- (*courant/courantref02.reader).number -/
def C350 (N : Nat → Nat) : AFunc := { n := 105, params := 1, res := [.tmp 2], body :=
 (.seq (.region false [⟨(some 2), .mv (.k (.d (.str []))), none, []⟩])
  (.seq (.region false [⟨(some 6), .mv (.t 0), none, []⟩,
    ⟨(some 7), .nilchk (.t 6), none, [0]⟩,
    ⟨(some 8), .faddr (.t 7) 1, none, [1]⟩,
    ⟨(some 9), .load (.t 8) 1 false, none, [2]⟩,
    ⟨(some 3), .mv (.t 9), none, [3, 0, 1, 2]⟩])
   (.seq (.region false [⟨(some 10), .mv (.t 0), none, []⟩,
     ⟨(some 11), .call (.k (.d (.fn (N 299)))) [(.t 10), (.k (.d (.str [45])))], none, [0]⟩])
    (.seq (.region false [⟨(some 12), .mv (.t 0), none, []⟩,
      ⟨(some 13), .nilchk (.t 12), none, [0]⟩,
      ⟨(some 14), .faddr (.t 13) 1, none, [1]⟩,
      ⟨(some 15), .load (.t 14) 1 false, none, [2]⟩,
      ⟨(some 4), .mv (.t 15), none, [3, 0, 1, 2]⟩])
     (.seq (.block 0 (.loop (.seq (.seq (.region true [⟨(some 16), .mv (.t 0), none, []⟩,
           ⟨(some 17), .nilchk (.t 16), none, [0]⟩,
           ⟨(some 18), .faddr (.t 17) 1, none, [1]⟩,
           ⟨(some 19), .load (.t 18) 1 false, none, [2]⟩,
           ⟨(some 20), .mv (.t 0), none, []⟩,
           ⟨(some 21), .nilchk (.t 20), none, [4]⟩,
           ⟨(some 22), .faddr (.t 21) 0, none, [5]⟩,
           ⟨(some 23), .load (.t 22) 1 false, none, [6]⟩,
           ⟨(some 24), .slen (.t 23), none, [7]⟩,
           ⟨(some 25), .bin .lss (.t 19) (.t 24), none, [3, 8]⟩,
           ⟨(some 26), .mv (.t 25), none, [9]⟩,
           ⟨(some 27), .mv (.t 0), (some (26, true)), [10]⟩,
           ⟨(some 28), .nilchk (.t 27), (some (26, true)), [11, 10]⟩,
           ⟨(some 29), .faddr (.t 28) 0, (some (26, true)), [12, 10]⟩,
           ⟨(some 30), .load (.t 29) 1 false, (some (26, true)), [13, 10]⟩,
           ⟨(some 31), .mv (.t 0), (some (26, true)), [10]⟩,
           ⟨(some 32), .nilchk (.t 31), (some (26, true)), [15, 10]⟩,
           ⟨(some 33), .faddr (.t 32) 1, (some (26, true)), [16, 10]⟩,
           ⟨(some 34), .load (.t 33) 1 false, (some (26, true)), [17, 10]⟩,
           ⟨(some 35), .idx (.t 30) (.t 34), (some (26, true)), [14, 18, 10]⟩,
           ⟨(some 36), .bin .geq (.t 35) (.k (.d (.int .u8 48))), (some (26, true)), [19, 10]⟩,
           ⟨(some 37), .pick (.t 26) (.t 36) (.k (.d (.bool false))), none, [10, 20]⟩,
           ⟨(some 38), .mv (.t 37), none, [21, 10]⟩,
           ⟨(some 39), .mv (.t 0), (some (38, true)), [22]⟩,
           ⟨(some 40), .nilchk (.t 39), (some (38, true)), [23, 22]⟩,
           ⟨(some 41), .faddr (.t 40) 0, (some (38, true)), [24, 22]⟩,
           ⟨(some 42), .load (.t 41) 1 false, (some (38, true)), [25, 22]⟩,
           ⟨(some 43), .mv (.t 0), (some (38, true)), [22]⟩,
           ⟨(some 44), .nilchk (.t 43), (some (38, true)), [27, 22]⟩,
           ⟨(some 45), .faddr (.t 44) 1, (some (38, true)), [28, 22]⟩,
           ⟨(some 46), .load (.t 45) 1 false, (some (38, true)), [29, 22]⟩,
           ⟨(some 47), .idx (.t 42) (.t 46), (some (38, true)), [26, 30, 22]⟩,
           ⟨(some 48), .bin .leq (.t 47) (.k (.d (.int .u8 57))), (some (38, true)), [31, 22]⟩,
           ⟨(some 49), .pick (.t 38) (.t 48) (.k (.d (.bool false))), none, [22, 32]⟩])
          (.cond (.t 49) (.skip)
           (.exit 0)))
         (.block 1 (.region false [⟨(some 50), .mv (.t 0), none, []⟩,
           ⟨(some 51), .nilchk (.t 50), none, [0]⟩,
           ⟨(some 52), .faddr (.t 51) 1, none, [1]⟩,
           ⟨(some 53), .load (.t 52) 1 false, none, [2]⟩,
           ⟨(some 54), .bin .add (.t 53) (.k (.d (.int .i64 1))), none, [3]⟩,
           ⟨(some 55), .nilchk (.t 50), none, [0, 1, 2, 3, 4]⟩,
           ⟨(some 56), .faddr (.t 55) 1, none, [5, 0, 1, 2, 3, 4]⟩,
           ⟨none, .store (.t 56) (.t 54) 1, none, [6, 4, 0, 1, 2, 3]⟩])))))
      (.seq (.region false [⟨(some 57), .mv (.t 0), none, []⟩,
        ⟨(some 58), .nilchk (.t 57), none, [0]⟩,
        ⟨(some 59), .faddr (.t 58) 1, none, [1]⟩,
        ⟨(some 60), .load (.t 59) 1 false, none, [2]⟩,
        ⟨(some 61), .mv (.t 4), none, []⟩,
        ⟨(some 62), .bin .sub (.t 60) (.t 61), none, [3, 4]⟩,
        ⟨(some 5), .mv (.t 62), none, [5, 0, 1, 2, 3, 4]⟩])
       (.seq (.seq (.region false [⟨(some 63), .mv (.t 5), none, []⟩,
          ⟨(some 64), .bin .lss (.t 63) (.k (.d (.int .i64 1))), none, [0]⟩,
          ⟨(some 65), .mv (.t 64), none, [1]⟩,
          ⟨(some 66), .mv (.t 5), (some (65, false)), [2]⟩,
          ⟨(some 67), .bin .gtr (.t 66) (.k (.d (.int .i64 19))), (some (65, false)), [3, 2]⟩,
          ⟨(some 68), .pick (.t 65) (.k (.d (.bool true))) (.t 67), none, [2, 4]⟩,
          ⟨(some 69), .mv (.t 68), none, [5, 2]⟩,
          ⟨(some 70), .mv (.t 5), (some (69, false)), [6]⟩,
          ⟨(some 71), .bin .gtr (.t 70) (.k (.d (.int .i64 1))), (some (69, false)), [7, 6]⟩,
          ⟨(some 72), .mv (.t 71), (some (69, false)), [8, 6]⟩,
          ⟨(some 73), .mv (.t 0), (some (72, true)), [9]⟩,
          ⟨(some 74), .nilchk (.t 73), (some (72, true)), [10, 9]⟩,
          ⟨(some 75), .faddr (.t 74) 0, (some (72, true)), [11, 9]⟩,
          ⟨(some 76), .load (.t 75) 1 false, (some (72, true)), [12, 9]⟩,
          ⟨(some 77), .mv (.t 4), (some (72, true)), [9]⟩,
          ⟨(some 78), .idx (.t 76) (.t 77), (some (72, true)), [13, 14, 9]⟩,
          ⟨(some 79), .bin .eql (.t 78) (.k (.d (.int .u8 48))), (some (72, true)), [15, 9]⟩,
          ⟨(some 80), .pick (.t 72) (.t 79) (.k (.d (.bool false))), (some (69, false)), [9, 16, 6]⟩,
          ⟨(some 81), .pick (.t 69) (.k (.d (.bool true))) (.t 80), none, [6, 17]⟩])
         (.cond (.t 81) (.seq (.region false [⟨(some 82), .mv (.t 0), none, []⟩,
            ⟨(some 83), .call (.k (.d (.fn (N 298)))) [(.t 82), (.k (.d (.int .i64 4)))], none, [0]⟩])
           (.seq (.region false [⟨(some 2), .mv (.k (.d (.str []))), none, []⟩])
            .ret))
          (.skip)))
        (.seq (.seq (.region true [⟨(some 84), .mv (.t 0), none, []⟩,
           ⟨(some 85), .nilchk (.t 84), none, [0]⟩,
           ⟨(some 86), .faddr (.t 85) 0, none, [1]⟩,
           ⟨(some 87), .load (.t 86) 1 false, none, [2]⟩,
           ⟨(some 88), .mv (.t 3), none, []⟩,
           ⟨(some 89), .mv (.t 0), none, []⟩,
           ⟨(some 90), .nilchk (.t 89), none, [5]⟩,
           ⟨(some 91), .faddr (.t 90) 1, none, [6]⟩,
           ⟨(some 92), .load (.t 91) 1 false, none, [7]⟩,
           ⟨(some 93), .ssl (.t 87) (some (.t 88)) (some (.t 92)), none, [3, 4, 8]⟩,
           ⟨(some 94), .bin .eql (.t 93) (.k (.d (.str [45, 48]))), none, [9]⟩])
          (.cond (.t 94) (.seq (.region false [⟨(some 2), .mv (.k (.d (.str [48]))), none, []⟩])
            .ret)
           (.skip)))
         (.seq (.region true [⟨(some 95), .mv (.t 0), none, []⟩,
           ⟨(some 96), .nilchk (.t 95), none, [0]⟩,
           ⟨(some 97), .faddr (.t 96) 0, none, [1]⟩,
           ⟨(some 98), .load (.t 97) 1 false, none, [2]⟩,
           ⟨(some 99), .mv (.t 3), none, []⟩,
           ⟨(some 100), .mv (.t 0), none, []⟩,
           ⟨(some 101), .nilchk (.t 100), none, [5]⟩,
           ⟨(some 102), .faddr (.t 101) 1, none, [6]⟩,
           ⟨(some 103), .load (.t 102) 1 false, none, [7]⟩,
           ⟨(some 104), .ssl (.t 98) (some (.t 99)) (some (.t 103)), none, [3, 4, 8]⟩,
           ⟨(some 2), .mv (.t 104), none, [9, 0, 1, 2, 3, 4, 5, 6, 7, 8]⟩])
          .ret))))))))) }
def HC350 (P : Program) (N : Nat → Nat) : Prop := HasF P (N 350) (C350 N) ∧ HC299 P N ∧ HC298 P N
def f350_l27 (a0 : (List UInt8)) : Nat → Int → Option (LR2 Int Unit ((List UInt8) × Int × Int))
  | 0, _ => none
  | k + 1, y27_1 => cond (decide (y27_1 < ((a0.length : Nat) : Int))) (gd (0 ≤ y27_1 ∧ y27_1 < ((a0.length : Nat) : Int)) (cond (decide ((((a0.getD (y27_1).toNat 0).toNat : Nat) : Int) ≥ (48 : Int))) (gd (0 ≤ y27_1 ∧ y27_1 < ((a0.length : Nat) : Int)) (cond (decide ((((a0.getD (y27_1).toNat 0).toNat : Nat) : Int) ≤ (57 : Int))) (f350_l27 a0 k (IntKind.i64.wrap (y27_1 + (1 : Int)))) (some (.b0 y27_1)))) (some (.b0 y27_1)))) (some (.b0 y27_1))
def f350_j114 (k : Nat) (a0 : (List UInt8)) (x27_1 : Int) (a2 : Int) (a1 : Int) (j114_1 : Bool) : Option ((List UInt8) × Int × Int) := cond j114_1 ((f298 k a0 x27_1 a2 (4 : Int)).bind fun r119 => some (([] : List UInt8), x27_1, r119)) (gd (0 ≤ a1 ∧ a1 ≤ x27_1 ∧ x27_1 ≤ ((a0.length : Nat) : Int)) (cond (decide ((sl a0 a1 x27_1) = ([45, 48] : List UInt8))) (some (([48] : List UInt8), x27_1, a2)) (gd (0 ≤ a1 ∧ a1 ≤ x27_1 ∧ x27_1 ≤ ((a0.length : Nat) : Int)) (some ((sl a0 a1 x27_1), x27_1, a2)))))
def f350 (k : Nat) (a0 : (List UInt8)) (a1 : Int) (a2 : Int) : Option ((List UInt8) × Int × Int) := (f299 k a0 a1 a2 ([45] : List UInt8)).bind fun r17 => (f350_l27 a0 k r17.2).bind fun o27 => (match o27 with | .b0 x27_1 => cond (decide ((IntKind.i64.wrap (x27_1 - r17.2)) < (1 : Int))) (f350_j114 k a0 x27_1 a2 a1 true) (cond (decide ((IntKind.i64.wrap (x27_1 - r17.2)) > (19 : Int))) (f350_j114 k a0 x27_1 a2 a1 true) (cond (decide ((IntKind.i64.wrap (x27_1 - r17.2)) > (1 : Int))) (gd (0 ≤ r17.2 ∧ r17.2 < ((a0.length : Nat) : Int)) (f350_j114 k a0 x27_1 a2 a1 (decide ((((a0.getD (r17.2).toNat 0).toNat : Nat) : Int) = (48 : Int))))) (f350_j114 k a0 x27_1 a2 a1 false))) | _ => none)
theorem F350 {P : Program} {N : Nat → Nat} (hmix : P.follows .mixedOrders = true) (hc : HC350 P N) {k : Nat} {a0 : (List UInt8)} {a1 : Int} {a2 : Int} {r : ((List UInt8) × Int × Int)} (h : f350 k a0 a1 a2 = some r) :
    ACalls P (N 350) [(.ptr 0 0)] [(0, (.cells [(.d (.str a0)), (.d (.int .i64 a1)), (.d (.int .i64 a2))]))] (.d (.str r.1)) [(0, (.cells [(.d (.str a0)), (.d (.int .i64 r.2.1)), (.d (.int .i64 r.2.2))]))] := by
  refine acalls_canon (F := C350 N) hc.1 1 1 rfl ?_
  unfold f350 at h
  dsimp only [C350, startL]
  refine AWc.seq ?_
  refine AWc.rE hmix [] ?_
  refine AWc.seq ?_
  refine AWc.rE hmix [] ?_
  refine AWc.seq ?_
  obtain ⟨r17, e17, h⟩ := bind_some h
  refine AWc.rE hmix [.call (F299 hmix hc.2.1 e17) [] 1] ?_
  refine AWc.seq ?_
  refine AWc.rE hmix [] ?_
  obtain ⟨o27, h27, h⟩ := bind_some h
  refine AWc.seqS (N := 105) 1 (fun (z : Int) => [(0, (.ptr 0 0)), (3, (.d (.int .i64 a1))), (4, (.d (.int .i64 r17.2)))]) (fun z => [(0, (.cells [(.d (.str a0)), (.d (.int .i64 z)), (.d (.int .i64 a2))]))]) (fun z => o27 = .b0 z) rfl_le ?_ ?_
  · refine AWc.block ?_
    refine AWc.loopK (N := 105) 1 (fun (x : Int) => [(0, (.ptr 0 0)), (3, (.d (.int .i64 a1))), (4, (.d (.int .i64 r17.2)))]) (fun x => [(0, (.cells [(.d (.str a0)), (.d (.int .i64 x)), (.d (.int .i64 a2))]))]) (fun k x => f350_l27 a0 k x = some o27) k r17.2 rfl_le (fun x hx => by cases hx) h27 (inT [] []) ?_
    clear h27
    intro k
    intro y27_1 h27
    rw [f350_l27] at h27
    refine AWc.seq ?_
    refine AWc.seq ?_
    rcases cc h27 with ⟨c43, h27⟩ | ⟨c43, h27⟩
    · obtain ⟨b52, h27⟩ := gd_some h27
      rcases cc h27 with ⟨c55, h27⟩ | ⟨c55, h27⟩
      · obtain ⟨b64, h27⟩ := gd_some h27
        refine AWc.rE hmix [.br c43, .sd b52, .br c55, .sd b64] ?_
        rcases cc h27 with ⟨c67, h27⟩ | ⟨c67, h27⟩
        · refine AWc.cT c67 ?_
          refine AWc.skip ?_
          refine AWc.block ?_
          refine AWc.rE hmix [] ?_
          exact ⟨(IntKind.i64.wrap (y27_1 + (1 : Int))), h27, (inT [] [])⟩
        · refine AWc.cF c67 ?_
          cases h27
          dsimp only at h
          refine AWc.exit ?_
          refine inBlk_eq ?_
          exact ⟨y27_1, rfl, (inT [] [])⟩
      · refine AWc.rE hmix [.br c43, .sd b52, .br c55] ?_
        refine AWc.cF rfl ?_
        cases h27
        dsimp only at h
        refine AWc.exit ?_
        refine inBlk_eq ?_
        exact ⟨y27_1, rfl, (inT [] [])⟩
    · refine AWc.rE hmix [.br c43, .br (rfl : false = false)] ?_
      refine AWc.cF rfl ?_
      cases h27
      dsimp only at h
      refine AWc.exit ?_
      refine inBlk_eq ?_
      exact ⟨y27_1, rfl, (inT [] [])⟩
  · intro x27_1 ho
    subst ho
    dsimp only at h
    refine AWc.seq ?_
    refine AWc.rE hmix [] ?_
    refine AWc.seq ?_
    refine AWc.seqS (N := 105) 1 (fun (z : Bool) => [(0, (.ptr 0 0)), (3, (.d (.int .i64 a1))), (81, (.d (.bool z)))]) (fun z => [(0, (.cells [(.d (.str a0)), (.d (.int .i64 x27_1)), (.d (.int .i64 a2))]))]) (fun z => f350_j114 k a0 x27_1 a2 a1 z = some r) rfl_le ?_ ?_
    · rcases cc h with ⟨c97, h⟩ | ⟨c97, h⟩
      · refine AWc.rE hmix [.br c97, .br (rfl : true = true)] ?_
        exact ⟨true, h, (inT [] [])⟩
      · rcases cc h with ⟨c101, h⟩ | ⟨c101, h⟩
        · refine AWc.rE hmix [.br c97, .br c101] ?_
          exact ⟨true, h, (inT [] [])⟩
        · rcases cc h with ⟨c104, h⟩ | ⟨c104, h⟩
          · obtain ⟨b110, h⟩ := gd_some h
            refine AWc.rE hmix [.br c97, .br c101, .br c104, .sd b110] ?_
            exact ⟨(decide ((((a0.getD (r17.2).toNat 0).toNat : Nat) : Int) = (48 : Int))), h, (inT [] [])⟩
          · refine AWc.rE hmix [.br c97, .br c101, .br c104] ?_
            exact ⟨false, h, (inT [] [])⟩
    · intro j114_1 h
      unfold f350_j114 at h
      rcases cc h with ⟨c114, h⟩ | ⟨c114, h⟩
      · refine AWc.cT c114 ?_
        refine AWc.seq ?_
        obtain ⟨r119, e119, h⟩ := bind_some h
        refine AWc.rE hmix [.call (F298 hmix hc.2.2 e119) [] 1] ?_
        refine AWc.seq ?_
        refine AWc.rE hmix [] ?_
        have hr := Option.some.inj h
        subst hr
        exact AWc.ret (canQ (N := 105) (k := 1) (l' := [(2, (.d (.str ([] : List UInt8))))]) (H' := [(0, (.cells [(.d (.str a0)), (.d (.int .i64 x27_1)), (.d (.int .i64 r119))]))]) rfl (inT [] []) (doneA (.inr rfl) rfl ⟨trivial, trivial⟩ (.refl _) (hasCons rfl hasNil)))
      · refine AWc.cF c114 ?_
        refine AWc.skip ?_
        refine AWc.seq ?_
        refine AWc.seq ?_
        obtain ⟨b139, h⟩ := gd_some h
        refine AWc.rE hmix [.sd b139] ?_
        rcases cc h with ⟨c141, h⟩ | ⟨c141, h⟩
        · refine AWc.cT c141 ?_
          refine AWc.seq ?_
          refine AWc.rE hmix [] ?_
          have hr := Option.some.inj h
          subst hr
          exact AWc.ret (canQ (N := 105) (k := 1) (l' := [(2, (.d (.str ([48] : List UInt8))))]) (H' := [(0, (.cells [(.d (.str a0)), (.d (.int .i64 x27_1)), (.d (.int .i64 a2))]))]) rfl (inT [] []) (doneA (.inr rfl) rfl ⟨trivial, trivial⟩ (.refl _) (hasCons rfl hasNil)))
        · refine AWc.cF c141 ?_
          refine AWc.skip ?_
          refine AWc.seq ?_
          obtain ⟨b160, h⟩ := gd_some h
          refine AWc.rE hmix [.sd b160] ?_
          have hr := Option.some.inj h
          subst hr
          exact AWc.ret (canQ (N := 105) (k := 1) (l' := [(2, (.d (.str (sl a0 a1 x27_1))))]) (H' := [(0, (.cells [(.d (.str a0)), (.d (.int .i64 x27_1)), (.d (.int .i64 a2))]))]) rfl (inT [] []) (doneA (.inr rfl) rfl ⟨trivial, trivial⟩ (.refl _) (hasCons rfl hasNil)))
/-- (*courant/courantref02.reader).value -/
def C296 (N : Nat → Nat) : AFunc := { n := 72, params := 2, res := [.cell 4 4 true], body :=
 (.seq (.region false [⟨(some 4), .alloc [(.int .i64 0), (.str []), (.sl []), (.sl [])], none, []⟩])
  (.seq (.region false [⟨(some 5), .mv (.t 0), none, []⟩,
    ⟨(some 6), .call (.k (.d (.fn (N 297)))) [(.t 5)], none, [0]⟩])
   (.seq (.block 0 (.seq (.region true [⟨(some 11), .mv (.t 0), none, []⟩,
       ⟨(some 12), .nilchk (.t 11), none, [0]⟩,
       ⟨(some 13), .faddr (.t 12) 1, none, [1]⟩,
       ⟨(some 14), .load (.t 13) 1 false, none, [2]⟩,
       ⟨(some 15), .mv (.t 0), none, []⟩,
       ⟨(some 16), .nilchk (.t 15), none, [4]⟩,
       ⟨(some 17), .faddr (.t 16) 0, none, [5]⟩,
       ⟨(some 18), .load (.t 17) 1 false, none, [6]⟩,
       ⟨(some 19), .slen (.t 18), none, [7]⟩,
       ⟨(some 20), .bin .geq (.t 14) (.t 19), none, [3, 8]⟩,
       ⟨(some 10), .mv (.t 20), none, [9]⟩])
      (.cond (.t 10) (.region false [⟨(some 21), .mv (.t 0), none, []⟩,
        ⟨(some 22), .call (.k (.d (.fn (N 298)))) [(.t 21), (.k (.d (.int .i64 4)))], none, [0]⟩])
       (.seq (.region false [⟨(some 24), .mv (.t 0), none, []⟩,
         ⟨(some 25), .call (.k (.d (.fn (N 299)))) [(.t 24), (.k (.d (.str [110, 117, 108, 108])))], none, [0]⟩,
         ⟨(some 23), .mv (.t 25), none, [1]⟩])
        (.cond (.t 23) (.seq (.region false [⟨(some 26), .build [(.int .i64 0), (.str []), (.sl []), (.sl [])] [(0, 1, (.k (.d (.int .i64 1))))], none, []⟩,
           ⟨none, .store (.t 4) (.t 26) 4, none, [0]⟩])
          .ret)
         (.seq (.region false [⟨(some 28), .mv (.t 0), none, []⟩,
           ⟨(some 29), .call (.k (.d (.fn (N 299)))) [(.t 28), (.k (.d (.str [102, 97, 108, 115, 101])))], none, [0]⟩,
           ⟨(some 27), .mv (.t 29), none, [1]⟩])
          (.cond (.t 27) (.seq (.region false [⟨(some 30), .build [(.int .i64 0), (.str []), (.sl []), (.sl [])] [(0, 1, (.k (.d (.int .i64 2))))], none, []⟩,
             ⟨none, .store (.t 4) (.t 30) 4, none, [0]⟩])
            .ret)
           (.seq (.region false [⟨(some 32), .mv (.t 0), none, []⟩,
             ⟨(some 33), .call (.k (.d (.fn (N 299)))) [(.t 32), (.k (.d (.str [116, 114, 117, 101])))], none, [0]⟩,
             ⟨(some 31), .mv (.t 33), none, [1]⟩])
            (.cond (.t 31) (.seq (.region false [⟨(some 34), .build [(.int .i64 0), (.str []), (.sl []), (.sl [])] [(0, 1, (.k (.d (.int .i64 3))))], none, []⟩,
               ⟨none, .store (.t 4) (.t 34) 4, none, [0]⟩])
              .ret)
             (.seq (.region false [⟨(some 36), .mv (.t 0), none, []⟩,
               ⟨(some 37), .call (.k (.d (.fn (N 299)))) [(.t 36), (.k (.d (.str [34])))], none, [0]⟩,
               ⟨(some 35), .mv (.t 37), none, [1]⟩])
              (.cond (.t 35) (.seq (.region false [⟨(some 38), .mv (.t 0), none, []⟩,
                 ⟨(some 39), .call (.k (.d (.fn (N 300)))) [(.t 38)], none, [0]⟩,
                 ⟨(some 40), .build [(.int .i64 0), (.str []), (.sl []), (.sl [])] [(0, 1, (.k (.d (.int .i64 5)))), (1, 1, (.t 39))], none, [1]⟩,
                 ⟨none, .store (.t 4) (.t 40) 4, none, [2, 1, 0]⟩])
                .ret)
               (.seq (.region true [⟨(some 42), .mv (.t 0), none, []⟩,
                 ⟨(some 43), .nilchk (.t 42), none, [0]⟩,
                 ⟨(some 44), .faddr (.t 43) 0, none, [1]⟩,
                 ⟨(some 45), .load (.t 44) 1 false, none, [2]⟩,
                 ⟨(some 46), .mv (.t 0), none, []⟩,
                 ⟨(some 47), .nilchk (.t 46), none, [4]⟩,
                 ⟨(some 48), .faddr (.t 47) 1, none, [5]⟩,
                 ⟨(some 49), .load (.t 48) 1 false, none, [6]⟩,
                 ⟨(some 50), .idx (.t 45) (.t 49), none, [3, 7]⟩,
                 ⟨(some 51), .bin .eql (.t 50) (.k (.d (.int .u8 91))), none, [8]⟩,
                 ⟨(some 52), .mv (.t 51), none, [9]⟩,
                 ⟨(some 53), .mv (.t 0), (some (52, false)), [10]⟩,
                 ⟨(some 54), .nilchk (.t 53), (some (52, false)), [11, 10]⟩,
                 ⟨(some 55), .faddr (.t 54) 0, (some (52, false)), [12, 10]⟩,
                 ⟨(some 56), .load (.t 55) 1 false, (some (52, false)), [13, 10]⟩,
                 ⟨(some 57), .mv (.t 0), (some (52, false)), [10]⟩,
                 ⟨(some 58), .nilchk (.t 57), (some (52, false)), [15, 10]⟩,
                 ⟨(some 59), .faddr (.t 58) 1, (some (52, false)), [16, 10]⟩,
                 ⟨(some 60), .load (.t 59) 1 false, (some (52, false)), [17, 10]⟩,
                 ⟨(some 61), .idx (.t 56) (.t 60), (some (52, false)), [14, 18, 10]⟩,
                 ⟨(some 62), .bin .eql (.t 61) (.k (.d (.int .u8 123))), (some (52, false)), [19, 10]⟩,
                 ⟨(some 63), .pick (.t 52) (.k (.d (.bool true))) (.t 62), none, [10, 20]⟩,
                 ⟨(some 41), .mv (.t 63), none, [21, 10]⟩])
                (.cond (.t 41) (.seq (.seq (.region false [⟨(some 64), .mv (.t 1), none, []⟩,
                    ⟨(some 65), .bin .geq (.t 64) (.k (.d (.int .i64 64))), none, [0]⟩])
                   (.cond (.t 65) (.seq (.region false [⟨(some 66), .mv (.t 0), none, []⟩,
                      ⟨(some 67), .call (.k (.d (.fn (N 298)))) [(.t 66), (.k (.d (.int .i64 5)))], none, [0]⟩])
                     (.exit 0))
                    (.skip)))
                  (.seq (.region false [⟨(some 68), .mv (.t 0), none, []⟩,
                    ⟨(some 69), .mv (.t 1), none, []⟩,
                    ⟨(some 70), .call (.k (.d (.fn (N 353)))) [(.t 68), (.t 69)], none, [0, 1]⟩,
                    ⟨none, .store (.t 4) (.t 70) 4, none, [2, 0, 1]⟩])
                   .ret))
                 (.seq (.region false [⟨(some 7), .mv (.t 0), none, []⟩,
                   ⟨(some 8), .call (.k (.d (.fn (N 350)))) [(.t 7)], none, [0]⟩,
                   ⟨(some 9), .build [(.int .i64 0), (.str []), (.sl []), (.sl [])] [(0, 1, (.k (.d (.int .i64 4)))), (1, 1, (.t 8))], none, [1]⟩,
                   ⟨none, .store (.t 4) (.t 9) 4, none, [2, 1, 0]⟩])
                  .ret))))))))))))))
    (.seq (.region false [⟨(some 71), .build [(.int .i64 0), (.str []), (.sl []), (.sl [])] [], none, []⟩,
      ⟨none, .store (.t 4) (.t 71) 4, none, [0]⟩])
     .ret)))) }
def HC296 (P : Program) (N : Nat → Nat) : Prop := HasF P (N 296) (C296 N) ∧ HC297 P N ∧ HC298 P N ∧ HC299 P N ∧ HC300 P N ∧ HC353 P N ∧ HC350 P N
def f296_j111 (k : Nat) (a3 : Int) (a0 : (List UInt8)) (r74 : (Bool × Int)) (a2 : Int) (rc296 : (List UInt8) → Int → Int → Int → Option (Int × (List UInt8) × (List (RT 4)) × (List (List UInt8)) × Int × Int)) (j111_1 : Bool) : Option (Int × (List UInt8) × (List (RT 4)) × (List (List UInt8)) × Int × Int) := cond j111_1 (cond (decide (a3 ≥ (64 : Int))) ((f298 k a0 r74.2 a2 (5 : Int)).bind fun r123 => some ((0 : Int), ([] : List UInt8), ([] : List (RT 4)), ([] : List (List UInt8)), r74.2, r123)) ((f353 rc296 k a0 r74.2 a2 a3).bind fun r131 => some (r131.1, ([] : List UInt8), r131.2.1, r131.2.2.1, r131.2.2.2.1, r131.2.2.2.2))) ((f350 k a0 r74.2 a2).bind fun r138 => some ((4 : Int), r138.1, ([] : List (RT 4)), ([] : List (List UInt8)), r138.2.1, r138.2.2))
def f296_s (rc296 : (List UInt8) → Int → Int → Int → Option (Int × (List UInt8) × (List (RT 4)) × (List (List UInt8)) × Int × Int)) (k : Nat) (a0 : (List UInt8)) (a1 : Int) (a2 : Int) (a3 : Int) : Option (Int × (List UInt8) × (List (RT 4)) × (List (List UInt8)) × Int × Int) := (f297 k a0 a1 a2).bind fun r9 => cond (decide (r9 ≥ ((a0.length : Nat) : Int))) ((f298 k a0 r9 a2 (4 : Int)).bind fun r30 => some ((0 : Int), ([] : List UInt8), ([] : List (RT 4)), ([] : List (List UInt8)), r9, r30)) ((f299 k a0 r9 a2 ([110, 117, 108, 108] : List UInt8)).bind fun r35 => cond r35.1 (some ((1 : Int), ([] : List UInt8), ([] : List (RT 4)), ([] : List (List UInt8)), r35.2, a2)) ((f299 k a0 r35.2 a2 ([102, 97, 108, 115, 101] : List UInt8)).bind fun r48 => cond r48.1 (some ((2 : Int), ([] : List UInt8), ([] : List (RT 4)), ([] : List (List UInt8)), r48.2, a2)) ((f299 k a0 r48.2 a2 ([116, 114, 117, 101] : List UInt8)).bind fun r61 => cond r61.1 (some ((3 : Int), ([] : List UInt8), ([] : List (RT 4)), ([] : List (List UInt8)), r61.2, a2)) ((f299 k a0 r61.2 a2 ([34] : List UInt8)).bind fun r74 => cond r74.1 ((f300 k a0 r74.2 a2).bind fun r81 => some ((5 : Int), r81.1, ([] : List (RT 4)), ([] : List (List UInt8)), r81.2.1, r81.2.2)) (gd (0 ≤ r74.2 ∧ r74.2 < ((a0.length : Nat) : Int)) (cond (decide ((((a0.getD (r74.2).toNat 0).toNat : Nat) : Int) = (91 : Int))) (f296_j111 k a3 a0 r74 a2 rc296 true) (gd (0 ≤ r74.2 ∧ r74.2 < ((a0.length : Nat) : Int)) (f296_j111 k a3 a0 r74 a2 rc296 (decide ((((a0.getD (r74.2).toNat 0).toNat : Nat) : Int) = (123 : Int)))))))))))
theorem F296_s {P : Program} {N : Nat → Nat} (hmix : P.follows .mixedOrders = true) (hc : HC296 P N) {rc296 : (List UInt8) → Int → Int → Int → Option (Int × (List UInt8) × (List (RT 4)) × (List (List UInt8)) × Int × Int)} (hrc296 : RH296 P N rc296) {k : Nat} {a0 : (List UInt8)} {a1 : Int} {a2 : Int} {a3 : Int} {r : (Int × (List UInt8) × (List (RT 4)) × (List (List UInt8)) × Int × Int)} (h : f296_s rc296 k a0 a1 a2 a3 = some r) :
    ACalls P (N 296) [(.ptr 0 0), (.d (.int .i64 a3))] [(0, (.cells [(.d (.str a0)), (.d (.int .i64 a1)), (.d (.int .i64 a2))]))] (.d (.agg [(.int .i64 r.1), (.str r.2.1), (.sl (List.map (rtE (z := 4)) r.2.2.1)), (.sl (List.map D.str r.2.2.2.1))])) [(0, (.cells [(.d (.str a0)), (.d (.int .i64 r.2.2.2.2.1)), (.d (.int .i64 r.2.2.2.2.2))]))] := by
  refine acalls_canon (F := C296 N) hc.1 1 1 rfl ?_
  unfold f296_s at h
  dsimp only [C296, startL]
  refine AWc.seq ?_
  refine AWc.rE hmix [] ?_
  refine AWc.seq ?_
  obtain ⟨r9, e9, h⟩ := bind_some h
  refine AWc.rE hmix [.call (F297 hmix hc.2.1 e9) [] 1] ?_
  refine AWc.seq ?_
  refine AWc.block ?_
  refine AWc.seq ?_
  refine AWc.rE hmix [] ?_
  rcases cc h with ⟨c26, h⟩ | ⟨c26, h⟩
  · refine AWc.cT c26 ?_
    obtain ⟨r30, e30, h⟩ := bind_some h
    refine AWc.rE hmix [.call (F298 hmix hc.2.2.1 e30) [] 1] ?_
    refine AWc.seq ?_
    refine AWc.rE hmix [] ?_
    have hr := Option.some.inj h
    subst hr
    exact AWc.ret (canQ (N := 72) (k := 2) (l' := [(4, (.ptr 1 0))]) (H' := [(1, (.cells [(.d (.int .i64 (0 : Int))), (.d (.str ([] : List UInt8))), (.d (.sl (List.map (rtE (z := 4)) ([] : List (RT 4))))), (.d (.sl (List.map D.str ([] : List (List UInt8)))))])), (0, (.cells [(.d (.str a0)), (.d (.int .i64 r9)), (.d (.int .i64 r30))]))]) rfl (inT [] []) (doneA (.inr rfl) rfl ⟨(Nat.le_of_ble_eq_true rfl), trivial⟩ (.refl _) (hasCons rfl hasNil)))
  · refine AWc.cF c26 ?_
    refine AWc.seq ?_
    obtain ⟨r35, e35, h⟩ := bind_some h
    refine AWc.rE hmix [.call (F299 hmix hc.2.2.2.1 e35) [] 1] ?_
    rcases cc h with ⟨c37, h⟩ | ⟨c37, h⟩
    · refine AWc.cT c37 ?_
      refine AWc.seq ?_
      refine AWc.rE hmix [] ?_
      have hr := Option.some.inj h
      subst hr
      exact AWc.ret (canQ (N := 72) (k := 2) (l' := [(4, (.ptr 1 0))]) (H' := [(1, (.cells [(.d (.int .i64 (1 : Int))), (.d (.str ([] : List UInt8))), (.d (.sl (List.map (rtE (z := 4)) ([] : List (RT 4))))), (.d (.sl (List.map D.str ([] : List (List UInt8)))))])), (0, (.cells [(.d (.str a0)), (.d (.int .i64 r35.2)), (.d (.int .i64 a2))]))]) rfl (inT [] []) (doneA (.inr rfl) rfl ⟨(Nat.le_of_ble_eq_true rfl), trivial⟩ (.refl _) (hasCons rfl hasNil)))
    · refine AWc.cF c37 ?_
      refine AWc.seq ?_
      obtain ⟨r48, e48, h⟩ := bind_some h
      refine AWc.rE hmix [.call (F299 hmix hc.2.2.2.1 e48) [] 1] ?_
      rcases cc h with ⟨c50, h⟩ | ⟨c50, h⟩
      · refine AWc.cT c50 ?_
        refine AWc.seq ?_
        refine AWc.rE hmix [] ?_
        have hr := Option.some.inj h
        subst hr
        exact AWc.ret (canQ (N := 72) (k := 2) (l' := [(4, (.ptr 1 0))]) (H' := [(1, (.cells [(.d (.int .i64 (2 : Int))), (.d (.str ([] : List UInt8))), (.d (.sl (List.map (rtE (z := 4)) ([] : List (RT 4))))), (.d (.sl (List.map D.str ([] : List (List UInt8)))))])), (0, (.cells [(.d (.str a0)), (.d (.int .i64 r48.2)), (.d (.int .i64 a2))]))]) rfl (inT [] []) (doneA (.inr rfl) rfl ⟨(Nat.le_of_ble_eq_true rfl), trivial⟩ (.refl _) (hasCons rfl hasNil)))
      · refine AWc.cF c50 ?_
        refine AWc.seq ?_
        obtain ⟨r61, e61, h⟩ := bind_some h
        refine AWc.rE hmix [.call (F299 hmix hc.2.2.2.1 e61) [] 1] ?_
        rcases cc h with ⟨c63, h⟩ | ⟨c63, h⟩
        · refine AWc.cT c63 ?_
          refine AWc.seq ?_
          refine AWc.rE hmix [] ?_
          have hr := Option.some.inj h
          subst hr
          exact AWc.ret (canQ (N := 72) (k := 2) (l' := [(4, (.ptr 1 0))]) (H' := [(1, (.cells [(.d (.int .i64 (3 : Int))), (.d (.str ([] : List UInt8))), (.d (.sl (List.map (rtE (z := 4)) ([] : List (RT 4))))), (.d (.sl (List.map D.str ([] : List (List UInt8)))))])), (0, (.cells [(.d (.str a0)), (.d (.int .i64 r61.2)), (.d (.int .i64 a2))]))]) rfl (inT [] []) (doneA (.inr rfl) rfl ⟨(Nat.le_of_ble_eq_true rfl), trivial⟩ (.refl _) (hasCons rfl hasNil)))
        · refine AWc.cF c63 ?_
          refine AWc.seq ?_
          obtain ⟨r74, e74, h⟩ := bind_some h
          refine AWc.rE hmix [.call (F299 hmix hc.2.2.2.1 e74) [] 1] ?_
          rcases cc h with ⟨c76, h⟩ | ⟨c76, h⟩
          · refine AWc.cT c76 ?_
            refine AWc.seq ?_
            obtain ⟨r81, e81, h⟩ := bind_some h
            refine AWc.rE hmix [.call (F300 hmix hc.2.2.2.2.1 e81) [] 1] ?_
            have hr := Option.some.inj h
            subst hr
            exact AWc.ret (canQ (N := 72) (k := 2) (l' := [(4, (.ptr 1 0))]) (H' := [(1, (.cells [(.d (.int .i64 (5 : Int))), (.d (.str r81.1)), (.d (.sl (List.map (rtE (z := 4)) ([] : List (RT 4))))), (.d (.sl (List.map D.str ([] : List (List UInt8)))))])), (0, (.cells [(.d (.str a0)), (.d (.int .i64 r81.2.1)), (.d (.int .i64 r81.2.2))]))]) rfl (inT [] []) (doneA (.inr rfl) rfl ⟨(Nat.le_of_ble_eq_true rfl), trivial⟩ (.refl _) (hasCons rfl hasNil)))
          · refine AWc.cF c76 ?_
            refine AWc.seqS (N := 72) 2 (fun (z : Bool) => [(0, (.ptr 0 0)), (1, (.d (.int .i64 a3))), (4, (.ptr 1 0)), (41, (.d (.bool z)))]) (fun z => [(0, (.cells [(.d (.str a0)), (.d (.int .i64 r74.2)), (.d (.int .i64 a2))])), (1, (.cells [(.d (.int .i64 (0 : Int))), (.d (.str ([] : List UInt8))), .nils, .nils]))]) (fun z => f296_j111 k a3 a0 r74 a2 rc296 z = some r) rfl_le ?_ ?_
            · obtain ⟨b96, h⟩ := gd_some h
              rcases cc h with ⟨c98, h⟩ | ⟨c98, h⟩
              · refine AWc.rE hmix [.sd b96, .br c98] ?_
                exact ⟨true, h, (inT [] [])⟩
              · obtain ⟨b107, h⟩ := gd_some h
                refine AWc.rE hmix [.sd b96, .br c98, .sd b107] ?_
                exact ⟨(decide ((((a0.getD (r74.2).toNat 0).toNat : Nat) : Int) = (123 : Int))), h, (inT [] [])⟩
            · intro j111_1 h
              unfold f296_j111 at h
              rcases cc h with ⟨c111, h⟩ | ⟨c111, h⟩
              · refine AWc.cT c111 ?_
                refine AWc.seq ?_
                refine AWc.seq ?_
                refine AWc.rE hmix [] ?_
                rcases cc h with ⟨c118, h⟩ | ⟨c118, h⟩
                · refine AWc.cT c118 ?_
                  refine AWc.seq ?_
                  obtain ⟨r123, e123, h⟩ := bind_some h
                  refine AWc.rE hmix [.call (F298 hmix hc.2.2.1 e123) [] 1] ?_
                  refine AWc.exit ?_
                  refine inBlk_eq ?_
                  refine AWc.seq ?_
                  refine AWc.rE hmix [] ?_
                  have hr := Option.some.inj h
                  subst hr
                  exact AWc.ret (canQ (N := 72) (k := 2) (l' := [(4, (.ptr 1 0))]) (H' := [(1, (.cells [(.d (.int .i64 (0 : Int))), (.d (.str ([] : List UInt8))), (.d (.sl (List.map (rtE (z := 4)) ([] : List (RT 4))))), (.d (.sl (List.map D.str ([] : List (List UInt8)))))])), (0, (.cells [(.d (.str a0)), (.d (.int .i64 r74.2)), (.d (.int .i64 r123))]))]) rfl (inT [] []) (doneA (.inr rfl) rfl ⟨(Nat.le_of_ble_eq_true rfl), trivial⟩ (.refl _) (hasCons rfl hasNil)))
                · refine AWc.cF c118 ?_
                  refine AWc.skip ?_
                  refine AWc.seq ?_
                  obtain ⟨r131, e131, h⟩ := bind_some h
                  refine AWc.rE hmix [.call (F353 hmix hc.2.2.2.2.2.1 hrc296 e131) [] 1] ?_
                  have hr := Option.some.inj h
                  subst hr
                  exact AWc.ret (canQ (N := 72) (k := 2) (l' := [(4, (.ptr 1 0))]) (H' := [(1, (.cells [(.d (.int .i64 r131.1)), (.d (.str ([] : List UInt8))), (.d (.sl (List.map (rtE (z := 4)) r131.2.1))), (.d (.sl (List.map D.str r131.2.2.1)))])), (0, (.cells [(.d (.str a0)), (.d (.int .i64 r131.2.2.2.1)), (.d (.int .i64 r131.2.2.2.2))]))]) rfl (inT [] []) (doneA (.inr rfl) rfl ⟨(Nat.le_of_ble_eq_true rfl), trivial⟩ (.refl _) (hasCons rfl hasNil)))
              · refine AWc.cF c111 ?_
                refine AWc.seq ?_
                obtain ⟨r138, e138, h⟩ := bind_some h
                refine AWc.rE hmix [.call (F350 hmix hc.2.2.2.2.2.2 e138) [] 1] ?_
                have hr := Option.some.inj h
                subst hr
                exact AWc.ret (canQ (N := 72) (k := 2) (l' := [(4, (.ptr 1 0))]) (H' := [(1, (.cells [(.d (.int .i64 (4 : Int))), (.d (.str r138.1)), (.d (.sl (List.map (rtE (z := 4)) ([] : List (RT 4))))), (.d (.sl (List.map D.str ([] : List (List UInt8)))))])), (0, (.cells [(.d (.str a0)), (.d (.int .i64 r138.2.1)), (.d (.int .i64 r138.2.2))]))]) rfl (inT [] []) (doneA (.inr rfl) rfl ⟨(Nat.le_of_ble_eq_true rfl), trivial⟩ (.refl _) (hasCons rfl hasNil)))
def f296 : Nat → (List UInt8) → Int → Int → Int → Option (Int × (List UInt8) × (List (RT 4)) × (List (List UInt8)) × Int × Int)
  | 0, _, _, _, _ => none
  | k + 1, a0, a1, a2, a3 => f296_s (f296 k) k a0 a1 a2 a3
theorem F296 {P : Program} {N : Nat → Nat} (hmix : P.follows .mixedOrders = true) (hc : HC296 P N) {k : Nat} {a0 : (List UInt8)} {a1 : Int} {a2 : Int} {a3 : Int} {r : (Int × (List UInt8) × (List (RT 4)) × (List (List UInt8)) × Int × Int)} (h : f296 k a0 a1 a2 a3 = some r) :
    ACalls P (N 296) [(.ptr 0 0), (.d (.int .i64 a3))] [(0, (.cells [(.d (.str a0)), (.d (.int .i64 a1)), (.d (.int .i64 a2))]))] (.d (.agg [(.int .i64 r.1), (.str r.2.1), (.sl (List.map (rtE (z := 4)) r.2.2.1)), (.sl (List.map D.str r.2.2.2.1))])) [(0, (.cells [(.d (.str a0)), (.d (.int .i64 r.2.2.2.2.1)), (.d (.int .i64 r.2.2.2.2.2))]))] := by
  induction k generalizing a0 a1 a2 a3 r with
  | zero => exact absurd (show (none : Option _) = some r from h) (fun h2 => by cases h2)
  | succ k ih => exact F296_s hmix hc (fun _ _ _ _ _ h => ih h) h
/-- courant/courantref02.Parse -/
def C295 (N : Nat → Nat) : AFunc := { n := 40, params := 1, res := [.cell 2 4 true, .tmp 3], body :=
 (.seq (.region false [⟨(some 2), .alloc [(.int .i64 0), (.str []), (.sl []), (.sl [])], none, []⟩,
   ⟨(some 3), .mv (.k (.d (.int .i64 0))), none, []⟩])
  (.seq (.seq (.region false [⟨(some 6), .mv (.t 0), none, []⟩,
     ⟨(some 7), .slen (.t 6), none, [0]⟩,
     ⟨(some 8), .bin .gtr (.t 7) (.k (.d (.int .i64 20000))), none, [1]⟩])
    (.cond (.t 8) (.seq (.region false [⟨(some 9), .build [(.int .i64 0), (.str []), (.sl []), (.sl [])] [], none, []⟩,
       ⟨none, .store (.t 2) (.t 9) 4, none, [0]⟩,
       ⟨(some 3), .mv (.k (.d (.int .i64 5))), none, [1, 0]⟩])
      .ret)
     (.skip)))
   (.seq (.region false [⟨(some 10), .mv (.t 0), none, []⟩,
     ⟨(some 11), .build [(.str []), (.int .i64 0), (.int .i64 0)] [(0, 1, (.t 10))], none, [0]⟩,
     ⟨(some 12), .box (.t 11), none, [1]⟩,
     ⟨(some 4), .mv (.t 12), none, [2, 0, 1]⟩])
    (.seq (.region false [⟨(some 13), .mv (.t 4), none, []⟩,
      ⟨(some 14), .call (.k (.d (.fn (N 296)))) [(.t 13), (.k (.d (.int .i64 0)))], none, [0]⟩,
      ⟨(some 5), .alloc [(.int .i64 0), (.str []), (.sl []), (.sl [])], none, []⟩,
      ⟨none, .store (.t 5) (.t 14) 4, none, [2, 1, 0]⟩])
     (.seq (.region false [⟨(some 15), .mv (.t 4), none, []⟩,
       ⟨(some 16), .call (.k (.d (.fn (N 297)))) [(.t 15)], none, [0]⟩])
      (.seq (.seq (.region true [⟨(some 17), .mv (.t 4), none, []⟩,
         ⟨(some 18), .nilchk (.t 17), none, [0]⟩,
         ⟨(some 19), .faddr (.t 18) 1, none, [1]⟩,
         ⟨(some 20), .load (.t 19) 1 false, none, [2]⟩,
         ⟨(some 21), .mv (.t 4), none, []⟩,
         ⟨(some 22), .nilchk (.t 21), none, [4]⟩,
         ⟨(some 23), .faddr (.t 22) 0, none, [5]⟩,
         ⟨(some 24), .load (.t 23) 1 false, none, [6]⟩,
         ⟨(some 25), .slen (.t 24), none, [7]⟩,
         ⟨(some 26), .bin .lss (.t 20) (.t 25), none, [3, 8]⟩])
        (.cond (.t 26) (.region false [⟨(some 27), .mv (.t 4), none, []⟩,
          ⟨(some 28), .call (.k (.d (.fn (N 298)))) [(.t 27), (.k (.d (.int .i64 4)))], none, [0]⟩])
         (.skip)))
       (.seq (.seq (.region false [⟨(some 29), .mv (.t 4), none, []⟩,
          ⟨(some 30), .nilchk (.t 29), none, [0]⟩,
          ⟨(some 31), .faddr (.t 30) 2, none, [1]⟩,
          ⟨(some 32), .load (.t 31) 1 false, none, [2]⟩,
          ⟨(some 33), .bin .neq (.t 32) (.k (.d (.int .i64 0))), none, [3]⟩])
         (.cond (.t 33) (.seq (.region true [⟨(some 34), .build [(.int .i64 0), (.str []), (.sl []), (.sl [])] [], none, []⟩,
            ⟨(some 35), .mv (.t 4), none, []⟩,
            ⟨(some 36), .nilchk (.t 35), none, [1]⟩,
            ⟨(some 37), .faddr (.t 36) 2, none, [2]⟩,
            ⟨(some 38), .load (.t 37) 1 false, none, [3]⟩,
            ⟨none, .store (.t 2) (.t 34) 4, none, [0]⟩,
            ⟨(some 3), .mv (.t 38), none, [4, 5, 0, 1, 2, 3]⟩])
           .ret)
          (.skip)))
        (.seq (.region false [⟨(some 39), .load (.t 5) 4 true, none, []⟩,
          ⟨none, .store (.t 2) (.t 39) 4, none, [0]⟩,
          ⟨(some 3), .mv (.k (.d (.int .i64 0))), none, [1, 0]⟩])
         .ret)))))))) }
def HC295 (P : Program) (N : Nat → Nat) : Prop := HasF P (N 295) (C295 N) ∧ HC296 P N ∧ HC297 P N ∧ HC298 P N
def f295_j61 (k : Nat) (r33 : (Int × (List UInt8) × (List (RT 4)) × (List (List UInt8)) × Int × Int)) (j61_1 : Int) : Option (Int × Int × (List UInt8) × (List (RT 4)) × (List (List UInt8))) := cond (decide (j61_1 ≠ (0 : Int))) (some (j61_1, (0 : Int), ([] : List UInt8), ([] : List (RT 4)), ([] : List (List UInt8)))) (some ((0 : Int), r33.1, r33.2.1, r33.2.2.1, r33.2.2.2.1))
def f295 (k : Nat) (a0 : (List UInt8)) : Option (Int × Int × (List UInt8) × (List (RT 4)) × (List (List UInt8))) := cond (decide (((a0.length : Nat) : Int) > (20000 : Int))) (some ((5 : Int), (0 : Int), ([] : List UInt8), ([] : List (RT 4)), ([] : List (List UInt8)))) ((f296 k a0 (0 : Int) (0 : Int) (0 : Int)).bind fun r33 => (f297 k a0 r33.2.2.2.2.1 r33.2.2.2.2.2).bind fun r40 => cond (decide (r40 < ((a0.length : Nat) : Int))) ((f298 k a0 r40 r33.2.2.2.2.2 (4 : Int)).bind fun r59 => f295_j61 k r33 r59) (f295_j61 k r33 r33.2.2.2.2.2))
theorem F295 {P : Program} {N : Nat → Nat} (hmix : P.follows .mixedOrders = true) (hc : HC295 P N) {k : Nat} {a0 : (List UInt8)} {r : (Int × Int × (List UInt8) × (List (RT 4)) × (List (List UInt8)))} (h : f295 k a0 = some r) :
    ACalls P (N 295) [(.d (.str a0))] [] (.tup [(.d (.agg [(.int .i64 r.2.1), (.str r.2.2.1), (.sl (List.map (rtE (z := 4)) r.2.2.2.1)), (.sl (List.map D.str r.2.2.2.2))])), (.d (.int .i64 r.1))]) [] := by
  refine acalls_canon (F := C295 N) hc.1 0 0 rfl ?_
  unfold f295 at h
  dsimp only [C295, startL]
  refine AWc.seq ?_
  refine AWc.rE hmix [] ?_
  refine AWc.seq ?_
  refine AWc.seq ?_
  refine AWc.rE hmix [] ?_
  rcases cc h with ⟨c13, h⟩ | ⟨c13, h⟩
  · refine AWc.cT c13 ?_
    refine AWc.seq ?_
    refine AWc.rE hmix [] ?_
    have hr := Option.some.inj h
    subst hr
    exact AWc.ret (canQ (N := 40) (k := 1) (l' := [(2, (.ptr 0 0)), (3, (.d (.int .i64 (5 : Int))))]) (H' := [(0, (.cells [(.d (.int .i64 (0 : Int))), (.d (.str ([] : List UInt8))), (.d (.sl (List.map (rtE (z := 4)) ([] : List (RT 4))))), (.d (.sl (List.map D.str ([] : List (List UInt8)))))]))]) rfl (inT [] []) (doneA (.inr rfl) rfl ⟨(Nat.le_of_ble_eq_true rfl), ⟨trivial, trivial⟩⟩ (.refl _) hasNil))
  · refine AWc.cF c13 ?_
    refine AWc.skip ?_
    refine AWc.seq ?_
    refine AWc.rE hmix [] ?_
    refine AWc.seq ?_
    obtain ⟨r33, e33, h⟩ := bind_some h
    refine AWc.rE hmix [.call (F296 hmix hc.2.1 e33) [(0, 1)] 1] ?_
    refine AWc.seq ?_
    obtain ⟨r40, e40, h⟩ := bind_some h
    refine AWc.rE hmix [.call (F297 hmix hc.2.2.1 e40) [(0, 1)] 1] ?_
    refine AWc.seqS (N := 40) 3 (fun (z : Int) => [(2, (.ptr 0 0)), (4, (.ptr 1 0)), (5, (.ptr 2 0))]) (fun z => [(0, (.cells [(.d (.int .i64 (0 : Int))), (.d (.str ([] : List UInt8))), .nils, .nils])), (1, (.cells [(.d (.str a0)), (.d (.int .i64 r40)), (.d (.int .i64 z))])), (2, (.cells [(.d (.int .i64 r33.1)), (.d (.str r33.2.1)), (.d (.sl (List.map (rtE (z := 4)) r33.2.2.1))), (.d (.sl (List.map D.str r33.2.2.2.1)))]))]) (fun z => f295_j61 k r33 z = some r) rfl_le ?_ ?_
    · refine AWc.seq ?_
      refine AWc.rE hmix [] ?_
      rcases cc h with ⟨c55, h⟩ | ⟨c55, h⟩
      · refine AWc.cT c55 ?_
        obtain ⟨r59, e59, h⟩ := bind_some h
        refine AWc.rE hmix [.call (F298 hmix hc.2.2.2 e59) [(0, 1)] 1] ?_
        exact ⟨r59, h, (inT [] [])⟩
      · refine AWc.cF c55 ?_
        refine AWc.skip ?_
        exact ⟨r33.2.2.2.2.2, h, (inT [] [])⟩
    · intro j61_1 h
      unfold f295_j61 at h
      refine AWc.seq ?_
      refine AWc.seq ?_
      refine AWc.rE hmix [] ?_
      rcases cc h with ⟨c70, h⟩ | ⟨c70, h⟩
      · refine AWc.cT c70 ?_
        refine AWc.seq ?_
        refine AWc.rE hmix [] ?_
        have hr := Option.some.inj h
        subst hr
        exact AWc.ret (canQ (N := 40) (k := 1) (l' := [(2, (.ptr 0 0)), (3, (.d (.int .i64 j61_1)))]) (H' := [(0, (.cells [(.d (.int .i64 (0 : Int))), (.d (.str ([] : List UInt8))), (.d (.sl (List.map (rtE (z := 4)) ([] : List (RT 4))))), (.d (.sl (List.map D.str ([] : List (List UInt8)))))]))]) rfl (inT [] []) (doneA (.inr rfl) rfl ⟨(Nat.le_of_ble_eq_true rfl), ⟨trivial, trivial⟩⟩ (.refl _) hasNil))
      · refine AWc.cF c70 ?_
        refine AWc.skip ?_
        refine AWc.seq ?_
        refine AWc.rE hmix [] ?_
        have hr := Option.some.inj h
        subst hr
        exact AWc.ret (canQ (N := 40) (k := 1) (l' := [(2, (.ptr 0 0)), (3, (.d (.int .i64 (0 : Int))))]) (H' := [(0, (.cells [(.d (.int .i64 r33.1)), (.d (.str r33.2.1)), (.d (.sl (List.map (rtE (z := 4)) r33.2.2.1))), (.d (.sl (List.map D.str r33.2.2.2.1)))]))]) rfl (inT [] []) (doneA (.inr rfl) rfl ⟨(Nat.le_of_ble_eq_true rfl), ⟨trivial, trivial⟩⟩ (.refl _) hasNil))
def RH437 (P : Program) (N : Nat → Nat) (rc437 : TJson → TJson → Option Bool) : Prop := ∀ (a0 : TJson) (a1 : TJson) (r : Bool), rc437 a0 a1 = some r → ACalls P (N 437) [(.d (TJson.enc a0)), (.d (TJson.enc a1))] [] (.d (.bool r)) []
/-- courant/couranthelp.Same[courant/api.Json] -/
def C438 (N : Nat → Nat) : AFunc := { n := 30, params := 3, res := [.tmp 6], body :=
 (.seq (.region false [⟨(some 6), .mv (.k (.d (.bool false))), none, []⟩])
  (.seq (.seq (.region false [⟨(some 8), .mv (.t 0), none, []⟩,
     ⟨(some 9), .len (.t 8), none, [0]⟩,
     ⟨(some 10), .mv (.t 1), none, []⟩,
     ⟨(some 11), .len (.t 10), none, [2]⟩,
     ⟨(some 12), .bin .neq (.t 9) (.t 11), none, [1, 3]⟩])
    (.cond (.t 12) (.seq (.region false [⟨(some 6), .mv (.k (.d (.bool false))), none, []⟩])
      .ret)
     (.skip)))
   (.seq (.seq (.region false [⟨(some 7), .mv (.k (.d (.int .i64 0))), none, []⟩])
     (.block 0 (.loop (.seq (.seq (.region false [⟨(some 13), .mv (.t 7), none, []⟩,
          ⟨(some 14), .mv (.t 0), none, []⟩,
          ⟨(some 15), .len (.t 14), none, [1]⟩,
          ⟨(some 16), .bin .lss (.t 13) (.t 15), none, [0, 2]⟩])
         (.cond (.t 16) (.skip)
          (.exit 0)))
        (.seq (.block 1 (.seq (.region true [⟨(some 19), .mv (.t 2), none, []⟩,
            ⟨(some 20), .mv (.t 0), none, []⟩,
            ⟨(some 21), .mv (.t 7), none, []⟩,
            ⟨(some 22), .iaddr (.t 20) (.t 21) 4, none, [1, 2]⟩,
            ⟨(some 23), .load (.t 22) 4 true, none, [3]⟩,
            ⟨(some 24), .mv (.t 1), none, []⟩,
            ⟨(some 25), .mv (.t 7), none, []⟩,
            ⟨(some 26), .iaddr (.t 24) (.t 25) 4, none, [5, 6]⟩,
            ⟨(some 27), .load (.t 26) 4 true, none, [7]⟩,
            ⟨(some 28), .call (.t 19) [(.t 23), (.t 27)], none, [0, 4, 8]⟩,
            ⟨(some 29), .un .not (.t 28), none, [9]⟩])
           (.cond (.t 29) (.seq (.region false [⟨(some 6), .mv (.k (.d (.bool false))), none, []⟩])
             .ret)
            (.skip))))
         (.region false [⟨(some 17), .mv (.t 7), none, []⟩,
          ⟨(some 18), .bin .add (.t 17) (.k (.d (.int .i64 1))), none, [0]⟩,
          ⟨(some 7), .mv (.t 18), none, [1, 0]⟩]))))))
    (.seq (.region false [⟨(some 6), .mv (.k (.d (.bool true))), none, []⟩])
     .ret)))) }
def HC438 (P : Program) (N : Nat → Nat) : Prop := HasF P (N 438) (C438 N)
def f438_l26 (a0 : (List (RT 4))) (a1 : (List (RT 4))) (rc437 : TJson → TJson → Option Bool) : Nat → Int → Option (LR2 Unit Unit Bool)
  | 0, _ => none
  | k + 1, y26_1 => cond (decide (y26_1 < ((a0.length : Nat) : Int))) (gd (0 ≤ y26_1 ∧ y26_1 < ((a0.length : Nat) : Int)) ((TJson.dec (rtE (rd a0 y26_1))).bind fun rx47 => gd (0 ≤ y26_1 ∧ y26_1 < ((a1.length : Nat) : Int)) ((TJson.dec (rtE (rd a1 y26_1))).bind fun rx51 => (rc437 rx47 rx51).bind fun r53 => cond (!r53) (some (.r false)) (f438_l26 a0 a1 rc437 k (IntKind.i64.wrap (y26_1 + (1 : Int))))))) (some (.b0 ()))
def f438 (rc437 : TJson → TJson → Option Bool) (k : Nat) (a0 : (List (RT 4))) (a1 : (List (RT 4))) : Option Bool := cond (decide (((a0.length : Nat) : Int) ≠ ((a1.length : Nat) : Int))) (some false) ((f438_l26 a0 a1 rc437 k (0 : Int)).bind fun o26 => (match o26 with | .b0 () => some true | .r x => some x | _ => none))
theorem F438 {P : Program} {N : Nat → Nat} (hmix : P.follows .mixedOrders = true) (hc : HC438 P N) {rc437 : TJson → TJson → Option Bool} (hrc437 : RH437 P N rc437) {k : Nat} {a0 : (List (RT 4))} {a1 : (List (RT 4))} {r : Bool} (h : f438 rc437 k a0 a1 = some r) :
    ACalls P (N 438) [(.d (.sl (List.map (rtE (z := 4)) a0))), (.d (.sl (List.map (rtE (z := 4)) a1))), (.d (.fn (N 437)))] [] (.d (.bool r)) [] := by
  refine acalls_canon (F := C438 N) hc 0 0 rfl ?_
  unfold f438 at h
  dsimp only [C438, startL]
  refine AWc.seq ?_
  refine AWc.rE hmix [] ?_
  refine AWc.seq ?_
  refine AWc.seq ?_
  refine AWc.rE hmix [.ln (rtE (z := 4)) a0, .ln (rtE (z := 4)) a1] ?_
  rcases cc h with ⟨c14, h⟩ | ⟨c14, h⟩
  · refine AWc.cT c14 ?_
    refine AWc.seq ?_
    refine AWc.rE hmix [] ?_
    have hr := Option.some.inj h
    subst hr
    exact AWc.ret (canQ (N := 30) (k := 0) (l' := [(6, (.d (.bool false)))]) (H' := []) rfl (inT [] []) (doneA (.inr rfl) rfl ⟨trivial, trivial⟩ (.refl _) hasNil))
  · refine AWc.cF c14 ?_
    refine AWc.skip ?_
    refine AWc.seq ?_
    refine AWc.seq ?_
    refine AWc.rE hmix [] ?_
    obtain ⟨o26, h26, h⟩ := bind_some h
    refine AWc.block ?_
    refine AWc.loopK (N := 30) 0 (fun (x : Int) => [(0, (.d (.sl (List.map (rtE (z := 4)) a0)))), (1, (.d (.sl (List.map (rtE (z := 4)) a1)))), (2, (.d (.fn (N 437)))), (7, (.d (.int .i64 x)))]) (fun x => []) (fun k x => f438_l26 a0 a1 rc437 k x = some o26) k (0 : Int) rfl_le (fun x hx => by cases hx) h26 (inT [] []) ?_
    clear h26
    intro k
    intro y26_1 h26
    rw [f438_l26] at h26
    refine AWc.seq ?_
    refine AWc.seq ?_
    refine AWc.rE hmix [.ln (rtE (z := 4)) a0] ?_
    rcases cc h26 with ⟨c36, h26⟩ | ⟨c36, h26⟩
    · refine AWc.cT c36 ?_
      refine AWc.skip ?_
      refine AWc.seq ?_
      refine AWc.block ?_
      refine AWc.seq ?_
      obtain ⟨b47, h26⟩ := gd_some h26
      obtain ⟨rx47, ex47, h26⟩ := bind_some h26
      obtain ⟨b51, h26⟩ := gd_some h26
      obtain ⟨rx51, ex51, h26⟩ := bind_some h26
      obtain ⟨r53, e53, h26⟩ := bind_some h26
      refine AWc.rE hmix [.iadE (rtE (z := 4)) a0 4 rtE_ok.len b47 (TJson.dec_eq ex47), .iadE (rtE (z := 4)) a1 4 rtE_ok.len b51 (TJson.dec_eq ex51), .call (hrc437 _ _ _ e53) [] 0] ?_
      rcases cc h26 with ⟨c55, h26⟩ | ⟨c55, h26⟩
      · refine AWc.cT c55 ?_
        refine AWc.seq ?_
        refine AWc.rE hmix [] ?_
        cases h26
        dsimp only at h
        have hr := Option.some.inj h
        subst hr
        exact AWc.ret (canQ (N := 30) (k := 0) (l' := [(6, (.d (.bool false)))]) (H' := []) rfl (inT [] []) (doneA (.inr rfl) rfl ⟨trivial, trivial⟩ (.refl _) hasNil))
      · refine AWc.cF c55 ?_
        refine AWc.skip ?_
        refine AWc.rE hmix [] ?_
        exact ⟨(IntKind.i64.wrap (y26_1 + (1 : Int))), h26, (inT [] [])⟩
    · refine AWc.cF c36 ?_
      cases h26
      dsimp only at h
      refine AWc.exit ?_
      refine inBlk_eq ?_
      refine AWc.seq ?_
      refine AWc.rE hmix [] ?_
      have hr := Option.some.inj h
      subst hr
      exact AWc.ret (canQ (N := 30) (k := 0) (l' := [(6, (.d (.bool true)))]) (H' := []) rfl (inT [] []) (doneA (.inr rfl) rfl ⟨trivial, trivial⟩ (.refl _) hasNil))
/-- courant/couranthelp.Plain[string]$1 -/
def C436 (N : Nat → Nat) : AFunc := { n := 8, params := 2, res := [.tmp 4], body :=
 (.seq (.region false [⟨(some 4), .mv (.k (.d (.bool false))), none, []⟩])
  (.seq (.region false [⟨(some 5), .mv (.t 0), none, []⟩,
    ⟨(some 6), .mv (.t 1), none, []⟩,
    ⟨(some 7), .bin .eql (.t 5) (.t 6), none, [0, 1]⟩,
    ⟨(some 4), .mv (.t 7), none, [2, 0, 1]⟩])
   .ret)) }
def HC436 (P : Program) (N : Nat → Nat) : Prop := HasF P (N 436) (C436 N)
def f436 (k : Nat) (a0 : (List UInt8)) (a1 : (List UInt8)) : Option Unit := some ()
theorem F436 {P : Program} {N : Nat → Nat} (hmix : P.follows .mixedOrders = true) (hc : HC436 P N) {k : Nat} {a0 : (List UInt8)} {a1 : (List UInt8)} {r : Unit} (h : f436 k a0 a1 = some r) :
    ACalls P (N 436) [(.d (.str a0)), (.d (.str a1))] [] (.d (.bool (decide (a0 = a1)))) [] := by
  refine acalls_canon (F := C436 N) hc 0 0 rfl ?_
  unfold f436 at h
  dsimp only [C436, startL]
  refine AWc.seq ?_
  refine AWc.rE hmix [] ?_
  refine AWc.seq ?_
  refine AWc.rE hmix [] ?_
  have hr := Option.some.inj h
  subst hr
  exact AWc.ret (canQ (N := 8) (k := 0) (l' := [(4, (.d (.bool (decide (a0 = a1)))))]) (H' := []) rfl (inT [] []) (doneA (.inr rfl) rfl ⟨trivial, trivial⟩ (.refl _) hasNil))
end Go.Proofs.Abs
