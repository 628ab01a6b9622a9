/- Written by gen.py: functions of the program as Lean functions, and that the code comes to them. -/
import Derived.Test.YtnhjiioiejpbgaaDoorGJpb
set_option linter.unusedVariables false
set_option linter.unusedSimpArgs false
set_option maxRecDepth 100000
set_option maxHeartbeats 4000000
namespace Go.Proofs.Abs
open Go
/-- courant/couranthelp.Same[string] -/
def C435 (N : Nat → Nat) : AFunc := { n := 30, params := 3, res := [.tmp 6], body :=
 (.seq (.region false [⟨(some 6), .mv (.k (.d (.bool false))), none, []⟩])
  (.seq (.seq (.region false [⟨(some 8), .mv (.t 0), none, []⟩,
     ⟨(some 9), .len (.t 8), none, [0]⟩,
     ⟨(some 10), .mv (.t 1), none, []⟩,
     ⟨(some 11), .len (.t 10), none, [2]⟩,
     ⟨(some 12), .bin .neq (.t 9) (.t 11), none, [1, 3]⟩])
    (.cond (.t 12) (.seq (.region false [⟨(some 6), .mv (.k (.d (.bool false))), none, []⟩])
      .ret)
     (.skip)))
   (.seq (.seq (.region false [⟨(some 7), .mv (.k (.d (.int .i64 0))), none, []⟩])
     (.block 0 (.loop (.seq (.seq (.region false [⟨(some 13), .mv (.t 7), none, []⟩,
          ⟨(some 14), .mv (.t 0), none, []⟩,
          ⟨(some 15), .len (.t 14), none, [1]⟩,
          ⟨(some 16), .bin .lss (.t 13) (.t 15), none, [0, 2]⟩])
         (.cond (.t 16) (.skip)
          (.exit 0)))
        (.seq (.block 1 (.seq (.region true [⟨(some 19), .mv (.t 2), none, []⟩,
            ⟨(some 20), .mv (.t 0), none, []⟩,
            ⟨(some 21), .mv (.t 7), none, []⟩,
            ⟨(some 22), .iaddr (.t 20) (.t 21) 1, none, [1, 2]⟩,
            ⟨(some 23), .load (.t 22) 1 false, none, [3]⟩,
            ⟨(some 24), .mv (.t 1), none, []⟩,
            ⟨(some 25), .mv (.t 7), none, []⟩,
            ⟨(some 26), .iaddr (.t 24) (.t 25) 1, none, [5, 6]⟩,
            ⟨(some 27), .load (.t 26) 1 false, none, [7]⟩,
            ⟨(some 28), .call (.t 19) [(.t 23), (.t 27)], none, [0, 4, 8]⟩,
            ⟨(some 29), .un .not (.t 28), none, [9]⟩])
           (.cond (.t 29) (.seq (.region false [⟨(some 6), .mv (.k (.d (.bool false))), none, []⟩])
             .ret)
            (.skip))))
         (.region false [⟨(some 17), .mv (.t 7), none, []⟩,
          ⟨(some 18), .bin .add (.t 17) (.k (.d (.int .i64 1))), none, [0]⟩,
          ⟨(some 7), .mv (.t 18), none, [1, 0]⟩]))))))
    (.seq (.region false [⟨(some 6), .mv (.k (.d (.bool true))), none, []⟩])
     .ret)))) }
def HC435 (P : Program) (N : Nat → Nat) : Prop := HasF P (N 435) (C435 N) ∧ HC436 P N
def f435_l26 (a0 : (List (List UInt8))) (a1 : (List (List UInt8))) : Nat → Int → Option (LR2 Unit Unit Bool)
  | 0, _ => none
  | k + 1, y26_1 => cond (decide (y26_1 < ((a0.length : Nat) : Int))) (gd (0 ≤ y26_1 ∧ y26_1 < ((a0.length : Nat) : Int)) (gd (0 ≤ y26_1 ∧ y26_1 < ((a1.length : Nat) : Int)) ((f436 k (rd a0 y26_1) (rd a1 y26_1)).bind fun r53 => cond (!(decide ((rd a0 y26_1) = (rd a1 y26_1)))) (some (.r false)) (f435_l26 a0 a1 k (IntKind.i64.wrap (y26_1 + (1 : Int))))))) (some (.b0 ()))
def f435 (k : Nat) (a0 : (List (List UInt8))) (a1 : (List (List UInt8))) : Option Bool := cond (decide (((a0.length : Nat) : Int) ≠ ((a1.length : Nat) : Int))) (some false) ((f435_l26 a0 a1 k (0 : Int)).bind fun o26 => (match o26 with | .b0 () => some true | .r x => some x | _ => none))
theorem F435 {P : Program} {N : Nat → Nat} (hmix : P.follows .mixedOrders = true) (hc : HC435 P N) {k : Nat} {a0 : (List (List UInt8))} {a1 : (List (List UInt8))} {r : Bool} (h : f435 k a0 a1 = some r) :
    ACalls P (N 435) [(.d (.sl (List.map D.str a0))), (.d (.sl (List.map D.str a1))), (.d (.fn (N 436)))] [] (.d (.bool r)) [] := by
  refine acalls_canon (F := C435 N) hc.1 0 0 rfl ?_
  unfold f435 at h
  dsimp only [C435, startL]
  refine AWc.seq ?_
  refine AWc.rE hmix [] ?_
  refine AWc.seq ?_
  refine AWc.seq ?_
  refine AWc.rE hmix [.ln D.str a0, .ln D.str a1] ?_
  rcases cc h with ⟨c14, h⟩ | ⟨c14, h⟩
  · refine AWc.cT c14 ?_
    refine AWc.seq ?_
    refine AWc.rE hmix [] ?_
    have hr := Option.some.inj h
    subst hr
    exact AWc.ret (canQ (N := 30) (k := 0) (l' := [(6, (.d (.bool false)))]) (H' := []) rfl (inT [] []) (doneA (.inr rfl) rfl ⟨trivial, trivial⟩ (.refl _) hasNil))
  · refine AWc.cF c14 ?_
    refine AWc.skip ?_
    refine AWc.seq ?_
    refine AWc.seq ?_
    refine AWc.rE hmix [] ?_
    obtain ⟨o26, h26, h⟩ := bind_some h
    refine AWc.block ?_
    refine AWc.loopK (N := 30) 0 (fun (x : Int) => [(0, (.d (.sl (List.map D.str a0)))), (1, (.d (.sl (List.map D.str a1)))), (2, (.d (.fn (N 436)))), (7, (.d (.int .i64 x)))]) (fun x => []) (fun k x => f435_l26 a0 a1 k x = some o26) k (0 : Int) rfl_le (fun x hx => by cases hx) h26 (inT [] []) ?_
    clear h26
    intro k
    intro y26_1 h26
    rw [f435_l26] at h26
    refine AWc.seq ?_
    refine AWc.seq ?_
    refine AWc.rE hmix [.ln D.str a0] ?_
    rcases cc h26 with ⟨c36, h26⟩ | ⟨c36, h26⟩
    · refine AWc.cT c36 ?_
      refine AWc.skip ?_
      refine AWc.seq ?_
      refine AWc.block ?_
      refine AWc.seq ?_
      obtain ⟨b47, h26⟩ := gd_some h26
      obtain ⟨b51, h26⟩ := gd_some h26
      obtain ⟨r53, e53, h26⟩ := bind_some h26
      refine AWc.rE hmix [.iad D.str a0 1 (fun _ => rfl) b47, .iad D.str a1 1 (fun _ => rfl) b51, .call (F436 hmix hc.2 e53) [] 0] ?_
      rcases cc h26 with ⟨c55, h26⟩ | ⟨c55, h26⟩
      · refine AWc.cT c55 ?_
        refine AWc.seq ?_
        refine AWc.rE hmix [] ?_
        cases h26
        dsimp only at h
        have hr := Option.some.inj h
        subst hr
        exact AWc.ret (canQ (N := 30) (k := 0) (l' := [(6, (.d (.bool false)))]) (H' := []) rfl (inT [] []) (doneA (.inr rfl) rfl ⟨trivial, trivial⟩ (.refl _) hasNil))
      · refine AWc.cF c55 ?_
        refine AWc.skip ?_
        refine AWc.rE hmix [] ?_
        exact ⟨(IntKind.i64.wrap (y26_1 + (1 : Int))), h26, (inT [] [])⟩
    · refine AWc.cF c36 ?_
      cases h26
      dsimp only at h
      refine AWc.exit ?_
      refine inBlk_eq ?_
      refine AWc.seq ?_
      refine AWc.rE hmix [] ?_
      have hr := Option.some.inj h
      subst hr
      exact AWc.ret (canQ (N := 30) (k := 0) (l' := [(6, (.d (.bool true)))]) (H' := []) rfl (inT [] []) (doneA (.inr rfl) rfl ⟨trivial, trivial⟩ (.refl _) hasNil))
/-- courant/couranthelp.Plain[string] -/
def C434 (N : Nat → Nat) : AFunc := { n := 8, params := 2, res := [.tmp 4], body :=
 (.seq (.region false [⟨(some 4), .mv (.k (.d (.bool false))), none, []⟩])
  (.seq (.region false [⟨(some 5), .mv (.t 0), none, []⟩,
    ⟨(some 6), .mv (.t 1), none, []⟩,
    ⟨(some 7), .call (.k (.d (.fn (N 435)))) [(.t 5), (.t 6), (.k (.d (.fn (N 436))))], none, [0, 1]⟩,
    ⟨(some 4), .mv (.t 7), none, [2, 0, 1]⟩])
   .ret)) }
def HC434 (P : Program) (N : Nat → Nat) : Prop := HasF P (N 434) (C434 N) ∧ HC435 P N
def f434 (k : Nat) (a0 : (List (List UInt8))) (a1 : (List (List UInt8))) : Option Bool := (f435 k a0 a1).bind fun r10 => some r10
theorem F434 {P : Program} {N : Nat → Nat} (hmix : P.follows .mixedOrders = true) (hc : HC434 P N) {k : Nat} {a0 : (List (List UInt8))} {a1 : (List (List UInt8))} {r : Bool} (h : f434 k a0 a1 = some r) :
    ACalls P (N 434) [(.d (.sl (List.map D.str a0))), (.d (.sl (List.map D.str a1)))] [] (.d (.bool r)) [] := by
  refine acalls_canon (F := C434 N) hc.1 0 0 rfl ?_
  unfold f434 at h
  dsimp only [C434, startL]
  refine AWc.seq ?_
  refine AWc.rE hmix [] ?_
  refine AWc.seq ?_
  obtain ⟨r10, e10, h⟩ := bind_some h
  refine AWc.rE hmix [.call (F435 hmix hc.2 e10) [] 0] ?_
  have hr := Option.some.inj h
  subst hr
  exact AWc.ret (canQ (N := 8) (k := 0) (l' := [(4, (.d (.bool r10)))]) (H' := []) rfl (inT [] []) (doneA (.inr rfl) rfl ⟨trivial, trivial⟩ (.refl _) hasNil))
/-- courant/couranthelp.Json -/
def C437 (N : Nat → Nat) : AFunc := { n := 31, params := 2, res := [.tmp 4], body :=
 (.seq (.region false [⟨(some 2), .box (.t 0), none, []⟩,
   ⟨(some 3), .box (.t 1), none, []⟩,
   ⟨(some 4), .mv (.k (.d (.bool false))), none, []⟩])
  (.seq (.region false [⟨(some 5), .faddr (.t 2) 0, none, []⟩,
    ⟨(some 6), .load (.t 5) 1 false, none, [0]⟩,
    ⟨(some 7), .faddr (.t 3) 0, none, []⟩,
    ⟨(some 8), .load (.t 7) 1 false, none, [2]⟩,
    ⟨(some 9), .bin .eql (.t 6) (.t 8), none, [1, 3]⟩,
    ⟨(some 10), .mv (.t 9), none, [4]⟩,
    ⟨(some 11), .faddr (.t 2) 1, (some (10, true)), [5]⟩,
    ⟨(some 12), .load (.t 11) 1 false, (some (10, true)), [6, 5]⟩,
    ⟨(some 13), .faddr (.t 3) 1, (some (10, true)), [5]⟩,
    ⟨(some 14), .load (.t 13) 1 false, (some (10, true)), [8, 5]⟩,
    ⟨(some 15), .bin .eql (.t 12) (.t 14), (some (10, true)), [7, 9, 5]⟩,
    ⟨(some 16), .pick (.t 10) (.t 15) (.k (.d (.bool false))), none, [5, 10]⟩,
    ⟨(some 17), .mv (.t 16), none, [11, 5]⟩,
    ⟨(some 18), .faddr (.t 2) 2, (some (17, true)), [12]⟩,
    ⟨(some 19), .load (.t 18) 1 false, (some (17, true)), [13, 12]⟩,
    ⟨(some 20), .faddr (.t 3) 2, (some (17, true)), [12]⟩,
    ⟨(some 21), .load (.t 20) 1 false, (some (17, true)), [15, 12]⟩,
    ⟨(some 22), .call (.k (.d (.fn (N 438)))) [(.t 19), (.t 21), (.k (.d (.fn (N 437))))], (some (17, true)), [14, 16, 12]⟩,
    ⟨(some 23), .pick (.t 17) (.t 22) (.k (.d (.bool false))), none, [12, 17]⟩,
    ⟨(some 24), .mv (.t 23), none, [18, 17]⟩,
    ⟨(some 25), .faddr (.t 2) 3, (some (24, true)), [19]⟩,
    ⟨(some 26), .load (.t 25) 1 false, (some (24, true)), [20, 19]⟩,
    ⟨(some 27), .faddr (.t 3) 3, (some (24, true)), [19]⟩,
    ⟨(some 28), .load (.t 27) 1 false, (some (24, true)), [22, 19]⟩,
    ⟨(some 29), .call (.k (.d (.fn (N 434)))) [(.t 26), (.t 28)], (some (24, true)), [21, 23, 19]⟩,
    ⟨(some 30), .pick (.t 24) (.t 29) (.k (.d (.bool false))), none, [19, 24]⟩,
    ⟨(some 4), .mv (.t 30), none, [25, 24, 0, 1, 2, 3, 4, 5, 6, 7, 8, 9, 10, 11, 12, 13, 14, 15, 16, 17, 18, 19, 20, 21, 22, 23]⟩])
   .ret)) }
def HC437 (P : Program) (N : Nat → Nat) : Prop := HasF P (N 437) (C437 N) ∧ HC438 P N ∧ HC434 P N
def f437_s (rc437 : TJson → TJson → Option Bool) (k : Nat) (a0 : TJson) (a1 : TJson) : Option Bool := cond (decide (a0.fKind = a1.fKind)) (cond (decide (a0.fText = a1.fText)) ((f438 rc437 k a0.fL a1.fL).bind fun r27 => cond r27 ((f434 k a0.fKeys a1.fKeys).bind fun r34 => some r34) (some false)) (some false)) (some false)
theorem F437_s {P : Program} {N : Nat → Nat} (hmix : P.follows .mixedOrders = true) (hc : HC437 P N) {rc437 : TJson → TJson → Option Bool} (hrc437 : RH437 P N rc437) {k : Nat} {a0 : TJson} {a1 : TJson} {r : Bool} (h : f437_s rc437 k a0 a1 = some r) :
    ACalls P (N 437) [(.d (TJson.enc a0)), (.d (TJson.enc a1))] [] (.d (.bool r)) [] := by
  refine acalls_canon (F := C437 N) hc.1 0 0 rfl ?_
  unfold f437_s at h
  dsimp only [C437, startL]
  refine AWc.seq ?_
  refine AWc.rE hmix [] ?_
  refine AWc.seq ?_
  rcases cc h with ⟨c15, h⟩ | ⟨c15, h⟩
  · rcases cc h with ⟨c22, h⟩ | ⟨c22, h⟩
    · obtain ⟨r27, e27, h⟩ := bind_some h
      rcases cc h with ⟨c29, h⟩ | ⟨c29, h⟩
      · obtain ⟨r34, e34, h⟩ := bind_some h
        refine AWc.rE hmix [.br c15, .br c22, .call (F438 hmix hc.2.1 hrc437 e27) [] 0, .br c29, .call (F434 hmix hc.2.2 e34) [] 0] ?_
        have hr := Option.some.inj h
        subst hr
        exact AWc.ret (canQ (N := 31) (k := 0) (l' := [(4, (.d (.bool r34)))]) (H' := []) rfl (inT [] []) (doneA (.inr rfl) rfl ⟨trivial, trivial⟩ (.refl _) hasNil))
      · refine AWc.rE hmix [.br c15, .br c22, .call (F438 hmix hc.2.1 hrc437 e27) [] 0, .br c29] ?_
        have hr := Option.some.inj h
        subst hr
        exact AWc.ret (canQ (N := 31) (k := 0) (l' := [(4, (.d (.bool false)))]) (H' := []) rfl (inT [] []) (doneA (.inr rfl) rfl ⟨trivial, trivial⟩ (.refl _) hasNil))
    · refine AWc.rE hmix [.br c15, .br c22, .br (rfl : false = false)] ?_
      have hr := Option.some.inj h
      subst hr
      exact AWc.ret (canQ (N := 31) (k := 0) (l' := [(4, (.d (.bool false)))]) (H' := []) rfl (inT [] []) (doneA (.inr rfl) rfl ⟨trivial, trivial⟩ (.refl _) hasNil))
  · refine AWc.rE hmix [.br c15, .br (rfl : false = false), .br (rfl : false = false)] ?_
    have hr := Option.some.inj h
    subst hr
    exact AWc.ret (canQ (N := 31) (k := 0) (l' := [(4, (.d (.bool false)))]) (H' := []) rfl (inT [] []) (doneA (.inr rfl) rfl ⟨trivial, trivial⟩ (.refl _) hasNil))
def f437 : Nat → TJson → TJson → Option Bool
  | 0, _, _ => none
  | k + 1, a0, a1 => f437_s (f437 k) k a0 a1
theorem F437 {P : Program} {N : Nat → Nat} (hmix : P.follows .mixedOrders = true) (hc : HC437 P N) {k : Nat} {a0 : TJson} {a1 : TJson} {r : Bool} (h : f437 k a0 a1 = some r) :
    ACalls P (N 437) [(.d (TJson.enc a0)), (.d (TJson.enc a1))] [] (.d (.bool r)) [] := by
  induction k generalizing a0 a1 r with
  | zero => exact absurd (show (none : Option _) = some r from h) (fun h2 => by cases h2)
  | succ k ih => exact F437_s hmix hc (fun _ _ _ h => ih h) h
/-- courant/courantlaw02.JsonParses -/
def C394 (N : Nat → Nat) : AFunc := { n := 32, params := 1, res := [.tmp 2], body :=
 (.seq (.region false [⟨(some 2), .mv (.k (.d (.bool false))), none, []⟩])
  (.seq (.seq (.region false [⟨(some 7), .mv (.t 0), none, []⟩,
     ⟨(some 8), .slen (.t 7), none, [0]⟩,
     ⟨(some 9), .bin .gtr (.t 8) (.k (.d (.int .i64 30000))), none, [1]⟩])
    (.cond (.t 9) (.seq (.region false [⟨(some 10), .call (.k (.d (.fn (N 395)))) [], none, []⟩,
       ⟨(some 2), .mv (.t 10), none, [0]⟩])
      .ret)
     (.skip)))
   (.seq (.region false [⟨(some 12), .mv (.t 0), none, []⟩,
     ⟨(some 13), .call (.k (.d (.fn (N 396)))) [(.t 12)], none, [0]⟩,
     ⟨(some 11), .mv (.t 13), none, [1]⟩,
     ⟨(some 14), .ext (.t 11) 0, none, [2]⟩,
     ⟨(some 15), .ext (.t 11) 1, none, [2]⟩,
     ⟨(some 3), .alloc [(.int .i64 0), (.str []), (.sl []), (.sl [])], none, []⟩,
     ⟨none, .store (.t 3) (.t 14) 4, none, [5, 3, 1, 0, 2]⟩,
     ⟨(some 4), .mv (.t 15), none, [4, 6, 0, 1, 2, 3, 5]⟩])
    (.seq (.region false [⟨(some 17), .mv (.t 0), none, []⟩,
      ⟨(some 18), .call (.k (.d (.fn (N 295)))) [(.t 17)], none, [0]⟩,
      ⟨(some 16), .mv (.t 18), none, [1]⟩,
      ⟨(some 19), .ext (.t 16) 0, none, [2]⟩,
      ⟨(some 20), .ext (.t 16) 1, none, [2]⟩,
      ⟨(some 5), .alloc [(.int .i64 0), (.str []), (.sl []), (.sl [])], none, []⟩,
      ⟨none, .store (.t 5) (.t 19) 4, none, [5, 3, 1, 0, 2]⟩,
      ⟨(some 6), .mv (.t 20), none, [4, 6, 0, 1, 2, 3, 5]⟩])
     (.seq (.region false [⟨(some 21), .call (.k (.d (.fn (N 395)))) [], none, []⟩,
       ⟨(some 22), .mv (.t 21), none, [0]⟩,
       ⟨(some 23), .load (.t 3) 4 true, (some (22, true)), [1]⟩,
       ⟨(some 24), .load (.t 5) 4 true, (some (22, true)), [1]⟩,
       ⟨(some 25), .call (.k (.d (.fn (N 437)))) [(.t 23), (.t 24)], (some (22, true)), [2, 3, 1]⟩,
       ⟨(some 26), .pick (.t 22) (.t 25) (.k (.d (.bool false))), none, [1, 4]⟩,
       ⟨(some 27), .mv (.t 26), none, [5, 4]⟩,
       ⟨(some 28), .mv (.t 4), (some (27, true)), [6]⟩,
       ⟨(some 29), .mv (.t 6), (some (27, true)), [6]⟩,
       ⟨(some 30), .bin .eql (.t 28) (.t 29), (some (27, true)), [7, 8, 6]⟩,
       ⟨(some 31), .pick (.t 27) (.t 30) (.k (.d (.bool false))), none, [6, 9]⟩,
       ⟨(some 2), .mv (.t 31), none, [10, 6, 0, 1, 2, 3, 4, 5, 7, 8, 9]⟩])
      .ret))))) }
def HC394 (P : Program) (N : Nat → Nat) : Prop := HasF P (N 394) (C394 N) ∧ HC395 P N ∧ HC396 P N ∧ HC295 P N ∧ HC437 P N
def f394 (k : Nat) (a0 : (List UInt8)) : Option Bool := cond (decide (((a0.length : Nat) : Int) > (30000 : Int))) ((f395 k).bind fun r16 => some r16) ((f396 k a0).bind fun r24 => (f295 k a0).bind fun r35 => (f395 k).bind fun r45 => cond r45 ((f437 k (TJson.mk r24.2.1 r24.2.2.1 r24.2.2.2.1 r24.2.2.2.2) (TJson.mk r35.2.1 r35.2.2.1 r35.2.2.2.1 r35.2.2.2.2)).bind fun r49 => cond r49 (some (decide (r24.1 = r35.1))) (some false)) (some false))
theorem F394 {P : Program} {N : Nat → Nat} (hmix : P.follows .mixedOrders = true) (hc : HC394 P N) {k : Nat} {a0 : (List UInt8)} {r : Bool} (h : f394 k a0 = some r) :
    ACalls P (N 394) [(.d (.str a0))] [] (.d (.bool r)) [] := by
  refine acalls_canon (F := C394 N) hc.1 0 0 rfl ?_
  unfold f394 at h
  dsimp only [C394, startL]
  refine AWc.seq ?_
  refine AWc.rE hmix [] ?_
  refine AWc.seq ?_
  refine AWc.seq ?_
  refine AWc.rE hmix [] ?_
  rcases cc h with ⟨c12, h⟩ | ⟨c12, h⟩
  · refine AWc.cT c12 ?_
    refine AWc.seq ?_
    obtain ⟨r16, e16, h⟩ := bind_some h
    refine AWc.rE hmix [.call (F395 hmix hc.2.1 e16) [] 0] ?_
    have hr := Option.some.inj h
    subst hr
    exact AWc.ret (canQ (N := 32) (k := 0) (l' := [(2, (.d (.bool r16)))]) (H' := []) rfl (inT [] []) (doneA (.inr rfl) rfl ⟨trivial, trivial⟩ (.refl _) hasNil))
  · refine AWc.cF c12 ?_
    refine AWc.skip ?_
    refine AWc.seq ?_
    obtain ⟨r24, e24, h⟩ := bind_some h
    refine AWc.rE hmix [.call (F396 hmix hc.2.2.1 e24) [] 0] ?_
    refine AWc.seq ?_
    obtain ⟨r35, e35, h⟩ := bind_some h
    refine AWc.rE hmix [.call (F295 hmix hc.2.2.2.1 e35) [] 0] ?_
    refine AWc.seq ?_
    obtain ⟨r45, e45, h⟩ := bind_some h
    rcases cc h with ⟨c46, h⟩ | ⟨c46, h⟩
    · obtain ⟨r49, e49, h⟩ := bind_some h
      rcases cc h with ⟨c51, h⟩ | ⟨c51, h⟩
      · refine AWc.rE hmix [.call (F395 hmix hc.2.1 e45) [] 0, .br c46, .call (F437 hmix hc.2.2.2.2 e49) [] 0, .br c51] ?_
        have hr := Option.some.inj h
        subst hr
        exact AWc.ret (canQ (N := 32) (k := 0) (l' := [(2, (.d (.bool (decide (r24.1 = r35.1)))))]) (H' := []) rfl (inT [] []) (doneA (.inr rfl) rfl ⟨trivial, trivial⟩ (.refl _) hasNil))
      · refine AWc.rE hmix [.call (F395 hmix hc.2.1 e45) [] 0, .br c46, .call (F437 hmix hc.2.2.2.2 e49) [] 0, .br c51] ?_
        have hr := Option.some.inj h
        subst hr
        exact AWc.ret (canQ (N := 32) (k := 0) (l' := [(2, (.d (.bool false)))]) (H' := []) rfl (inT [] []) (doneA (.inr rfl) rfl ⟨trivial, trivial⟩ (.refl _) hasNil))
    · refine AWc.rE hmix [.call (F395 hmix hc.2.1 e45) [] 0, .br c46, .br (rfl : false = false)] ?_
      have hr := Option.some.inj h
      subst hr
      exact AWc.ret (canQ (N := 32) (k := 0) (l' := [(2, (.d (.bool false)))]) (H' := []) rfl (inT [] []) (doneA (.inr rfl) rfl ⟨trivial, trivial⟩ (.refl _) hasNil))
end Go.Proofs.Abs
