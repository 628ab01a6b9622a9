/- Written by gen.py: functions of the program as Lean functions, and that the code comes to them. -/
import Derived.Test.YtnhjiioiejpbgaaDoorAbsxh
set_option linter.unusedVariables false
set_option linter.unusedSimpArgs false
set_option maxRecDepth 100000
set_option maxHeartbeats 4000000
namespace Go.Proofs.Abs
open Go
structure TJson where
  fKind : Int
  fText : (List UInt8)
  fL : (List (RT 4))
  fKeys : (List (List UInt8))
instance : Inhabited TJson := ⟨⟨default, default, default, default⟩⟩
def TJson.enc (x : TJson) : D := .agg [.int .i64 x.fKind, .str x.fText, .sl (List.map (rtE (z := 4)) x.fL), .sl (List.map D.str x.fKeys)]
theorem TJson.ok : EncOK TJson.enc 4 true := ⟨fun _ => rfl, fun _ c hc => by simp only [TJson.enc, D.cells, List.mem_cons, List.not_mem_nil, or_false] at hc; rcases hc with rfl | rfl | rfl | rfl <;> rfl, fun _ => rfl⟩
def TJson.dec : D → Option TJson
  | .agg [c0, c1, c2, c3] => ((decI .i64) c0).bind fun x0 => (decS c1).bind fun x1 => ((decL (decR 4)) c2).bind fun x2 => ((decL decS) c3).bind fun x3 => some ⟨x0, x1, x2, x3⟩
  | _ => none
theorem TJson.dec_eq {d : D} {x : TJson} (h : TJson.dec d = some x) : d = TJson.enc x := by
  unfold TJson.dec at h
  split at h
  · obtain ⟨x0, e0, h⟩ := bind_some h
    obtain ⟨x1, e1, h⟩ := bind_some h
    obtain ⟨x2, e2, h⟩ := bind_some h
    obtain ⟨x3, e3, h⟩ := bind_some h
    cases h
    have q0 := decI_eq e0
    subst q0
    have q1 := decS_eq e1
    subst q1
    have q2 := decL_eq decR_eq e2
    subst q2
    have q3 := decL_eq (fun _ _ h => decS_eq h) e3
    subst q3
    rfl
  · cases h
theorem TJson.dec_put (x : TJson) : TJson.dec (TJson.enc x) = some x := by
  unfold TJson.dec TJson.enc
  simp only [(decI_put .i64) x.fKind, decS_put x.fText, (decL_put (e := (rtE (z := 4))) (decR_put (z := 4))) x.fL, (decL_put (e := D.str) decS_put) x.fKeys, Option.bind_some]
theorem TJson.dec_of (x : TJson) : TJson.dec (rtE (RT.of TJson.ok x)) = some x := TJson.dec_put x
def TJson.wf (x : TJson) : Prop := (-9223372036854775808 ≤ x.fKind ∧ x.fKind ≤ 9223372036854775807) ∧ True ∧ True ∧ (∀ e0 ∈ x.fKeys, True) ∧ True
def TJson.sz (x : TJson) : Nat := (1 + ((x.fText.length + 1) + ((x.fL.length + 1) + (((x.fKeys.map (fun x => (x.length + 1))).sum + 1) + 0)))) + 1
def RH409 (P : Program) (N : Nat → Nat) (rc409 : TJson → Int → Option (Bool × Int)) : Prop := ∀ (a0 : TJson) (a1 : Int) (r : (Bool × Int)), rc409 a0 a1 = some r → ACalls P (N 409) [(.d (TJson.enc a0)), (.ptr 0 0)] [(0, (.cells [(.d (.int .i64 a1))]))] (.d (.bool r.1)) [(0, (.cells [(.d (.int .i64 r.2))]))]
/-- courant/couranthelp.smallJson -/
def C409 (N : Nat → Nat) : AFunc := { n := 40, params := 2, res := [.tmp 4], body :=
 (.seq (.region false [⟨some 2, .box (.t 0), none, []⟩,
 ⟨some 4, .mv (.k (.d (.bool false))), none, []⟩])
 (.seq (.region true [⟨some 6, .mv (.t 1), none, []⟩,
 ⟨some 7, .mv (.t 1), none, []⟩,
 ⟨some 8, .nilchk (.t 7), none, [1]⟩,
 ⟨some 9, .load (.t 8) 1 false, none, [2]⟩,
 ⟨some 10, .bin .sub (.t 9) (.k (.d (.int .i64 1))), none, [3]⟩,
 ⟨some 11, .faddr (.t 2) 1, none, []⟩,
 ⟨some 12, .load (.t 11) 1 false, none, [5]⟩,
 ⟨some 13, .slen (.t 12), none, [6]⟩,
 ⟨some 14, .bin .quo (.t 13) (.k (.d (.int .i64 50))), none, [7]⟩,
 ⟨some 15, .bin .sub (.t 10) (.t 14), none, [4, 8]⟩,
 ⟨some 16, .faddr (.t 2) 3, none, []⟩,
 ⟨some 17, .load (.t 16) 1 false, none, [10]⟩,
 ⟨some 18, .len (.t 17), none, [11]⟩,
 ⟨some 19, .bin .sub (.t 15) (.t 18), none, [9, 12]⟩,
 ⟨some 20, .nilchk (.t 6), none, [0, 1, 2, 3, 4, 5, 6, 7, 8, 9, 10, 11, 12, 13]⟩,
 ⟨none, .store (.t 20) (.t 19) 1, none, [14, 13, 0, 1, 2, 3, 4, 5, 6, 7, 8, 9, 10, 11, 12]⟩])
 (.seq (.seq (.region false [⟨some 21, .mv (.t 1), none, []⟩,
 ⟨some 22, .nilchk (.t 21), none, [0]⟩,
 ⟨some 23, .load (.t 22) 1 false, none, [1]⟩,
 ⟨some 24, .bin .lss (.t 23) (.k (.d (.int .i64 0))), none, [2]⟩])
     (.cond (.t 24) (.seq (.region false [⟨some 4, .mv (.k (.d (.bool false))), none, []⟩])
       .ret)
      (.skip)))
 (.seq (.seq (.region false [⟨some 5, .mv (.k (.d (.int .i64 0))), none, []⟩])
      (.block 0 (.loop (.seq (.seq (.region false [⟨some 25, .mv (.t 5), none, []⟩,
 ⟨some 26, .faddr (.t 2) 2, none, []⟩,
 ⟨some 27, .load (.t 26) 1 false, none, [1]⟩,
 ⟨some 28, .len (.t 27), none, [2]⟩,
 ⟨some 29, .bin .lss (.t 25) (.t 28), none, [0, 3]⟩])
          (.cond (.t 29) (.skip)
           (.exit 0)))
 (.seq (.block 1 (.seq (.region false [⟨some 32, .faddr (.t 2) 2, none, []⟩,
 ⟨some 33, .load (.t 32) 1 false, none, [0]⟩,
 ⟨some 34, .mv (.t 5), none, []⟩,
 ⟨some 35, .iaddr (.t 33) (.t 34) 4, none, [1, 2]⟩,
 ⟨some 36, .load (.t 35) 4 true, none, [3]⟩,
 ⟨some 37, .mv (.t 1), none, []⟩,
 ⟨some 38, .call (.k (.d (.fn (N 409)))) [(.t 36), (.t 37)], none, [4, 5]⟩,
 ⟨some 39, .un .not (.t 38), none, [6]⟩])
            (.cond (.t 39) (.seq (.region false [⟨some 4, .mv (.k (.d (.bool false))), none, []⟩])
              .ret)
             (.skip))))
          (.region false [⟨some 30, .mv (.t 5), none, []⟩,
 ⟨some 31, .bin .add (.t 30) (.k (.d (.int .i64 1))), none, [0]⟩,
 ⟨some 5, .mv (.t 31), none, [1, 0]⟩]))))))
 (.seq (.region false [⟨some 4, .mv (.k (.d (.bool true))), none, []⟩])
      .ret))))) }
def HC409 (P : Program) (N : Nat → Nat) : Prop := HasF P (N 409) (C409 N)
def f409_l45 (a0 : TJson) (rc409 : TJson → Int → Option (Bool × Int)) : Nat → Int → Int → Option (LR2 Int Unit (Bool × Int))
  | 0, _, _ => none
  | k + 1, y45_1, y45_2 => cond (decide (y45_1 < ((a0.fL.length : Nat) : Int))) (gd (0 ≤ y45_1 ∧ y45_1 < ((a0.fL.length : Nat) : Int)) ((TJson.dec (rtE (rd a0.fL y45_1))).bind fun rx67 => (rc409 rx67 y45_2).bind fun r70 => cond (!r70.1) (some (.r (false, r70.2))) (f409_l45 a0 rc409 k (IntKind.i64.wrap (y45_1 + (1 : Int))) r70.2))) (some (.b0 y45_2))
def f409_s (rc409 : TJson → Int → Option (Bool × Int)) (k : Nat) (a0 : TJson) (a1 : Int) : Option (Bool × Int) := cond (decide ((IntKind.i64.wrap ((IntKind.i64.wrap ((IntKind.i64.wrap (a1 - (1 : Int))) - (IntKind.i64.wrap (Int.tdiv ((a0.fText.length : Nat) : Int) (50 : Int))))) - ((a0.fKeys.length : Nat) : Int))) < (0 : Int))) (some (false, (IntKind.i64.wrap ((IntKind.i64.wrap ((IntKind.i64.wrap (a1 - (1 : Int))) - (IntKind.i64.wrap (Int.tdiv ((a0.fText.length : Nat) : Int) (50 : Int))))) - ((a0.fKeys.length : Nat) : Int))))) ((f409_l45 a0 rc409 k (0 : Int) (IntKind.i64.wrap ((IntKind.i64.wrap ((IntKind.i64.wrap (a1 - (1 : Int))) - (IntKind.i64.wrap (Int.tdiv ((a0.fText.length : Nat) : Int) (50 : Int))))) - ((a0.fKeys.length : Nat) : Int)))).bind fun o45 => (match o45 with | .b0 x45_1 => some (true, x45_1) | .r x => some x | _ => none))
theorem F409_s {P : Program} {N : Nat → Nat} (hmix : P.follows .mixedOrders = true) (hc : HC409 P N) {rc409 : TJson → Int → Option (Bool × Int)} (hrc409 : RH409 P N rc409) {k : Nat} {a0 : TJson} {a1 : Int} {r : (Bool × Int)} (h : f409_s rc409 k a0 a1 = some r) :
    ACalls P (N 409) [(.d (TJson.enc a0)), (.ptr 0 0)] [(0, (.cells [(.d (.int .i64 a1))]))] (.d (.bool r.1)) [(0, (.cells [(.d (.int .i64 r.2))]))] := by
  refine acalls_canon (F := C409 N) hc 1 1 rfl ?_
  unfold f409_s at h
  dsimp only [C409, startL]
  refine AWc.seq (AWc.rE hmix [] ?_)
  refine AWc.seq (AWc.rE hmix [.sd (p := (50 : Int) ≠ 0) (by decide), .ln D.str a0.fKeys] ?_)
  refine AWc.seq (AWc.seq (AWc.rE hmix [] ?_))
  rcases cc h with ⟨c33, h⟩ | ⟨c33, h⟩
  · refine AWc.cT c33 ?_
    refine AWc.seq (AWc.rE hmix [] ?_)
    have hr := Option.some.inj h
    subst hr
    exact AWc.ret (canQ (N := 40) (k := 1) (l' := [(4, (.d (.bool false)))]) (H' := [(0, (.cells [(.d (.int .i64 (IntKind.i64.wrap ((IntKind.i64.wrap ((IntKind.i64.wrap (a1 - (1 : Int))) - (IntKind.i64.wrap (Int.tdiv ((a0.fText.length : Nat) : Int) (50 : Int))))) - ((a0.fKeys.length : Nat) : Int)))))]))]) rfl (inT [] []) (doneA (.inr rfl) rfl ⟨trivial, trivial⟩ (.refl _) (hasCons rfl hasNil)))
  · refine AWc.cF c33 ?_
    refine AWc.skip (AWc.seq (AWc.seq (AWc.rE hmix [] ?_)))
    obtain ⟨o45, h45, h⟩ := bind_some h
    refine AWc.block ?_
    refine AWc.loopK (N := 40) 2 (fun (x : (Int × Int)) => [(1, (.ptr 0 0)), (2, (.ptr 1 0)), (5, (.d (.int .i64 x.1)))]) (fun x => [(0, (.cells [(.d (.int .i64 x.2))])), (1, (.cells [(.d (.int .i64 a0.fKind)), (.d (.str a0.fText)), (.d (.sl (List.map (rtE (z := 4)) a0.fL))), (.d (.sl (List.map D.str a0.fKeys)))]))]) (fun k x => f409_l45 a0 rc409 k x.1 x.2 = some o45) k ((0 : Int), (IntKind.i64.wrap ((IntKind.i64.wrap ((IntKind.i64.wrap (a1 - (1 : Int))) - (IntKind.i64.wrap (Int.tdiv ((a0.fText.length : Nat) : Int) (50 : Int))))) - ((a0.fKeys.length : Nat) : Int)))) rfl_le (fun x hx => by cases hx) h45 (inT [] []) ?_
    clear h45
    intro k
    rintro ⟨y45_1, y45_2⟩ h45
    dsimp only at h45 ⊢
    rw [f409_l45] at h45
    refine AWc.seq (AWc.seq (AWc.rE hmix [.ln (rtE (z := 4)) a0.fL] ?_))
    rcases cc h45 with ⟨c56, h45⟩ | ⟨c56, h45⟩
    · refine AWc.cT c56 ?_
      refine AWc.skip (AWc.seq (AWc.block (AWc.seq ?_)))
      obtain ⟨b67, h45⟩ := gd_some h45
      obtain ⟨rx67, ex67, h45⟩ := bind_some h45
      obtain ⟨r70, e70, h45⟩ := bind_some h45
      refine AWc.rE hmix [.iadE (rtE (z := 4)) a0.fL 4 rtE_ok.len b67 (TJson.dec_eq ex67), .call (hrc409 _ _ _ e70) [] 1] ?_
      rcases cc h45 with ⟨c72, h45⟩ | ⟨c72, h45⟩
      · refine AWc.cT c72 ?_
        refine AWc.seq (AWc.rE hmix [] ?_)
        cases h45
        dsimp only at h
        have hr := Option.some.inj h
        subst hr
        exact AWc.ret (canQ (N := 40) (k := 1) (l' := [(4, (.d (.bool false)))]) (H' := [(0, (.cells [(.d (.int .i64 r70.2))]))]) rfl (inT [] []) (doneA (.inr rfl) rfl ⟨trivial, trivial⟩ (.refl _) (hasCons rfl hasNil)))
      · refine AWc.cF c72 ?_
        refine AWc.skip (AWc.rE hmix [] ?_)
        exact ⟨((IntKind.i64.wrap (y45_1 + (1 : Int))), r70.2), h45, (inT [] [])⟩
    · refine AWc.cF c56 ?_
      cases h45
      dsimp only at h
      refine AWc.exit ?_
      refine inBlk_eq ?_
      refine AWc.seq (AWc.rE hmix [] ?_)
      have hr := Option.some.inj h
      subst hr
      exact AWc.ret (canQ (N := 40) (k := 1) (l' := [(4, (.d (.bool true)))]) (H' := [(0, (.cells [(.d (.int .i64 y45_2))]))]) rfl (inT [] []) (doneA (.inr rfl) rfl ⟨trivial, trivial⟩ (.refl _) (hasCons rfl hasNil)))
def f409 : Nat → TJson → Int → Option (Bool × Int)
  | 0, _, _ => none
  | k + 1, a0, a1 => f409_s (f409 k) k a0 a1
theorem F409 {P : Program} {N : Nat → Nat} (hmix : P.follows .mixedOrders = true) (hc : HC409 P N) {k : Nat} {a0 : TJson} {a1 : Int} {r : (Bool × Int)} (h : f409 k a0 a1 = some r) :
    ACalls P (N 409) [(.d (TJson.enc a0)), (.ptr 0 0)] [(0, (.cells [(.d (.int .i64 a1))]))] (.d (.bool r.1)) [(0, (.cells [(.d (.int .i64 r.2))]))] := by
  induction k generalizing a0 a1 r with
  | zero => exact absurd (show (none : Option _) = some r from h) (fun h2 => by cases h2)
  | succ k ih => exact F409_s hmix hc (fun _ _ _ h => ih h) h
/-- courant/couranthelp.SmallJson -/
def C408 (N : Nat → Nat) : AFunc := { n := 9, params := 2, res := [.tmp 4], body :=
 (.seq (.region false [⟨some 2, .box (.t 0), none, []⟩,
 ⟨some 4, .mv (.k (.d (.bool false))), none, []⟩])
 (.seq (.region false [⟨some 6, .mv (.t 1), none, []⟩,
 ⟨some 5, .alloc [(.int .i64 0)], none, []⟩,
 ⟨none, .store (.t 5) (.t 6) 1, none, [1, 0]⟩])
 (.seq (.region false [⟨some 7, .load (.t 2) 4 true, none, []⟩,
 ⟨some 8, .call (.k (.d (.fn (N 409)))) [(.t 7), (.t 5)], none, [0]⟩,
 ⟨some 4, .mv (.t 8), none, [1, 0]⟩])
    .ret))) }
def HC408 (P : Program) (N : Nat → Nat) : Prop := HasF P (N 408) (C408 N) ∧ HC409 P N
def f408 (k : Nat) (a0 : TJson) (a1 : Int) : Option Bool := (f409 k (TJson.mk a0.fKind a0.fText a0.fL a0.fKeys) a1).bind fun r16 => some r16.1
theorem F408 {P : Program} {N : Nat → Nat} (hmix : P.follows .mixedOrders = true) (hc : HC408 P N) {k : Nat} {a0 : TJson} {a1 : Int} {r : Bool} (h : f408 k a0 a1 = some r) :
    ACalls P (N 408) [(.d (TJson.enc a0)), (.d (.int .i64 a1))] [] (.d (.bool r)) [] := by
  refine acalls_canon (F := C408 N) hc.1 0 0 rfl ?_
  unfold f408 at h
  dsimp only [C408, startL]
  refine AWc.seq (AWc.rE hmix [] ?_)
  refine AWc.seq (AWc.rE hmix [] ?_)
  refine AWc.seq ?_
  obtain ⟨r16, e16, h⟩ := bind_some h
  refine AWc.rE hmix [.call (F409 hmix hc.2 e16) [(0, 1)] 1] ?_
  have hr := Option.some.inj h
  subst hr
  exact AWc.ret (canQ (N := 9) (k := 0) (l' := [(4, (.d (.bool r16.1)))]) (H' := []) rfl (inT [] []) (doneA (.inr rfl) rfl ⟨trivial, trivial⟩ (.refl _) hasNil))
def RH397 (P : Program) (N : Nat → Nat) (rc397 : (List UInt8) → Int → Int → Option (Int × Int × (List UInt8) × (List (RT 4)) × (List (List UInt8)) × Int)) : Prop := ∀ (a0 : (List UInt8)) (a1 : Int) (a2 : Int) (r : (Int × Int × (List UInt8) × (List (RT 4)) × (List (List UInt8)) × Int)), rc397 a0 a1 a2 = some r → ACalls P (N 397) [(.ptr 0 0), (.d (.int .i64 a2))] [(0, (.cells [(.d (.str a0)), (.d (.int .i64 a1))]))] (.tup [(.d (.agg [(.int .i64 r.2.1), (.str r.2.2.1), (.sl (List.map (rtE (z := 4)) r.2.2.2.1)), (.sl (List.map D.str r.2.2.2.2.1))])), (.d (.int .i64 r.1))]) [(0, (.cells [(.d (.str a0)), (.d (.int .i64 r.2.2.2.2.2))]))]
/-- (*courant/json.parser).white -/
def C398 (N : Nat → Nat) : AFunc := { n := 33, params := 1, res := [], body :=
 (.scope (.seq (.label 0)
   (.block 0 (.loop (.seq (.seq (.region true [⟨some 2, .mv (.t 0), none, []⟩,
 ⟨some 3, .nilchk (.t 2), none, [0]⟩,
 ⟨some 4, .faddr (.t 3) 1, none, [1]⟩,
 ⟨some 5, .load (.t 4) 1 false, none, [2]⟩,
 ⟨some 6, .mv (.t 0), none, []⟩,
 ⟨some 7, .nilchk (.t 6), none, [4]⟩,
 ⟨some 8, .faddr (.t 7) 0, none, [5]⟩,
 ⟨some 9, .load (.t 8) 1 false, none, [6]⟩,
 ⟨some 10, .slen (.t 9), none, [7]⟩,
 ⟨some 11, .bin .lss (.t 5) (.t 10), none, [3, 8]⟩])
       (.cond (.t 11) (.skip)
        (.exit 0)))
 (.seq (.block 1 (.seq (.seq (.region true [⟨some 19, .mv (.t 0), none, []⟩,
 ⟨some 20, .nilchk (.t 19), none, [0]⟩,
 ⟨some 21, .faddr (.t 20) 0, none, [1]⟩,
 ⟨some 22, .load (.t 21) 1 false, none, [2]⟩,
 ⟨some 23, .mv (.t 0), none, []⟩,
 ⟨some 24, .nilchk (.t 23), none, [4]⟩,
 ⟨some 25, .faddr (.t 24) 1, none, [5]⟩,
 ⟨some 26, .load (.t 25) 1 false, none, [6]⟩,
 ⟨some 27, .idx (.t 22) (.t 26), none, [3, 7]⟩])
          (.block 2 (.seq (.seq (.region false [⟨some 29, .bin .eql (.t 27) (.k (.d (.int .u8 32))), none, []⟩,
 ⟨some 28, .mv (.t 29), none, [0]⟩])
             (.cond (.t 28) (.skip)
 (.seq (.region false [⟨some 30, .bin .eql (.t 27) (.k (.d (.int .u8 9))), none, []⟩,
 ⟨some 28, .mv (.t 30), none, [0]⟩])
               (.cond (.t 28) (.skip)
 (.seq (.region false [⟨some 31, .bin .eql (.t 27) (.k (.d (.int .u8 10))), none, []⟩,
 ⟨some 28, .mv (.t 31), none, [0]⟩])
                 (.cond (.t 28) (.skip)
                  (.region false [⟨some 32, .bin .eql (.t 27) (.k (.d (.int .u8 13))), none, []⟩,
 ⟨some 28, .mv (.t 32), none, [0]⟩])))))))
            (.cond (.t 28) (.exit 1)
             (.skip)))))
         (.exit 0)))
       (.region false [⟨some 12, .mv (.t 0), none, []⟩,
 ⟨some 13, .nilchk (.t 12), none, [0]⟩,
 ⟨some 14, .faddr (.t 13) 1, none, [1]⟩,
 ⟨some 15, .load (.t 14) 1 false, none, [2]⟩,
 ⟨some 16, .bin .add (.t 15) (.k (.d (.int .i64 1))), none, [3]⟩,
 ⟨some 17, .nilchk (.t 12), none, [0, 1, 2, 3, 4]⟩,
 ⟨some 18, .faddr (.t 17) 1, none, [5, 0, 1, 2, 3, 4]⟩,
 ⟨none, .store (.t 18) (.t 16) 1, none, [6, 4, 0, 1, 2, 3]⟩]))))))) }
def HC398 (P : Program) (N : Nat → Nat) : Prop := HasF P (N 398) (C398 N)
def f398_j69 (L : Int → Option (LR2 Int Unit Int)) (k : Nat) (y4_1 : Int) : Option (LR2 Int Unit Int) := L (IntKind.i64.wrap (y4_1 + (1 : Int)))
def f398_l4 (a0 : (List UInt8)) : Nat → Int → Option (LR2 Int Unit Int)
  | 0, _ => none
  | k + 1, y4_1 => cond (decide (y4_1 < ((a0.length : Nat) : Int))) (gd (0 ≤ y4_1 ∧ y4_1 < ((a0.length : Nat) : Int)) (cond (decide ((((a0.getD (y4_1).toNat 0).toNat : Nat) : Int) = (32 : Int))) (cond (decide ((((a0.getD (y4_1).toNat 0).toNat : Nat) : Int) = (32 : Int))) (f398_j69 (f398_l4 a0 k) k y4_1) (some (.b0 y4_1))) (cond (decide ((((a0.getD (y4_1).toNat 0).toNat : Nat) : Int) = (9 : Int))) (cond (decide ((((a0.getD (y4_1).toNat 0).toNat : Nat) : Int) = (9 : Int))) (f398_j69 (f398_l4 a0 k) k y4_1) (some (.b0 y4_1))) (cond (decide ((((a0.getD (y4_1).toNat 0).toNat : Nat) : Int) = (10 : Int))) (cond (decide ((((a0.getD (y4_1).toNat 0).toNat : Nat) : Int) = (10 : Int))) (f398_j69 (f398_l4 a0 k) k y4_1) (some (.b0 y4_1))) (cond (decide ((((a0.getD (y4_1).toNat 0).toNat : Nat) : Int) = (13 : Int))) (f398_j69 (f398_l4 a0 k) k y4_1) (some (.b0 y4_1))))))) (some (.b0 y4_1))
def f398 (k : Nat) (a0 : (List UInt8)) (a1 : Int) : Option Int := (f398_l4 a0 k a1).bind fun o4 => (match o4 with | .b0 x4_1 => some x4_1 | _ => none)
theorem F398 {P : Program} {N : Nat → Nat} (hmix : P.follows .mixedOrders = true) (hc : HC398 P N) {k : Nat} {a0 : (List UInt8)} {a1 : Int} {r : Int} (h : f398 k a0 a1 = some r) :
    ACalls P (N 398) [(.ptr 0 0)] [(0, (.cells [(.d (.str a0)), (.d (.int .i64 a1))]))] (.tup []) [(0, (.cells [(.d (.str a0)), (.d (.int .i64 r))]))] := by
  refine acalls_canon (F := C398 N) hc 1 1 rfl ?_
  unfold f398 at h
  dsimp only [C398, startL]
  refine AWc.scope ?_
  refine AWc.seq ?_
  refine AWc.label ?_
  obtain ⟨o4, h4, h⟩ := bind_some h
  refine AWc.block ?_
  refine AWc.loopK (N := 33) 1 (fun (x : Int) => [(0, (.ptr 0 0))]) (fun x => [(0, (.cells [(.d (.str a0)), (.d (.int .i64 x))]))]) (fun k x => f398_l4 a0 k x = some o4) k a1 rfl_le (fun x hx => by cases hx) h4 (inT [] []) ?_
  clear h4
  intro k
  intro y4_1 h4
  rw [f398_l4] at h4
  refine AWc.seq (AWc.seq (AWc.rE hmix [] ?_))
  rcases cc h4 with ⟨c20, h4⟩ | ⟨c20, h4⟩
  · refine AWc.cT c20 ?_
    refine AWc.skip ?_
    refine AWc.seqS (N := 33) 1 (fun (z : Unit) => [(0, (.ptr 0 0))]) (fun z => [(0, (.cells [(.d (.str a0)), (.d (.int .i64 y4_1))]))]) (fun z => f398_j69 (f398_l4 a0 k) k y4_1 = some o4) rfl_le ?_ ?_
    · refine AWc.block (AWc.seq (AWc.seq ?_))
      obtain ⟨b37, h4⟩ := gd_some h4
      refine AWc.rE hmix [.sd b37] ?_
      refine AWc.block (AWc.seq (AWc.seq (AWc.rE hmix [] ?_)))
      rcases cc h4 with ⟨c45, h4⟩ | ⟨c45, h4⟩
      · refine AWc.cT c45 ?_
        refine AWc.skip ?_
        rcases cc h4 with ⟨c65, h4⟩ | ⟨c65, h4⟩
        · refine AWc.cT c65 ?_
          refine AWc.exit ?_
          refine inBlk_ne rfl ?_
          refine inBlk_eq ?_
          exact ⟨(), h4, (inT [] [])⟩
        · refine AWc.cF c65 ?_
          refine AWc.skip ?_
          cases h4
          dsimp only at h
          refine AWc.exit ?_
          refine inBlk_ne rfl ?_
          refine inBlk_eq ?_
          have hr := Option.some.inj h
          subst hr
          exact canQ (N := 33) (k := 1) (l' := []) (H' := [(0, (.cells [(.d (.str a0)), (.d (.int .i64 y4_1))]))]) rfl (inT [] []) (doneA (.inl rfl) rfl trivial (.refl _) (hasCons rfl hasNil))
      · refine AWc.cF c45 ?_
        refine AWc.seq (AWc.rE hmix [] ?_)
        rcases cc h4 with ⟨c52, h4⟩ | ⟨c52, h4⟩
        · refine AWc.cT c52 ?_
          refine AWc.skip ?_
          rcases cc h4 with ⟨c65, h4⟩ | ⟨c65, h4⟩
          · refine AWc.cT c65 ?_
            refine AWc.exit ?_
            refine inBlk_ne rfl ?_
            refine inBlk_eq ?_
            exact ⟨(), h4, (inT [] [])⟩
          · refine AWc.cF c65 ?_
            refine AWc.skip ?_
            cases h4
            dsimp only at h
            refine AWc.exit ?_
            refine inBlk_ne rfl ?_
            refine inBlk_eq ?_
            have hr := Option.some.inj h
            subst hr
            exact canQ (N := 33) (k := 1) (l' := []) (H' := [(0, (.cells [(.d (.str a0)), (.d (.int .i64 y4_1))]))]) rfl (inT [] []) (doneA (.inl rfl) rfl trivial (.refl _) (hasCons rfl hasNil))
        · refine AWc.cF c52 ?_
          refine AWc.seq (AWc.rE hmix [] ?_)
          rcases cc h4 with ⟨c59, h4⟩ | ⟨c59, h4⟩
          · refine AWc.cT c59 ?_
            refine AWc.skip ?_
            rcases cc h4 with ⟨c65, h4⟩ | ⟨c65, h4⟩
            · refine AWc.cT c65 ?_
              refine AWc.exit ?_
              refine inBlk_ne rfl ?_
              refine inBlk_eq ?_
              exact ⟨(), h4, (inT [] [])⟩
            · refine AWc.cF c65 ?_
              refine AWc.skip ?_
              cases h4
              dsimp only at h
              refine AWc.exit ?_
              refine inBlk_ne rfl ?_
              refine inBlk_eq ?_
              have hr := Option.some.inj h
              subst hr
              exact canQ (N := 33) (k := 1) (l' := []) (H' := [(0, (.cells [(.d (.str a0)), (.d (.int .i64 y4_1))]))]) rfl (inT [] []) (doneA (.inl rfl) rfl trivial (.refl _) (hasCons rfl hasNil))
          · refine AWc.cF c59 ?_
            refine AWc.rE hmix [] ?_
            rcases cc h4 with ⟨c65, h4⟩ | ⟨c65, h4⟩
            · refine AWc.cT c65 ?_
              refine AWc.exit ?_
              refine inBlk_ne rfl ?_
              refine inBlk_eq ?_
              exact ⟨(), h4, (inT [] [])⟩
            · refine AWc.cF c65 ?_
              refine AWc.skip ?_
              cases h4
              dsimp only at h
              refine AWc.exit ?_
              refine inBlk_ne rfl ?_
              refine inBlk_eq ?_
              have hr := Option.some.inj h
              subst hr
              exact canQ (N := 33) (k := 1) (l' := []) (H' := [(0, (.cells [(.d (.str a0)), (.d (.int .i64 y4_1))]))]) rfl (inT [] []) (doneA (.inl rfl) rfl trivial (.refl _) (hasCons rfl hasNil))
    · rintro ⟨⟩ h4
      unfold f398_j69 at h4
      refine AWc.rE hmix [] ?_
      exact ⟨(IntKind.i64.wrap (y4_1 + (1 : Int))), h4, (inT [] [])⟩
  · refine AWc.cF c20 ?_
    cases h4
    dsimp only at h
    refine AWc.exit ?_
    refine inBlk_eq ?_
    have hr := Option.some.inj h
    subst hr
    exact canQ (N := 33) (k := 1) (l' := []) (H' := [(0, (.cells [(.d (.str a0)), (.d (.int .i64 y4_1))]))]) rfl (inT [] []) (doneA (.inl rfl) rfl trivial (.refl _) (hasCons rfl hasNil))
/-- (*courant/json.parser).word -/
def C399 (N : Nat → Nat) : AFunc := { n := 53, params := 3, res := [.cell 6 4 true, .tmp 7], body :=
 (.seq (.region false [⟨some 6, .alloc [(.int .i64 0), (.str []), (.sl []), (.sl [])], none, []⟩,
 ⟨some 7, .mv (.k (.d (.int .i64 0))), none, []⟩])
 (.seq (.seq (.region true [⟨some 8, .mv (.t 0), none, []⟩,
 ⟨some 9, .nilchk (.t 8), none, [0]⟩,
 ⟨some 10, .faddr (.t 9) 0, none, [1]⟩,
 ⟨some 11, .load (.t 10) 1 false, none, [2]⟩,
 ⟨some 12, .slen (.t 11), none, [3]⟩,
 ⟨some 13, .mv (.t 0), none, []⟩,
 ⟨some 14, .nilchk (.t 13), none, [5]⟩,
 ⟨some 15, .faddr (.t 14) 1, none, [6]⟩,
 ⟨some 16, .load (.t 15) 1 false, none, [7]⟩,
 ⟨some 17, .bin .sub (.t 12) (.t 16), none, [4, 8]⟩,
 ⟨some 18, .mv (.t 1), none, []⟩,
 ⟨some 19, .slen (.t 18), none, [10]⟩,
 ⟨some 20, .bin .lss (.t 17) (.t 19), none, [9, 11]⟩,
 ⟨some 21, .mv (.t 20), none, [12]⟩,
 ⟨some 22, .mv (.t 0), some (21, false), [13]⟩,
 ⟨some 23, .nilchk (.t 22), some (21, false), [14, 13]⟩,
 ⟨some 24, .faddr (.t 23) 0, some (21, false), [15, 13]⟩,
 ⟨some 25, .load (.t 24) 1 false, some (21, false), [16, 13]⟩,
 ⟨some 26, .mv (.t 0), some (21, false), [13]⟩,
 ⟨some 27, .nilchk (.t 26), some (21, false), [18, 13]⟩,
 ⟨some 28, .faddr (.t 27) 1, some (21, false), [19, 13]⟩,
 ⟨some 29, .load (.t 28) 1 false, some (21, false), [20, 13]⟩,
 ⟨some 30, .mv (.t 0), some (21, false), [13]⟩,
 ⟨some 31, .nilchk (.t 30), some (21, false), [22, 13]⟩,
 ⟨some 32, .faddr (.t 31) 1, some (21, false), [23, 13]⟩,
 ⟨some 33, .load (.t 32) 1 false, some (21, false), [24, 13]⟩,
 ⟨some 34, .mv (.t 1), some (21, false), [13]⟩,
 ⟨some 35, .slen (.t 34), some (21, false), [26, 13]⟩,
 ⟨some 36, .bin .add (.t 33) (.t 35), some (21, false), [25, 27, 13]⟩,
 ⟨some 37, .ssl (.t 25) (some (.t 29)) (some (.t 36)), some (21, false), [17, 21, 28, 13]⟩,
 ⟨some 38, .mv (.t 1), some (21, false), [13]⟩,
 ⟨some 39, .bin .neq (.t 37) (.t 38), some (21, false), [29, 30, 13]⟩,
 ⟨some 40, .pick (.t 21) (.k (.d (.bool true))) (.t 39), none, [13, 31]⟩])
    (.cond (.t 40) (.seq (.region false [⟨some 41, .build [(.int .i64 0), (.str []), (.sl []), (.sl [])] [], none, []⟩,
 ⟨none, .store (.t 6) (.t 41) 4, none, [0]⟩,
 ⟨some 7, .mv (.k (.d (.int .i64 4))), none, [1, 0]⟩])
      .ret)
     (.skip)))
 (.seq (.region false [⟨some 42, .mv (.t 0), none, []⟩,
 ⟨some 43, .nilchk (.t 42), none, [0]⟩,
 ⟨some 44, .faddr (.t 43) 1, none, [1]⟩,
 ⟨some 45, .load (.t 44) 1 false, none, [2]⟩,
 ⟨some 46, .mv (.t 1), none, []⟩,
 ⟨some 47, .slen (.t 46), none, [4]⟩,
 ⟨some 48, .bin .add (.t 45) (.t 47), none, [3, 5]⟩,
 ⟨some 49, .nilchk (.t 42), none, [0, 1, 2, 3, 4, 5, 6]⟩,
 ⟨some 50, .faddr (.t 49) 1, none, [7, 0, 1, 2, 3, 4, 5, 6]⟩,
 ⟨none, .store (.t 50) (.t 48) 1, none, [8, 6, 0, 1, 2, 3, 4, 5]⟩])
 (.seq (.region false [⟨some 51, .mv (.t 2), none, []⟩,
 ⟨some 52, .build [(.int .i64 0), (.str []), (.sl []), (.sl [])] [(0, 1, (.t 51))], none, [0]⟩,
 ⟨none, .store (.t 6) (.t 52) 4, none, [1, 0]⟩,
 ⟨some 7, .mv (.k (.d (.int .i64 0))), none, [2, 0, 1]⟩])
     .ret)))) }
def HC399 (P : Program) (N : Nat → Nat) : Prop := HasF P (N 399) (C399 N)
def f399_j43 (k : Nat) (a1 : Int) (a3 : Int) (a2 : (List UInt8)) (j43_1 : Bool) : Option (Int × Int × Int) := cond j43_1 (some ((4 : Int), (0 : Int), a1)) (some ((0 : Int), a3, (IntKind.i64.wrap (a1 + ((a2.length : Nat) : Int)))))
def f399 (k : Nat) (a0 : (List UInt8)) (a1 : Int) (a2 : (List UInt8)) (a3 : Int) : Option (Int × Int × Int) := cond (decide ((IntKind.i64.wrap (((a0.length : Nat) : Int) - a1)) < ((a2.length : Nat) : Int))) (f399_j43 k a1 a3 a2 true) (gd (0 ≤ a1 ∧ a1 ≤ (IntKind.i64.wrap (a1 + ((a2.length : Nat) : Int))) ∧ (IntKind.i64.wrap (a1 + ((a2.length : Nat) : Int))) ≤ ((a0.length : Nat) : Int)) (f399_j43 k a1 a3 a2 (decide ((sl a0 a1 (IntKind.i64.wrap (a1 + ((a2.length : Nat) : Int)))) ≠ a2))))
theorem F399 {P : Program} {N : Nat → Nat} (hmix : P.follows .mixedOrders = true) (hc : HC399 P N) {k : Nat} {a0 : (List UInt8)} {a1 : Int} {a2 : (List UInt8)} {a3 : Int} {r : (Int × Int × Int)} (h : f399 k a0 a1 a2 a3 = some r) :
    ACalls P (N 399) [(.ptr 0 0), (.d (.str a2)), (.d (.int .i64 a3))] [(0, (.cells [(.d (.str a0)), (.d (.int .i64 a1))]))] (.tup [(.d (.agg [(.int .i64 r.2.1), (.str ([] : List UInt8)), (.sl (List.map (rtE (z := 4)) ([] : List (RT 4)))), (.sl (List.map D.str ([] : List (List UInt8))))])), (.d (.int .i64 r.1))]) [(0, (.cells [(.d (.str a0)), (.d (.int .i64 r.2.2))]))] := by
  refine acalls_canon (F := C399 N) hc 1 1 rfl ?_
  unfold f399 at h
  dsimp only [C399, startL]
  refine AWc.seq (AWc.rE hmix [] ?_)
  refine AWc.seq ?_
  refine AWc.seqS (N := 53) 2 (fun (z : Bool) => [(0, (.ptr 0 0)), (1, (.d (.str a2))), (2, (.d (.int .i64 a3))), (6, (.ptr 1 0)), (40, (.d (.bool z)))]) (fun z => [(0, (.cells [(.d (.str a0)), (.d (.int .i64 a1))])), (1, (.cells [(.d (.int .i64 (0 : Int))), (.d (.str ([] : List UInt8))), .nils, .nils]))]) (fun z => f399_j43 k a1 a3 a2 z = some r) rfl_le ?_ ?_
  · rcases cc h with ⟨c23, h⟩ | ⟨c23, h⟩
    · refine AWc.rE hmix [.br c23] ?_
      exact ⟨true, h, (inT [] [])⟩
    · obtain ⟨b39, h⟩ := gd_some h
      refine AWc.rE hmix [.br c23, .sd b39] ?_
      exact ⟨(decide ((sl a0 a1 (IntKind.i64.wrap (a1 + ((a2.length : Nat) : Int)))) ≠ a2)), h, (inT [] [])⟩
  · intro j43_1 h
    unfold f399_j43 at h
    rcases cc h with ⟨c43, h⟩ | ⟨c43, h⟩
    · refine AWc.cT c43 ?_
      refine AWc.seq (AWc.rE hmix [] ?_)
      have hr := Option.some.inj h
      subst hr
      exact AWc.ret (canQ (N := 53) (k := 2) (l' := [(6, (.ptr 1 0)), (7, (.d (.int .i64 (4 : Int))))]) (H' := [(1, (.cells [(.d (.int .i64 (0 : Int))), (.d (.str ([] : List UInt8))), (.d (.sl (List.map (rtE (z := 4)) ([] : List (RT 4))))), (.d (.sl (List.map D.str ([] : List (List UInt8)))))])), (0, (.cells [(.d (.str a0)), (.d (.int .i64 a1))]))]) rfl (inT [] []) (doneA (.inr rfl) rfl ⟨(Nat.le_of_ble_eq_true rfl), ⟨trivial, trivial⟩⟩ (.refl _) (hasCons rfl hasNil)))
    · refine AWc.cF c43 ?_
      refine AWc.skip (AWc.seq (AWc.rE hmix [] ?_))
      refine AWc.seq (AWc.rE hmix [] ?_)
      have hr := Option.some.inj h
      subst hr
      exact AWc.ret (canQ (N := 53) (k := 2) (l' := [(6, (.ptr 1 0)), (7, (.d (.int .i64 (0 : Int))))]) (H' := [(1, (.cells [(.d (.int .i64 a3)), (.d (.str ([] : List UInt8))), (.d (.sl (List.map (rtE (z := 4)) ([] : List (RT 4))))), (.d (.sl (List.map D.str ([] : List (List UInt8)))))])), (0, (.cells [(.d (.str a0)), (.d (.int .i64 (IntKind.i64.wrap (a1 + ((a2.length : Nat) : Int)))))]))]) rfl (inT [] []) (doneA (.inr rfl) rfl ⟨(Nat.le_of_ble_eq_true rfl), ⟨trivial, trivial⟩⟩ (.refl _) (hasCons rfl hasNil)))
/-- (*courant/json.parser).is -/
def C401 (N : Nat → Nat) : AFunc := { n := 35, params := 2, res := [.tmp 4], body :=
 (.seq (.region false [⟨some 4, .mv (.k (.d (.bool false))), none, []⟩])
 (.seq (.seq (.region true [⟨some 5, .mv (.t 0), none, []⟩,
 ⟨some 6, .nilchk (.t 5), none, [0]⟩,
 ⟨some 7, .faddr (.t 6) 1, none, [1]⟩,
 ⟨some 8, .load (.t 7) 1 false, none, [2]⟩,
 ⟨some 9, .mv (.t 0), none, []⟩,
 ⟨some 10, .nilchk (.t 9), none, [4]⟩,
 ⟨some 11, .faddr (.t 10) 0, none, [5]⟩,
 ⟨some 12, .load (.t 11) 1 false, none, [6]⟩,
 ⟨some 13, .slen (.t 12), none, [7]⟩,
 ⟨some 14, .bin .lss (.t 8) (.t 13), none, [3, 8]⟩,
 ⟨some 15, .mv (.t 14), none, [9]⟩,
 ⟨some 16, .mv (.t 0), some (15, true), [10]⟩,
 ⟨some 17, .nilchk (.t 16), some (15, true), [11, 10]⟩,
 ⟨some 18, .faddr (.t 17) 0, some (15, true), [12, 10]⟩,
 ⟨some 19, .load (.t 18) 1 false, some (15, true), [13, 10]⟩,
 ⟨some 20, .mv (.t 0), some (15, true), [10]⟩,
 ⟨some 21, .nilchk (.t 20), some (15, true), [15, 10]⟩,
 ⟨some 22, .faddr (.t 21) 1, some (15, true), [16, 10]⟩,
 ⟨some 23, .load (.t 22) 1 false, some (15, true), [17, 10]⟩,
 ⟨some 24, .idx (.t 19) (.t 23), some (15, true), [14, 18, 10]⟩,
 ⟨some 25, .mv (.t 1), some (15, true), [10]⟩,
 ⟨some 26, .bin .eql (.t 24) (.t 25), some (15, true), [19, 20, 10]⟩,
 ⟨some 27, .pick (.t 15) (.t 26) (.k (.d (.bool false))), none, [10, 21]⟩])
    (.cond (.t 27) (.seq (.region false [⟨some 28, .mv (.t 0), none, []⟩,
 ⟨some 29, .nilchk (.t 28), none, [0]⟩,
 ⟨some 30, .faddr (.t 29) 1, none, [1]⟩,
 ⟨some 31, .load (.t 30) 1 false, none, [2]⟩,
 ⟨some 32, .bin .add (.t 31) (.k (.d (.int .i64 1))), none, [3]⟩,
 ⟨some 33, .nilchk (.t 28), none, [0, 1, 2, 3, 4]⟩,
 ⟨some 34, .faddr (.t 33) 1, none, [5, 0, 1, 2, 3, 4]⟩,
 ⟨none, .store (.t 34) (.t 32) 1, none, [6, 4, 0, 1, 2, 3]⟩])
 (.seq (.region false [⟨some 4, .mv (.k (.d (.bool true))), none, []⟩])
       .ret))
     (.skip)))
 (.seq (.region false [⟨some 4, .mv (.k (.d (.bool false))), none, []⟩])
    .ret))) }
def HC401 (P : Program) (N : Nat → Nat) : Prop := HasF P (N 401) (C401 N)
def f401_j32 (k : Nat) (a1 : Int) (j32_1 : Bool) : Option (Bool × Int) := cond j32_1 (some (true, (IntKind.i64.wrap (a1 + (1 : Int))))) (some (false, a1))
def f401 (k : Nat) (a0 : (List UInt8)) (a1 : Int) (a2 : UInt8) : Option (Bool × Int) := cond (decide (a1 < ((a0.length : Nat) : Int))) (gd (0 ≤ a1 ∧ a1 < ((a0.length : Nat) : Int)) (f401_j32 k a1 (decide ((((a0.getD (a1).toNat 0).toNat : Nat) : Int) = ((a2.toNat : Nat) : Int))))) (f401_j32 k a1 false)
theorem F401 {P : Program} {N : Nat → Nat} (hmix : P.follows .mixedOrders = true) (hc : HC401 P N) {k : Nat} {a0 : (List UInt8)} {a1 : Int} {a2 : UInt8} {r : (Bool × Int)} (h : f401 k a0 a1 a2 = some r) :
    ACalls P (N 401) [(.ptr 0 0), (.d (.int .u8 ((a2.toNat : Nat) : Int)))] [(0, (.cells [(.d (.str a0)), (.d (.int .i64 a1))]))] (.d (.bool r.1)) [(0, (.cells [(.d (.str a0)), (.d (.int .i64 r.2))]))] := by
  refine acalls_canon (F := C401 N) hc 1 1 rfl ?_
  unfold f401 at h
  dsimp only [C401, startL]
  refine AWc.seq (AWc.rE hmix [] ?_)
  refine AWc.seq ?_
  refine AWc.seqS (N := 35) 1 (fun (z : Bool) => [(0, (.ptr 0 0)), (27, (.d (.bool z)))]) (fun z => [(0, (.cells [(.d (.str a0)), (.d (.int .i64 a1))]))]) (fun z => f401_j32 k a1 z = some r) rfl_le ?_ ?_
  · rcases cc h with ⟨c19, h⟩ | ⟨c19, h⟩
    · obtain ⟨b28, h⟩ := gd_some h
      refine AWc.rE hmix [.br c19, .sd b28] ?_
      exact ⟨(decide ((((a0.getD (a1).toNat 0).toNat : Nat) : Int) = ((a2.toNat : Nat) : Int))), h, (inT [] [])⟩
    · refine AWc.rE hmix [.br c19] ?_
      exact ⟨false, h, (inT [] [])⟩
  · intro j32_1 h
    unfold f401_j32 at h
    rcases cc h with ⟨c32, h⟩ | ⟨c32, h⟩
    · refine AWc.cT c32 ?_
      refine AWc.seq (AWc.rE hmix [] ?_)
      refine AWc.seq (AWc.rE hmix [] ?_)
      have hr := Option.some.inj h
      subst hr
      exact AWc.ret (canQ (N := 35) (k := 1) (l' := [(4, (.d (.bool true)))]) (H' := [(0, (.cells [(.d (.str a0)), (.d (.int .i64 (IntKind.i64.wrap (a1 + (1 : Int)))))]))]) rfl (inT [] []) (doneA (.inr rfl) rfl ⟨trivial, trivial⟩ (.refl _) (hasCons rfl hasNil)))
    · refine AWc.cF c32 ?_
      refine AWc.skip (AWc.seq (AWc.rE hmix [] ?_))
      have hr := Option.some.inj h
      subst hr
      exact AWc.ret (canQ (N := 35) (k := 1) (l' := [(4, (.d (.bool false)))]) (H' := [(0, (.cells [(.d (.str a0)), (.d (.int .i64 a1))]))]) rfl (inT [] []) (doneA (.inr rfl) rfl ⟨trivial, trivial⟩ (.refl _) (hasCons rfl hasNil)))
def HC336 (P : Program) (N : Nat → Nat) : Prop := DecB P (N 336)
def f336 (k : Nat) (a0 : List UInt8) : Option (Int × Int) := some (u8I a0)
theorem F336 {P : Program} {N : Nat → Nat} (hmix : P.follows .mixedOrders = true) (hc : HC336 P N) {k : Nat} {a0 : List UInt8} {r : Int × Int} (h : f336 k a0 = some r) :
    ACalls P (N 336) [(.d (.str a0))] [] (.tup [(.d (.int .i32 r.1)), (.d (.int .i64 r.2))]) [] := by
  cases h
  exact decB_calls hc a0
/-- (*courant/json.parser).four -/
def C420 (N : Nat → Nat) : AFunc := { n := 78, params := 1, res := [.tmp 2, .tmp 3], body :=
 (.seq (.region false [⟨some 2, .mv (.k (.d (.int .i32 0))), none, []⟩,
 ⟨some 3, .mv (.k (.d (.bool false))), none, [0]⟩])
 (.seq (.seq (.region true [⟨some 6, .mv (.t 0), none, []⟩,
 ⟨some 7, .nilchk (.t 6), none, [0]⟩,
 ⟨some 8, .faddr (.t 7) 0, none, [1]⟩,
 ⟨some 9, .load (.t 8) 1 false, none, [2]⟩,
 ⟨some 10, .slen (.t 9), none, [3]⟩,
 ⟨some 11, .mv (.t 0), none, []⟩,
 ⟨some 12, .nilchk (.t 11), none, [5]⟩,
 ⟨some 13, .faddr (.t 12) 1, none, [6]⟩,
 ⟨some 14, .load (.t 13) 1 false, none, [7]⟩,
 ⟨some 15, .bin .sub (.t 10) (.t 14), none, [4, 8]⟩,
 ⟨some 16, .bin .lss (.t 15) (.k (.d (.int .i64 4))), none, [9]⟩])
    (.cond (.t 16) (.seq (.region false [⟨some 2, .mv (.k (.d (.int .i32 0))), none, []⟩,
 ⟨some 3, .mv (.k (.d (.bool false))), none, [0]⟩])
      .ret)
     (.skip)))
 (.seq (.region false [⟨some 4, .mv (.k (.d (.int .i32 0))), none, []⟩])
 (.seq (.seq (.region false [⟨some 17, .mv (.k (.d (.int .i64 0))), none, []⟩])
      (.block 0 (.loop (.seq (.region false [⟨some 18, .bin .lss (.t 17) (.k (.d (.int .i64 4))), none, []⟩])
 (.seq (.cond (.t 18) (.skip)
           (.exit 0))
 (.seq (.block 1 (.seq (.region true [⟨some 19, .mv (.t 0), none, []⟩,
 ⟨some 20, .nilchk (.t 19), none, [0]⟩,
 ⟨some 21, .faddr (.t 20) 0, none, [1]⟩,
 ⟨some 22, .load (.t 21) 1 false, none, [2]⟩,
 ⟨some 23, .mv (.t 0), none, []⟩,
 ⟨some 24, .nilchk (.t 23), none, [4]⟩,
 ⟨some 25, .faddr (.t 24) 1, none, [5]⟩,
 ⟨some 26, .load (.t 25) 1 false, none, [6]⟩,
 ⟨some 27, .idx (.t 22) (.t 26), none, [3, 7]⟩,
 ⟨some 5, .mv (.t 27), none, [8, 0, 1, 2, 3, 4, 5, 6, 7]⟩])
 (.seq (.region false [⟨some 28, .mv (.t 0), none, []⟩,
 ⟨some 29, .nilchk (.t 28), none, [0]⟩,
 ⟨some 30, .faddr (.t 29) 1, none, [1]⟩,
 ⟨some 31, .load (.t 30) 1 false, none, [2]⟩,
 ⟨some 32, .bin .add (.t 31) (.k (.d (.int .i64 1))), none, [3]⟩,
 ⟨some 33, .nilchk (.t 28), none, [0, 1, 2, 3, 4]⟩,
 ⟨some 34, .faddr (.t 33) 1, none, [5, 0, 1, 2, 3, 4]⟩,
 ⟨none, .store (.t 34) (.t 32) 1, none, [6, 4, 0, 1, 2, 3]⟩])
              (.block 2 (.seq (.region false [⟨some 36, .mv (.t 5), none, []⟩,
 ⟨some 37, .bin .geq (.t 36) (.k (.d (.int .u8 48))), none, [0]⟩,
 ⟨some 38, .mv (.t 37), none, [1]⟩,
 ⟨some 39, .mv (.t 5), some (38, true), [2]⟩,
 ⟨some 40, .bin .leq (.t 39) (.k (.d (.int .u8 57))), some (38, true), [3, 2]⟩,
 ⟨some 41, .pick (.t 38) (.t 40) (.k (.d (.bool false))), none, [2, 4]⟩,
 ⟨some 35, .mv (.t 41), none, [5, 2]⟩])
                (.cond (.t 35) (.region false [⟨some 42, .mv (.t 4), none, []⟩,
 ⟨some 43, .bin .shl (.t 42) (.k (.d (.int .u64 4))), none, [0]⟩,
 ⟨some 44, .mv (.t 5), none, []⟩,
 ⟨some 45, .bin .sub (.t 44) (.k (.d (.int .u8 48))), none, [2]⟩,
 ⟨some 46, .cvi .i32 (.t 45), none, [3]⟩,
 ⟨some 47, .bin .or (.t 43) (.t 46), none, [1, 4]⟩,
 ⟨some 4, .mv (.t 47), none, [5, 0, 1, 2, 3, 4]⟩])
 (.seq (.region false [⟨some 49, .mv (.t 5), none, []⟩,
 ⟨some 50, .bin .geq (.t 49) (.k (.d (.int .u8 97))), none, [0]⟩,
 ⟨some 51, .mv (.t 50), none, [1]⟩,
 ⟨some 52, .mv (.t 5), some (51, true), [2]⟩,
 ⟨some 53, .bin .leq (.t 52) (.k (.d (.int .u8 102))), some (51, true), [3, 2]⟩,
 ⟨some 54, .pick (.t 51) (.t 53) (.k (.d (.bool false))), none, [2, 4]⟩,
 ⟨some 48, .mv (.t 54), none, [5, 2]⟩])
                  (.cond (.t 48) (.region false [⟨some 55, .mv (.t 4), none, []⟩,
 ⟨some 56, .bin .shl (.t 55) (.k (.d (.int .u64 4))), none, [0]⟩,
 ⟨some 57, .mv (.t 5), none, []⟩,
 ⟨some 58, .bin .sub (.t 57) (.k (.d (.int .u8 97))), none, [2]⟩,
 ⟨some 59, .bin .add (.t 58) (.k (.d (.int .u8 10))), none, [3]⟩,
 ⟨some 60, .cvi .i32 (.t 59), none, [4]⟩,
 ⟨some 61, .bin .or (.t 56) (.t 60), none, [1, 5]⟩,
 ⟨some 4, .mv (.t 61), none, [6, 0, 1, 2, 3, 4, 5]⟩])
 (.seq (.region false [⟨some 63, .mv (.t 5), none, []⟩,
 ⟨some 64, .bin .geq (.t 63) (.k (.d (.int .u8 65))), none, [0]⟩,
 ⟨some 65, .mv (.t 64), none, [1]⟩,
 ⟨some 66, .mv (.t 5), some (65, true), [2]⟩,
 ⟨some 67, .bin .leq (.t 66) (.k (.d (.int .u8 70))), some (65, true), [3, 2]⟩,
 ⟨some 68, .pick (.t 65) (.t 67) (.k (.d (.bool false))), none, [2, 4]⟩,
 ⟨some 62, .mv (.t 68), none, [5, 2]⟩])
                    (.cond (.t 62) (.region false [⟨some 69, .mv (.t 4), none, []⟩,
 ⟨some 70, .bin .shl (.t 69) (.k (.d (.int .u64 4))), none, [0]⟩,
 ⟨some 71, .mv (.t 5), none, []⟩,
 ⟨some 72, .bin .sub (.t 71) (.k (.d (.int .u8 65))), none, [2]⟩,
 ⟨some 73, .bin .add (.t 72) (.k (.d (.int .u8 10))), none, [3]⟩,
 ⟨some 74, .cvi .i32 (.t 73), none, [4]⟩,
 ⟨some 75, .bin .or (.t 70) (.t 74), none, [1, 5]⟩,
 ⟨some 4, .mv (.t 75), none, [6, 0, 1, 2, 3, 4, 5]⟩])
 (.seq (.region false [⟨some 2, .mv (.k (.d (.int .i32 0))), none, []⟩,
 ⟨some 3, .mv (.k (.d (.bool false))), none, [0]⟩])
                      .ret)))))))))))
           (.region false [⟨some 76, .bin .add (.t 17) (.k (.d (.int .i64 1))), none, []⟩,
 ⟨some 17, .mv (.t 76), none, [0]⟩])))))))
 (.seq (.region false [⟨some 77, .mv (.t 4), none, []⟩,
 ⟨some 2, .mv (.t 77), none, [0]⟩,
 ⟨some 3, .mv (.k (.d (.bool true))), none, [1, 0]⟩])
      .ret))))) }
def HC420 (P : Program) (N : Nat → Nat) : Prop := HasF P (N 420) (C420 N)
def f420_j147 (k : Nat) (j147_1 : Int) (j147_2 : Int) : Option (Int × Bool × Int) := some (j147_1, true, j147_2)
def f420_j126 (L : Int → Int → Int → Option (LR2 (Int × Int) Unit (Int × Bool × Int))) (k : Nat) (y38_1 : Int) (a0 : (List UInt8)) (y38_3 : Int) (y38_2 : Int) (j126_1 : Bool) : Option (LR2 (Int × Int) Unit (Int × Bool × Int)) := cond j126_1 (L (bitsA .or .i32 (IntKind.i32.wrap (y38_1 * 2 ^ (min ((4 : Int)).toNat IntKind.i32.bits))) (IntKind.i32.wrap (((u8 (IntKind.u8.wrap ((((u8 (IntKind.u8.wrap ((((a0.getD (y38_3).toNat 0).toNat : Nat) : Int) - (65 : Int)))).toNat : Nat) : Int) + (10 : Int)))).toNat : Nat) : Int))) (IntKind.i64.wrap (y38_2 + (1 : Int))) (IntKind.i64.wrap (y38_3 + (1 : Int)))) (some (.r ((0 : Int), false, (IntKind.i64.wrap (y38_3 + (1 : Int))))))
def f420_j105 (L : Int → Int → Int → Option (LR2 (Int × Int) Unit (Int × Bool × Int))) (k : Nat) (y38_1 : Int) (a0 : (List UInt8)) (y38_3 : Int) (y38_2 : Int) (j105_1 : Bool) : Option (LR2 (Int × Int) Unit (Int × Bool × Int)) := cond j105_1 (L (bitsA .or .i32 (IntKind.i32.wrap (y38_1 * 2 ^ (min ((4 : Int)).toNat IntKind.i32.bits))) (IntKind.i32.wrap (((u8 (IntKind.u8.wrap ((((u8 (IntKind.u8.wrap ((((a0.getD (y38_3).toNat 0).toNat : Nat) : Int) - (97 : Int)))).toNat : Nat) : Int) + (10 : Int)))).toNat : Nat) : Int))) (IntKind.i64.wrap (y38_2 + (1 : Int))) (IntKind.i64.wrap (y38_3 + (1 : Int)))) (cond (decide ((((a0.getD (y38_3).toNat 0).toNat : Nat) : Int) ≥ (65 : Int))) (f420_j126 (L) k y38_1 a0 y38_3 y38_2 (decide ((((a0.getD (y38_3).toNat 0).toNat : Nat) : Int) ≤ (70 : Int)))) (f420_j126 (L) k y38_1 a0 y38_3 y38_2 false))
def f420_j85 (L : Int → Int → Int → Option (LR2 (Int × Int) Unit (Int × Bool × Int))) (k : Nat) (y38_1 : Int) (a0 : (List UInt8)) (y38_3 : Int) (y38_2 : Int) (j85_1 : Bool) : Option (LR2 (Int × Int) Unit (Int × Bool × Int)) := cond j85_1 (L (bitsA .or .i32 (IntKind.i32.wrap (y38_1 * 2 ^ (min ((4 : Int)).toNat IntKind.i32.bits))) (IntKind.i32.wrap (((u8 (IntKind.u8.wrap ((((a0.getD (y38_3).toNat 0).toNat : Nat) : Int) - (48 : Int)))).toNat : Nat) : Int))) (IntKind.i64.wrap (y38_2 + (1 : Int))) (IntKind.i64.wrap (y38_3 + (1 : Int)))) (cond (decide ((((a0.getD (y38_3).toNat 0).toNat : Nat) : Int) ≥ (97 : Int))) (f420_j105 (L) k y38_1 a0 y38_3 y38_2 (decide ((((a0.getD (y38_3).toNat 0).toNat : Nat) : Int) ≤ (102 : Int)))) (f420_j105 (L) k y38_1 a0 y38_3 y38_2 false))
def f420_l38 (a0 : (List UInt8)) : Nat → Int → Int → Int → Option (LR2 (Int × Int) Unit (Int × Bool × Int))
  | 0, _, _, _ => none
  | k + 1, y38_1, y38_2, y38_3 => cond (decide (y38_2 < (4 : Int))) (gd (0 ≤ y38_3 ∧ y38_3 < ((a0.length : Nat) : Int)) (cond (decide ((((a0.getD (y38_3).toNat 0).toNat : Nat) : Int) ≥ (48 : Int))) (f420_j85 (f420_l38 a0 k) k y38_1 a0 y38_3 y38_2 (decide ((((a0.getD (y38_3).toNat 0).toNat : Nat) : Int) ≤ (57 : Int)))) (f420_j85 (f420_l38 a0 k) k y38_1 a0 y38_3 y38_2 false))) (some (.b0 (y38_1, y38_3)))
def f420 (k : Nat) (a0 : (List UInt8)) (a1 : Int) : Option (Int × Bool × Int) := cond (decide ((IntKind.i64.wrap (((a0.length : Nat) : Int) - a1)) < (4 : Int))) (some ((0 : Int), false, a1)) ((f420_l38 a0 k (0 : Int) (0 : Int) a1).bind fun o38 => (match o38 with | .b0 (x38_1, x38_2) => f420_j147 k x38_1 x38_2 | .r x => some x | _ => none))
theorem F420 {P : Program} {N : Nat → Nat} (hmix : P.follows .mixedOrders = true) (hc : HC420 P N) {k : Nat} {a0 : (List UInt8)} {a1 : Int} {r : (Int × Bool × Int)} (h : f420 k a0 a1 = some r) :
    ACalls P (N 420) [(.ptr 0 0)] [(0, (.cells [(.d (.str a0)), (.d (.int .i64 a1))]))] (.tup [(.d (.int .i32 r.1)), (.d (.bool r.2.1))]) [(0, (.cells [(.d (.str a0)), (.d (.int .i64 r.2.2))]))] := by
  refine acalls_canon (F := C420 N) hc 1 1 rfl ?_
  unfold f420 at h
  dsimp only [C420, startL]
  refine AWc.seq (AWc.rE hmix [] ?_)
  refine AWc.seq (AWc.seq (AWc.rE hmix [] ?_))
  rcases cc h with ⟨c21, h⟩ | ⟨c21, h⟩
  · refine AWc.cT c21 ?_
    refine AWc.seq (AWc.rE hmix [] ?_)
    have hr := Option.some.inj h
    subst hr
    exact AWc.ret (canQ (N := 78) (k := 1) (l' := [(2, (.d (.int .i32 (0 : Int)))), (3, (.d (.bool false)))]) (H' := [(0, (.cells [(.d (.str a0)), (.d (.int .i64 a1))]))]) rfl (inT [] []) (doneA (.inr rfl) rfl ⟨trivial, ⟨trivial, trivial⟩⟩ (.refl _) (hasCons rfl hasNil)))
  · refine AWc.cF c21 ?_
    refine AWc.skip (AWc.seq (AWc.rE hmix [] ?_))
    refine AWc.seqS (N := 78) 1 (fun (z : (Int × Int)) => [(4, (.d (.int .i32 z.1)))]) (fun z => [(0, (.cells [(.d (.str a0)), (.d (.int .i64 z.2))]))]) (fun z => f420_j147 k z.1 z.2 = some r) rfl_le ?_ ?_
    · refine AWc.seq (AWc.rE hmix [] ?_)
      obtain ⟨o38, h38, h⟩ := bind_some h
      refine AWc.block ?_
      refine AWc.loopK (N := 78) 1 (fun (x : (Int × Int × Int)) => [(0, (.ptr 0 0)), (4, (.d (.int .i32 x.1))), (17, (.d (.int .i64 x.2.1)))]) (fun x => [(0, (.cells [(.d (.str a0)), (.d (.int .i64 x.2.2))]))]) (fun k x => f420_l38 a0 k x.1 x.2.1 x.2.2 = some o38) k ((0 : Int), (0 : Int), a1) rfl_le (fun x hx => by cases hx) h38 (inT [] []) ?_
      clear h38
      intro k
      rintro ⟨y38_1, y38_2, y38_3⟩ h38
      dsimp only at h38 ⊢
      rw [f420_l38] at h38
      refine AWc.seq (AWc.rE hmix [] ?_)
      refine AWc.seq ?_
      rcases cc h38 with ⟨c45, h38⟩ | ⟨c45, h38⟩
      · refine AWc.cT c45 ?_
        refine AWc.skip (AWc.seq (AWc.block (AWc.seq ?_)))
        obtain ⟨b61, h38⟩ := gd_some h38
        refine AWc.rE hmix [.sd b61] ?_
        refine AWc.seq (AWc.rE hmix [] ?_)
        refine AWc.block ?_
        refine AWc.seqS (N := 78) 1 (fun (z : Bool) => [(0, (.ptr 0 0)), (4, (.d (.int .i32 y38_1))), (5, (.d (.int .u8 (((a0.getD (y38_3).toNat 0).toNat : Nat) : Int)))), (17, (.d (.int .i64 y38_2))), (35, (.d (.bool z))), (39, .any), (40, .any)]) (fun z => [(0, (.cells [(.d (.str a0)), (.d (.int .i64 (IntKind.i64.wrap (y38_3 + (1 : Int)))))]))]) (fun z => f420_j85 (f420_l38 a0 k) k y38_1 a0 y38_3 y38_2 z = some o38) rfl_le ?_ ?_
        · rcases cc h38 with ⟨c80, h38⟩ | ⟨c80, h38⟩
          · refine AWc.rE hmix [.br c80] ?_
            exact ⟨(decide ((((a0.getD (y38_3).toNat 0).toNat : Nat) : Int) ≤ (57 : Int))), h38, (inT [] [])⟩
          · refine AWc.rE hmix [.br c80] ?_
            exact ⟨false, h38, (inT [] [])⟩
        · intro j85_1 h38
          unfold f420_j85 at h38
          rcases cc h38 with ⟨c85, h38⟩ | ⟨c85, h38⟩
          · refine AWc.cT c85 ?_
            refine AWc.rE hmix [.sd (p := 0 ≤ (4 : Int)) (by decide)] ?_
            refine AWc.rE hmix [] ?_
            exact ⟨((bitsA .or .i32 (IntKind.i32.wrap (y38_1 * 2 ^ (min ((4 : Int)).toNat IntKind.i32.bits))) (IntKind.i32.wrap (((u8 (IntKind.u8.wrap ((((a0.getD (y38_3).toNat 0).toNat : Nat) : Int) - (48 : Int)))).toNat : Nat) : Int))), (IntKind.i64.wrap (y38_2 + (1 : Int))), (IntKind.i64.wrap (y38_3 + (1 : Int)))), h38, (inT [] [])⟩
          · refine AWc.cF c85 ?_
            refine AWc.seqS (N := 78) 1 (fun (z : Bool) => [(0, (.ptr 0 0)), (4, (.d (.int .i32 y38_1))), (5, (.d (.int .u8 (((a0.getD (y38_3).toNat 0).toNat : Nat) : Int)))), (17, (.d (.int .i64 y38_2))), (39, .any), (40, .any), (48, (.d (.bool z))), (52, .any), (53, .any)]) (fun z => [(0, (.cells [(.d (.str a0)), (.d (.int .i64 (IntKind.i64.wrap (y38_3 + (1 : Int)))))]))]) (fun z => f420_j105 (f420_l38 a0 k) k y38_1 a0 y38_3 y38_2 z = some o38) rfl_le ?_ ?_
            · rcases cc h38 with ⟨c100, h38⟩ | ⟨c100, h38⟩
              · refine AWc.rE hmix [.br c100] ?_
                exact ⟨(decide ((((a0.getD (y38_3).toNat 0).toNat : Nat) : Int) ≤ (102 : Int))), h38, (inT [] [])⟩
              · refine AWc.rE hmix [.br c100] ?_
                exact ⟨false, h38, (inT [] [])⟩
            · intro j105_1 h38
              unfold f420_j105 at h38
              rcases cc h38 with ⟨c105, h38⟩ | ⟨c105, h38⟩
              · refine AWc.cT c105 ?_
                refine AWc.rE hmix [.sd (p := 0 ≤ (4 : Int)) (by decide)] ?_
                refine AWc.rE hmix [] ?_
                exact ⟨((bitsA .or .i32 (IntKind.i32.wrap (y38_1 * 2 ^ (min ((4 : Int)).toNat IntKind.i32.bits))) (IntKind.i32.wrap (((u8 (IntKind.u8.wrap ((((u8 (IntKind.u8.wrap ((((a0.getD (y38_3).toNat 0).toNat : Nat) : Int) - (97 : Int)))).toNat : Nat) : Int) + (10 : Int)))).toNat : Nat) : Int))), (IntKind.i64.wrap (y38_2 + (1 : Int))), (IntKind.i64.wrap (y38_3 + (1 : Int)))), h38, (inT [] [])⟩
              · refine AWc.cF c105 ?_
                refine AWc.seqS (N := 78) 1 (fun (z : Bool) => [(0, (.ptr 0 0)), (4, (.d (.int .i32 y38_1))), (5, (.d (.int .u8 (((a0.getD (y38_3).toNat 0).toNat : Nat) : Int)))), (17, (.d (.int .i64 y38_2))), (39, .any), (40, .any), (52, .any), (53, .any), (62, (.d (.bool z))), (66, .any), (67, .any)]) (fun z => [(0, (.cells [(.d (.str a0)), (.d (.int .i64 (IntKind.i64.wrap (y38_3 + (1 : Int)))))]))]) (fun z => f420_j126 (f420_l38 a0 k) k y38_1 a0 y38_3 y38_2 z = some o38) rfl_le ?_ ?_
                · rcases cc h38 with ⟨c121, h38⟩ | ⟨c121, h38⟩
                  · refine AWc.rE hmix [.br c121] ?_
                    exact ⟨(decide ((((a0.getD (y38_3).toNat 0).toNat : Nat) : Int) ≤ (70 : Int))), h38, (inT [] [])⟩
                  · refine AWc.rE hmix [.br c121] ?_
                    exact ⟨false, h38, (inT [] [])⟩
                · intro j126_1 h38
                  unfold f420_j126 at h38
                  rcases cc h38 with ⟨c126, h38⟩ | ⟨c126, h38⟩
                  · refine AWc.cT c126 ?_
                    refine AWc.rE hmix [.sd (p := 0 ≤ (4 : Int)) (by decide)] ?_
                    refine AWc.rE hmix [] ?_
                    exact ⟨((bitsA .or .i32 (IntKind.i32.wrap (y38_1 * 2 ^ (min ((4 : Int)).toNat IntKind.i32.bits))) (IntKind.i32.wrap (((u8 (IntKind.u8.wrap ((((u8 (IntKind.u8.wrap ((((a0.getD (y38_3).toNat 0).toNat : Nat) : Int) - (65 : Int)))).toNat : Nat) : Int) + (10 : Int)))).toNat : Nat) : Int))), (IntKind.i64.wrap (y38_2 + (1 : Int))), (IntKind.i64.wrap (y38_3 + (1 : Int)))), h38, (inT [] [])⟩
                  · refine AWc.cF c126 ?_
                    refine AWc.seq (AWc.rE hmix [] ?_)
                    cases h38
                    dsimp only at h
                    have hr := Option.some.inj h
                    subst hr
                    exact AWc.ret (canQ (N := 78) (k := 1) (l' := [(2, (.d (.int .i32 (0 : Int)))), (3, (.d (.bool false)))]) (H' := [(0, (.cells [(.d (.str a0)), (.d (.int .i64 (IntKind.i64.wrap (y38_3 + (1 : Int)))))]))]) rfl (inT [] []) (doneA (.inr rfl) rfl ⟨trivial, ⟨trivial, trivial⟩⟩ (.refl _) (hasCons rfl hasNil)))
      · refine AWc.cF c45 ?_
        cases h38
        dsimp only at h
        refine AWc.exit ?_
        refine inBlk_eq ?_
        exact ⟨(y38_1, y38_3), h, (inT [] [])⟩
    · rintro ⟨j147_1, j147_2⟩ h
      dsimp only at h ⊢
      unfold f420_j147 at h
      refine AWc.seq (AWc.rE hmix [] ?_)
      have hr := Option.some.inj h
      subst hr
      exact AWc.ret (canQ (N := 78) (k := 1) (l' := [(2, (.d (.int .i32 j147_1))), (3, (.d (.bool true)))]) (H' := [(0, (.cells [(.d (.str a0)), (.d (.int .i64 j147_2))]))]) rfl (inT [] []) (doneA (.inr rfl) rfl ⟨trivial, ⟨trivial, trivial⟩⟩ (.refl _) (hasCons rfl hasNil)))
/-- (*courant/json.parser).sign -/
def C416 (N : Nat → Nat) : AFunc := { n := 58, params := 1, res := [.tmp 2, .tmp 3], body :=
 (.seq (.region false [⟨some 2, .mv (.k (.d (.int .i32 0))), none, []⟩,
 ⟨some 3, .mv (.k (.d (.bool false))), none, [0]⟩])
 (.seq (.region false [⟨some 8, .mv (.t 0), none, []⟩,
 ⟨some 9, .call (.k (.d (.fn (N 420)))) [(.t 8)], none, [0]⟩,
 ⟨some 7, .mv (.t 9), none, [1]⟩,
 ⟨some 10, .ext (.t 7) 0, none, [2]⟩,
 ⟨some 11, .ext (.t 7) 1, none, [2]⟩,
 ⟨some 4, .mv (.t 10), none, [3, 1, 0, 2]⟩,
 ⟨some 5, .mv (.t 11), none, [4, 5, 0, 1, 2, 3]⟩])
 (.seq (.seq (.region false [⟨some 12, .mv (.t 5), none, []⟩,
 ⟨some 13, .un .not (.t 12), none, [0]⟩,
 ⟨some 14, .mv (.t 13), none, [1]⟩,
 ⟨some 15, .mv (.t 4), some (14, false), [2]⟩,
 ⟨some 16, .bin .lss (.t 15) (.k (.d (.int .i32 55296))), some (14, false), [3, 2]⟩,
 ⟨some 17, .pick (.t 14) (.k (.d (.bool true))) (.t 16), none, [2, 4]⟩,
 ⟨some 18, .mv (.t 17), none, [5, 2]⟩,
 ⟨some 19, .mv (.t 4), some (18, false), [6]⟩,
 ⟨some 20, .bin .gtr (.t 19) (.k (.d (.int .i32 57343))), some (18, false), [7, 6]⟩,
 ⟨some 21, .pick (.t 18) (.k (.d (.bool true))) (.t 20), none, [6, 8]⟩])
     (.cond (.t 21) (.seq (.region false [⟨some 22, .mv (.t 4), none, []⟩,
 ⟨some 23, .mv (.t 5), none, []⟩,
 ⟨some 2, .mv (.t 22), none, [0]⟩,
 ⟨some 3, .mv (.t 23), none, [1, 2, 0]⟩])
       .ret)
      (.skip)))
 (.seq (.seq (.region false [⟨some 24, .mv (.t 4), none, []⟩,
 ⟨some 25, .bin .geq (.t 24) (.k (.d (.int .i32 56320))), none, [0]⟩,
 ⟨some 26, .mv (.t 25), none, [1]⟩,
 ⟨some 27, .mv (.t 0), some (26, false), [2]⟩,
 ⟨some 28, .call (.k (.d (.fn (N 401)))) [(.t 27), (.k (.d (.int .u8 92)))], some (26, false), [3, 2]⟩,
 ⟨some 29, .un .not (.t 28), some (26, false), [4, 2]⟩,
 ⟨some 30, .pick (.t 26) (.k (.d (.bool true))) (.t 29), none, [2, 5]⟩,
 ⟨some 31, .mv (.t 30), none, [6, 4]⟩,
 ⟨some 32, .mv (.t 0), some (31, false), [7]⟩,
 ⟨some 33, .call (.k (.d (.fn (N 401)))) [(.t 32), (.k (.d (.int .u8 117)))], some (31, false), [8, 7]⟩,
 ⟨some 34, .un .not (.t 33), some (31, false), [9, 7]⟩,
 ⟨some 35, .pick (.t 31) (.k (.d (.bool true))) (.t 34), none, [7, 10]⟩])
      (.cond (.t 35) (.seq (.region false [⟨some 2, .mv (.k (.d (.int .i32 0))), none, []⟩,
 ⟨some 3, .mv (.k (.d (.bool false))), none, [0]⟩])
        .ret)
       (.skip)))
 (.seq (.region false [⟨some 37, .mv (.t 0), none, []⟩,
 ⟨some 38, .call (.k (.d (.fn (N 420)))) [(.t 37)], none, [0]⟩,
 ⟨some 36, .mv (.t 38), none, [1]⟩,
 ⟨some 39, .ext (.t 36) 0, none, [2]⟩,
 ⟨some 40, .ext (.t 36) 1, none, [2]⟩,
 ⟨some 6, .mv (.t 39), none, [3, 1, 0, 2]⟩,
 ⟨some 5, .mv (.t 40), none, [4, 5, 0, 1, 2, 3]⟩])
 (.seq (.seq (.region false [⟨some 41, .mv (.t 5), none, []⟩,
 ⟨some 42, .un .not (.t 41), none, [0]⟩,
 ⟨some 43, .mv (.t 42), none, [1]⟩,
 ⟨some 44, .mv (.t 6), some (43, false), [2]⟩,
 ⟨some 45, .bin .lss (.t 44) (.k (.d (.int .i32 56320))), some (43, false), [3, 2]⟩,
 ⟨some 46, .pick (.t 43) (.k (.d (.bool true))) (.t 45), none, [2, 4]⟩,
 ⟨some 47, .mv (.t 46), none, [5, 2]⟩,
 ⟨some 48, .mv (.t 6), some (47, false), [6]⟩,
 ⟨some 49, .bin .gtr (.t 48) (.k (.d (.int .i32 57343))), some (47, false), [7, 6]⟩,
 ⟨some 50, .pick (.t 47) (.k (.d (.bool true))) (.t 49), none, [6, 8]⟩])
        (.cond (.t 50) (.seq (.region false [⟨some 2, .mv (.k (.d (.int .i32 0))), none, []⟩,
 ⟨some 3, .mv (.k (.d (.bool false))), none, [0]⟩])
          .ret)
         (.skip)))
 (.seq (.region false [⟨some 51, .mv (.t 4), none, []⟩,
 ⟨some 52, .bin .sub (.t 51) (.k (.d (.int .i32 55296))), none, [0]⟩,
 ⟨some 53, .bin .shl (.t 52) (.k (.d (.int .u64 10))), none, [1]⟩,
 ⟨some 54, .bin .add (.k (.d (.int .i32 65536))) (.t 53), none, [2]⟩,
 ⟨some 55, .mv (.t 6), none, []⟩,
 ⟨some 56, .bin .sub (.t 55) (.k (.d (.int .i32 56320))), none, [4]⟩,
 ⟨some 57, .bin .add (.t 54) (.t 56), none, [3, 5]⟩,
 ⟨some 2, .mv (.t 57), none, [6, 0, 1, 2, 3, 4, 5]⟩,
 ⟨some 3, .mv (.k (.d (.bool true))), none, [7, 0, 1, 2, 3, 4, 5, 6]⟩])
        .ret))))))) }
def HC416 (P : Program) (N : Nat → Nat) : Prop := HasF P (N 416) (C416 N) ∧ HC420 P N ∧ HC401 P N
def f416_j30 (k : Nat) (r10 : (Int × Bool × Int)) (a0 : (List UInt8)) (j30_1 : Bool) : Option (Int × Bool × Int) := cond j30_1 (some (r10.1, r10.2.1, r10.2.2)) (cond (decide (r10.1 ≥ (56320 : Int))) (some ((0 : Int), false, r10.2.2)) ((f401 k a0 r10.2.2 (92 : UInt8)).bind fun r48 => cond (!r48.1) (some ((0 : Int), false, r48.2)) ((f401 k a0 r48.2 (117 : UInt8)).bind fun r53 => cond (!r53.1) (some ((0 : Int), false, r53.2)) ((f420 k a0 r53.2).bind fun r68 => cond (!r68.2.1) (some ((0 : Int), false, r68.2.2)) (cond (decide (r68.1 < (56320 : Int))) (some ((0 : Int), false, r68.2.2)) (cond (decide (r68.1 > (57343 : Int))) (some ((0 : Int), false, r68.2.2)) (some ((IntKind.i32.wrap ((IntKind.i32.wrap ((65536 : Int) + (IntKind.i32.wrap ((IntKind.i32.wrap (r10.1 - (55296 : Int))) * 2 ^ (min ((10 : Int)).toNat IntKind.i32.bits))))) + (IntKind.i32.wrap (r68.1 - (56320 : Int))))), true, r68.2.2))))))))
def f416 (k : Nat) (a0 : (List UInt8)) (a1 : Int) : Option (Int × Bool × Int) := (f420 k a0 a1).bind fun r10 => cond (!r10.2.1) (f416_j30 k r10 a0 true) (cond (decide (r10.1 < (55296 : Int))) (f416_j30 k r10 a0 true) (f416_j30 k r10 a0 (decide (r10.1 > (57343 : Int)))))
theorem F416 {P : Program} {N : Nat → Nat} (hmix : P.follows .mixedOrders = true) (hc : HC416 P N) {k : Nat} {a0 : (List UInt8)} {a1 : Int} {r : (Int × Bool × Int)} (h : f416 k a0 a1 = some r) :
    ACalls P (N 416) [(.ptr 0 0)] [(0, (.cells [(.d (.str a0)), (.d (.int .i64 a1))]))] (.tup [(.d (.int .i32 r.1)), (.d (.bool r.2.1))]) [(0, (.cells [(.d (.str a0)), (.d (.int .i64 r.2.2))]))] := by
  refine acalls_canon (F := C416 N) hc.1 1 1 rfl ?_
  unfold f416 at h
  dsimp only [C416, startL]
  refine AWc.seq (AWc.rE hmix [] ?_)
  refine AWc.seq ?_
  obtain ⟨r10, e10, h⟩ := bind_some h
  refine AWc.rE hmix [.call (F420 hmix hc.2.1 e10) [] 1] ?_
  refine AWc.seq ?_
  refine AWc.seqS (N := 58) 1 (fun (z : Bool) => [(0, (.ptr 0 0)), (4, (.d (.int .i32 r10.1))), (5, (.d (.bool r10.2.1))), (21, (.d (.bool z)))]) (fun z => [(0, (.cells [(.d (.str a0)), (.d (.int .i64 r10.2.2))]))]) (fun z => f416_j30 k r10 a0 z = some r) rfl_le ?_ ?_
  · rcases cc h with ⟨c22, h⟩ | ⟨c22, h⟩
    · refine AWc.rE hmix [.br c22, .br (rfl : true = true)] ?_
      exact ⟨true, h, (inT [] [])⟩
    · rcases cc h with ⟨c26, h⟩ | ⟨c26, h⟩
      · refine AWc.rE hmix [.br c22, .br c26] ?_
        exact ⟨true, h, (inT [] [])⟩
      · refine AWc.rE hmix [.br c22, .br c26] ?_
        exact ⟨(decide (r10.1 > (57343 : Int))), h, (inT [] [])⟩
  · intro j30_1 h
    unfold f416_j30 at h
    rcases cc h with ⟨c30, h⟩ | ⟨c30, h⟩
    · refine AWc.cT c30 ?_
      refine AWc.seq (AWc.rE hmix [] ?_)
      have hr := Option.some.inj h
      subst hr
      exact AWc.ret (canQ (N := 58) (k := 1) (l' := [(2, (.d (.int .i32 r10.1))), (3, (.d (.bool r10.2.1)))]) (H' := [(0, (.cells [(.d (.str a0)), (.d (.int .i64 r10.2.2))]))]) rfl (inT [] []) (doneA (.inr rfl) rfl ⟨trivial, ⟨trivial, trivial⟩⟩ (.refl _) (hasCons rfl hasNil)))
    · refine AWc.cF c30 ?_
      refine AWc.skip (AWc.seq (AWc.seq ?_))
      rcases cc h with ⟨c46, h⟩ | ⟨c46, h⟩
      · refine AWc.rE hmix [.br c46, .br (rfl : true = true)] ?_
        refine AWc.cT rfl ?_
        refine AWc.seq (AWc.rE hmix [] ?_)
        have hr := Option.some.inj h
        subst hr
        exact AWc.ret (canQ (N := 58) (k := 1) (l' := [(2, (.d (.int .i32 (0 : Int)))), (3, (.d (.bool false)))]) (H' := [(0, (.cells [(.d (.str a0)), (.d (.int .i64 r10.2.2))]))]) rfl (inT [] []) (doneA (.inr rfl) rfl ⟨trivial, ⟨trivial, trivial⟩⟩ (.refl _) (hasCons rfl hasNil)))
      · obtain ⟨r48, e48, h⟩ := bind_some h
        rcases cc h with ⟨c51, h⟩ | ⟨c51, h⟩
        · refine AWc.rE hmix [.br c46, .call (F401 hmix hc.2.2 e48) [] 1, .br c51] ?_
          refine AWc.cT rfl ?_
          refine AWc.seq (AWc.rE hmix [] ?_)
          have hr := Option.some.inj h
          subst hr
          exact AWc.ret (canQ (N := 58) (k := 1) (l' := [(2, (.d (.int .i32 (0 : Int)))), (3, (.d (.bool false)))]) (H' := [(0, (.cells [(.d (.str a0)), (.d (.int .i64 r48.2))]))]) rfl (inT [] []) (doneA (.inr rfl) rfl ⟨trivial, ⟨trivial, trivial⟩⟩ (.refl _) (hasCons rfl hasNil)))
        · obtain ⟨r53, e53, h⟩ := bind_some h
          refine AWc.rE hmix [.br c46, .call (F401 hmix hc.2.2 e48) [] 1, .br c51, .call (F401 hmix hc.2.2 e53) [] 1] ?_
          rcases cc h with ⟨c56, h⟩ | ⟨c56, h⟩
          · refine AWc.cT c56 ?_
            refine AWc.seq (AWc.rE hmix [] ?_)
            have hr := Option.some.inj h
            subst hr
            exact AWc.ret (canQ (N := 58) (k := 1) (l' := [(2, (.d (.int .i32 (0 : Int)))), (3, (.d (.bool false)))]) (H' := [(0, (.cells [(.d (.str a0)), (.d (.int .i64 r53.2))]))]) rfl (inT [] []) (doneA (.inr rfl) rfl ⟨trivial, ⟨trivial, trivial⟩⟩ (.refl _) (hasCons rfl hasNil)))
          · refine AWc.cF c56 ?_
            refine AWc.skip (AWc.seq ?_)
            obtain ⟨r68, e68, h⟩ := bind_some h
            refine AWc.rE hmix [.call (F420 hmix hc.2.1 e68) [] 1] ?_
            refine AWc.seq (AWc.seq ?_)
            rcases cc h with ⟨c80, h⟩ | ⟨c80, h⟩
            · refine AWc.rE hmix [.br c80, .br (rfl : true = true)] ?_
              refine AWc.cT rfl ?_
              refine AWc.seq (AWc.rE hmix [] ?_)
              have hr := Option.some.inj h
              subst hr
              exact AWc.ret (canQ (N := 58) (k := 1) (l' := [(2, (.d (.int .i32 (0 : Int)))), (3, (.d (.bool false)))]) (H' := [(0, (.cells [(.d (.str a0)), (.d (.int .i64 r68.2.2))]))]) rfl (inT [] []) (doneA (.inr rfl) rfl ⟨trivial, ⟨trivial, trivial⟩⟩ (.refl _) (hasCons rfl hasNil)))
            · rcases cc h with ⟨c84, h⟩ | ⟨c84, h⟩
              · refine AWc.rE hmix [.br c80, .br c84] ?_
                refine AWc.cT rfl ?_
                refine AWc.seq (AWc.rE hmix [] ?_)
                have hr := Option.some.inj h
                subst hr
                exact AWc.ret (canQ (N := 58) (k := 1) (l' := [(2, (.d (.int .i32 (0 : Int)))), (3, (.d (.bool false)))]) (H' := [(0, (.cells [(.d (.str a0)), (.d (.int .i64 r68.2.2))]))]) rfl (inT [] []) (doneA (.inr rfl) rfl ⟨trivial, ⟨trivial, trivial⟩⟩ (.refl _) (hasCons rfl hasNil)))
              · refine AWc.rE hmix [.br c80, .br c84] ?_
                rcases cc h with ⟨c88, h⟩ | ⟨c88, h⟩
                · refine AWc.cT c88 ?_
                  refine AWc.seq (AWc.rE hmix [] ?_)
                  have hr := Option.some.inj h
                  subst hr
                  exact AWc.ret (canQ (N := 58) (k := 1) (l' := [(2, (.d (.int .i32 (0 : Int)))), (3, (.d (.bool false)))]) (H' := [(0, (.cells [(.d (.str a0)), (.d (.int .i64 r68.2.2))]))]) rfl (inT [] []) (doneA (.inr rfl) rfl ⟨trivial, ⟨trivial, trivial⟩⟩ (.refl _) (hasCons rfl hasNil)))
                · refine AWc.cF c88 ?_
                  refine AWc.skip (AWc.seq (AWc.rE hmix [.sd (p := 0 ≤ (10 : Int)) (by decide)] ?_))
                  have hr := Option.some.inj h
                  subst hr
                  exact AWc.ret (canQ (N := 58) (k := 1) (l' := [(2, (.d (.int .i32 (IntKind.i32.wrap ((IntKind.i32.wrap ((65536 : Int) + (IntKind.i32.wrap ((IntKind.i32.wrap (r10.1 - (55296 : Int))) * 2 ^ (min ((10 : Int)).toNat IntKind.i32.bits))))) + (IntKind.i32.wrap (r68.1 - (56320 : Int)))))))), (3, (.d (.bool true)))]) (H' := [(0, (.cells [(.d (.str a0)), (.d (.int .i64 r68.2.2))]))]) rfl (inT [] []) (doneA (.inr rfl) rfl ⟨trivial, ⟨trivial, trivial⟩⟩ (.refl _) (hasCons rfl hasNil)))
/-- unicode/utf8.appendRuneNonASCII -/
def C419 (N : Nat → Nat) : AFunc := { n := 78, params := 2, res := [.tmp 4], body :=
 (.seq (.region false [⟨some 4, .mv (.k .nils), none, []⟩])
 (.seq (.region false [⟨some 6, .mv (.t 1), none, []⟩,
 ⟨some 7, .cvi .u32 (.t 6), none, [0]⟩,
 ⟨some 5, .mv (.t 7), none, [1, 0]⟩])
   (.block 0 (.seq (.region false [⟨some 12, .mv (.t 5), none, []⟩,
 ⟨some 13, .bin .leq (.t 12) (.k (.d (.int .u32 2047))), none, [0]⟩,
 ⟨some 11, .mv (.t 13), none, [1]⟩])
     (.cond (.t 11) (.seq (.region false [⟨some 14, .mv (.t 0), none, []⟩,
 ⟨some 15, .mv (.t 1), none, []⟩,
 ⟨some 16, .bin .shr (.t 15) (.k (.d (.int .u64 6))), none, [1]⟩,
 ⟨some 17, .cvi .u8 (.t 16), none, [2]⟩,
 ⟨some 18, .bin .or (.k (.d (.int .u8 192))) (.t 17), none, [3]⟩,
 ⟨some 19, .mv (.t 1), none, []⟩,
 ⟨some 20, .cvi .u8 (.t 19), none, [5]⟩,
 ⟨some 21, .bin .and (.t 20) (.k (.d (.int .u8 63))), none, [6]⟩,
 ⟨some 22, .bin .or (.k (.d (.int .u8 128))) (.t 21), none, [7]⟩,
 ⟨some 23, .bslice 2 1 [(.int .u8 0)] [(0, (.t 18)), (1, (.t 22))], none, [4, 8]⟩,
 ⟨some 24, .app (.t 14) (.t 23) 1 1 [(.int .u8 0)], none, [0, 9]⟩,
 ⟨some 4, .mv (.t 24), none, [10, 0, 1, 2, 3, 4, 5, 6, 7, 8, 9]⟩])
       .ret)
 (.seq (.seq (.region false [⟨some 26, .mv (.t 5), none, []⟩,
 ⟨some 27, .bin .lss (.t 26) (.k (.d (.int .u32 55296))), none, [0]⟩,
 ⟨some 25, .mv (.t 27), none, [1]⟩])
        (.cond (.t 25) (.skip)
         (.region false [⟨some 28, .mv (.t 5), none, []⟩,
 ⟨some 29, .bin .lss (.k (.d (.int .u32 57343))) (.t 28), none, [0]⟩,
 ⟨some 30, .mv (.t 29), none, [1]⟩,
 ⟨some 31, .mv (.t 5), some (30, true), [2]⟩,
 ⟨some 32, .bin .leq (.t 31) (.k (.d (.int .u32 65535))), some (30, true), [3, 2]⟩,
 ⟨some 33, .pick (.t 30) (.t 32) (.k (.d (.bool false))), none, [2, 4]⟩,
 ⟨some 25, .mv (.t 33), none, [5, 2]⟩])))
       (.cond (.t 25) (.seq (.region false [⟨some 34, .mv (.t 0), none, []⟩,
 ⟨some 35, .mv (.t 1), none, []⟩,
 ⟨some 36, .bin .shr (.t 35) (.k (.d (.int .u64 12))), none, [1]⟩,
 ⟨some 37, .cvi .u8 (.t 36), none, [2]⟩,
 ⟨some 38, .bin .or (.k (.d (.int .u8 224))) (.t 37), none, [3]⟩,
 ⟨some 39, .mv (.t 1), none, []⟩,
 ⟨some 40, .bin .shr (.t 39) (.k (.d (.int .u64 6))), none, [5]⟩,
 ⟨some 41, .cvi .u8 (.t 40), none, [6]⟩,
 ⟨some 42, .bin .and (.t 41) (.k (.d (.int .u8 63))), none, [7]⟩,
 ⟨some 43, .bin .or (.k (.d (.int .u8 128))) (.t 42), none, [8]⟩,
 ⟨some 44, .mv (.t 1), none, []⟩,
 ⟨some 45, .cvi .u8 (.t 44), none, [10]⟩,
 ⟨some 46, .bin .and (.t 45) (.k (.d (.int .u8 63))), none, [11]⟩,
 ⟨some 47, .bin .or (.k (.d (.int .u8 128))) (.t 46), none, [12]⟩,
 ⟨some 48, .bslice 3 1 [(.int .u8 0)] [(0, (.t 38)), (1, (.t 43)), (2, (.t 47))], none, [4, 9, 13]⟩,
 ⟨some 49, .app (.t 34) (.t 48) 1 1 [(.int .u8 0)], none, [0, 14]⟩,
 ⟨some 4, .mv (.t 49), none, [15, 0, 1, 2, 3, 4, 5, 6, 7, 8, 9, 10, 11, 12, 13, 14]⟩])
         .ret)
 (.seq (.region false [⟨some 51, .mv (.t 5), none, []⟩,
 ⟨some 52, .bin .gtr (.t 51) (.k (.d (.int .u32 65535))), none, [0]⟩,
 ⟨some 53, .mv (.t 52), none, [1]⟩,
 ⟨some 54, .mv (.t 5), some (53, true), [2]⟩,
 ⟨some 55, .bin .leq (.t 54) (.k (.d (.int .u32 1114111))), some (53, true), [3, 2]⟩,
 ⟨some 56, .pick (.t 53) (.t 55) (.k (.d (.bool false))), none, [2, 4]⟩,
 ⟨some 50, .mv (.t 56), none, [5, 2]⟩])
         (.cond (.t 50) (.seq (.region false [⟨some 57, .mv (.t 0), none, []⟩,
 ⟨some 58, .mv (.t 1), none, []⟩,
 ⟨some 59, .bin .shr (.t 58) (.k (.d (.int .u64 18))), none, [1]⟩,
 ⟨some 60, .cvi .u8 (.t 59), none, [2]⟩,
 ⟨some 61, .bin .or (.k (.d (.int .u8 240))) (.t 60), none, [3]⟩,
 ⟨some 62, .mv (.t 1), none, []⟩,
 ⟨some 63, .bin .shr (.t 62) (.k (.d (.int .u64 12))), none, [5]⟩,
 ⟨some 64, .cvi .u8 (.t 63), none, [6]⟩,
 ⟨some 65, .bin .and (.t 64) (.k (.d (.int .u8 63))), none, [7]⟩,
 ⟨some 66, .bin .or (.k (.d (.int .u8 128))) (.t 65), none, [8]⟩,
 ⟨some 67, .mv (.t 1), none, []⟩,
 ⟨some 68, .bin .shr (.t 67) (.k (.d (.int .u64 6))), none, [10]⟩,
 ⟨some 69, .cvi .u8 (.t 68), none, [11]⟩,
 ⟨some 70, .bin .and (.t 69) (.k (.d (.int .u8 63))), none, [12]⟩,
 ⟨some 71, .bin .or (.k (.d (.int .u8 128))) (.t 70), none, [13]⟩,
 ⟨some 72, .mv (.t 1), none, []⟩,
 ⟨some 73, .cvi .u8 (.t 72), none, [15]⟩,
 ⟨some 74, .bin .and (.t 73) (.k (.d (.int .u8 63))), none, [16]⟩,
 ⟨some 75, .bin .or (.k (.d (.int .u8 128))) (.t 74), none, [17]⟩,
 ⟨some 76, .bslice 4 1 [(.int .u8 0)] [(0, (.t 61)), (1, (.t 66)), (2, (.t 71)), (3, (.t 75))], none, [4, 9, 14, 18]⟩,
 ⟨some 77, .app (.t 57) (.t 76) 1 1 [(.int .u8 0)], none, [0, 19]⟩,
 ⟨some 4, .mv (.t 77), none, [20, 0, 1, 2, 3, 4, 5, 6, 7, 8, 9, 10, 11, 12, 13, 14, 15, 16, 17, 18, 19]⟩])
           .ret)
 (.seq (.region false [⟨some 8, .mv (.t 0), none, []⟩,
 ⟨some 9, .bslice 3 1 [(.int .u8 0)] [(0, (.k (.d (.int .u8 239)))), (1, (.k (.d (.int .u8 191)))), (2, (.k (.d (.int .u8 189))))], none, []⟩,
 ⟨some 10, .app (.t 8) (.t 9) 1 1 [(.int .u8 0)], none, [0, 1]⟩,
 ⟨some 4, .mv (.t 10), none, [2, 0, 1]⟩])
           .ret)))))))))) }
def HC419 (P : Program) (N : Nat → Nat) : Prop := HasF P (N 419) (C419 N)
def f419_j85 (k : Nat) (a0 : (List UInt8)) (a1 : Int) (j85_1 : Bool) : Option (List UInt8) := cond j85_1 (gd ((a0.length + ([(u8 (bitsA .or .u8 (240 : Int) (((u8 (IntKind.u8.wrap (Int.fdiv a1 (2 ^ (min ((18 : Int)).toNat IntKind.i32.bits))))).toNat : Nat) : Int))), (u8 (bitsA .or .u8 (128 : Int) (((u8 (bitsA .and .u8 (((u8 (IntKind.u8.wrap (Int.fdiv a1 (2 ^ (min ((12 : Int)).toNat IntKind.i32.bits))))).toNat : Nat) : Int) (63 : Int))).toNat : Nat) : Int))), (u8 (bitsA .or .u8 (128 : Int) (((u8 (bitsA .and .u8 (((u8 (IntKind.u8.wrap (Int.fdiv a1 (2 ^ (min ((6 : Int)).toNat IntKind.i32.bits))))).toNat : Nat) : Int) (63 : Int))).toNat : Nat) : Int))), (u8 (bitsA .or .u8 (128 : Int) (((u8 (bitsA .and .u8 (((u8 (IntKind.u8.wrap a1)).toNat : Nat) : Int) (63 : Int))).toNat : Nat) : Int)))] : List UInt8).length) * 2 * 1 ≤ 281474976710656) (some (a0 ++ ([(u8 (bitsA .or .u8 (240 : Int) (((u8 (IntKind.u8.wrap (Int.fdiv a1 (2 ^ (min ((18 : Int)).toNat IntKind.i32.bits))))).toNat : Nat) : Int))), (u8 (bitsA .or .u8 (128 : Int) (((u8 (bitsA .and .u8 (((u8 (IntKind.u8.wrap (Int.fdiv a1 (2 ^ (min ((12 : Int)).toNat IntKind.i32.bits))))).toNat : Nat) : Int) (63 : Int))).toNat : Nat) : Int))), (u8 (bitsA .or .u8 (128 : Int) (((u8 (bitsA .and .u8 (((u8 (IntKind.u8.wrap (Int.fdiv a1 (2 ^ (min ((6 : Int)).toNat IntKind.i32.bits))))).toNat : Nat) : Int) (63 : Int))).toNat : Nat) : Int))), (u8 (bitsA .or .u8 (128 : Int) (((u8 (bitsA .and .u8 (((u8 (IntKind.u8.wrap a1)).toNat : Nat) : Int) (63 : Int))).toNat : Nat) : Int)))] : List UInt8)))) (gd ((a0.length + ([(239 : UInt8), (191 : UInt8), (189 : UInt8)] : List UInt8).length) * 2 * 1 ≤ 281474976710656) (some (a0 ++ ([(239 : UInt8), (191 : UInt8), (189 : UInt8)] : List UInt8))))
def f419_j53 (k : Nat) (a0 : (List UInt8)) (a1 : Int) (j53_1 : Bool) : Option (List UInt8) := cond j53_1 (gd ((a0.length + ([(u8 (bitsA .or .u8 (224 : Int) (((u8 (IntKind.u8.wrap (Int.fdiv a1 (2 ^ (min ((12 : Int)).toNat IntKind.i32.bits))))).toNat : Nat) : Int))), (u8 (bitsA .or .u8 (128 : Int) (((u8 (bitsA .and .u8 (((u8 (IntKind.u8.wrap (Int.fdiv a1 (2 ^ (min ((6 : Int)).toNat IntKind.i32.bits))))).toNat : Nat) : Int) (63 : Int))).toNat : Nat) : Int))), (u8 (bitsA .or .u8 (128 : Int) (((u8 (bitsA .and .u8 (((u8 (IntKind.u8.wrap a1)).toNat : Nat) : Int) (63 : Int))).toNat : Nat) : Int)))] : List UInt8).length) * 2 * 1 ≤ 281474976710656) (some (a0 ++ ([(u8 (bitsA .or .u8 (224 : Int) (((u8 (IntKind.u8.wrap (Int.fdiv a1 (2 ^ (min ((12 : Int)).toNat IntKind.i32.bits))))).toNat : Nat) : Int))), (u8 (bitsA .or .u8 (128 : Int) (((u8 (bitsA .and .u8 (((u8 (IntKind.u8.wrap (Int.fdiv a1 (2 ^ (min ((6 : Int)).toNat IntKind.i32.bits))))).toNat : Nat) : Int) (63 : Int))).toNat : Nat) : Int))), (u8 (bitsA .or .u8 (128 : Int) (((u8 (bitsA .and .u8 (((u8 (IntKind.u8.wrap a1)).toNat : Nat) : Int) (63 : Int))).toNat : Nat) : Int)))] : List UInt8)))) (cond (decide ((IntKind.u32.wrap a1) > (65535 : Int))) (f419_j85 k a0 a1 (decide ((IntKind.u32.wrap a1) ≤ (1114111 : Int)))) (f419_j85 k a0 a1 false))
def f419 (k : Nat) (a0 : (List UInt8)) (a1 : Int) : Option (List UInt8) := cond (decide ((IntKind.u32.wrap a1) ≤ (2047 : Int))) (gd ((a0.length + ([(u8 (bitsA .or .u8 (192 : Int) (((u8 (IntKind.u8.wrap (Int.fdiv a1 (2 ^ (min ((6 : Int)).toNat IntKind.i32.bits))))).toNat : Nat) : Int))), (u8 (bitsA .or .u8 (128 : Int) (((u8 (bitsA .and .u8 (((u8 (IntKind.u8.wrap a1)).toNat : Nat) : Int) (63 : Int))).toNat : Nat) : Int)))] : List UInt8).length) * 2 * 1 ≤ 281474976710656) (some (a0 ++ ([(u8 (bitsA .or .u8 (192 : Int) (((u8 (IntKind.u8.wrap (Int.fdiv a1 (2 ^ (min ((6 : Int)).toNat IntKind.i32.bits))))).toNat : Nat) : Int))), (u8 (bitsA .or .u8 (128 : Int) (((u8 (bitsA .and .u8 (((u8 (IntKind.u8.wrap a1)).toNat : Nat) : Int) (63 : Int))).toNat : Nat) : Int)))] : List UInt8)))) (cond (decide ((IntKind.u32.wrap a1) < (55296 : Int))) (f419_j53 k a0 a1 (decide ((IntKind.u32.wrap a1) < (55296 : Int)))) (cond (decide ((57343 : Int) < (IntKind.u32.wrap a1))) (f419_j53 k a0 a1 (decide ((IntKind.u32.wrap a1) ≤ (65535 : Int)))) (f419_j53 k a0 a1 false)))
theorem F419 {P : Program} {N : Nat → Nat} (hmix : P.follows .mixedOrders = true) (hc : HC419 P N) {k : Nat} {a0 : (List UInt8)} {a1 : Int} {r : (List UInt8)} (h : f419 k a0 a1 = some r) :
    ACalls P (N 419) [(.ap 0 1 (List.map byteD a0)), (.d (.int .i32 a1))] [(0, (.tok ((List.map byteD a0).length * 1)))] (.ap 1 1 (List.map byteD r)) [(1, (.tok ((List.map byteD r).length * 1)))] := by
  refine acalls_canon (F := C419 N) hc 1 2 rfl ?_
  unfold f419 at h
  dsimp only [C419, startL]
  refine AWc.seq (AWc.rE hmix [] ?_)
  refine AWc.seq (AWc.rE hmix [] ?_)
  refine AWc.block (AWc.seq (AWc.rE hmix [] ?_))
  rcases cc h with ⟨c18, h⟩ | ⟨c18, h⟩
  · refine AWc.cT c18 ?_
    refine AWc.seq ?_
    obtain ⟨b32, h⟩ := gd_some h
    refine AWc.rE hmix [.sd (p := 0 ≤ (6 : Int)) (by decide), .apA byteD a0 ([(u8 (bitsA .or .u8 (192 : Int) (((u8 (IntKind.u8.wrap (Int.fdiv a1 (2 ^ (min ((6 : Int)).toNat IntKind.i32.bits))))).toNat : Nat) : Int))), (u8 (bitsA .or .u8 (128 : Int) (((u8 (bitsA .and .u8 (((u8 (IntKind.u8.wrap a1)).toNat : Nat) : Int) (63 : Int))).toNat : Nat) : Int)))] : List UInt8) 1 (fun _ => rfl) b32] ?_
    have hr := Option.some.inj h
    subst hr
    exact AWc.ret (canQ (N := 78) (k := 2) (l' := [(4, (.ap 1 1 (List.map byteD (a0 ++ ([(u8 (bitsA .or .u8 (192 : Int) (((u8 (IntKind.u8.wrap (Int.fdiv a1 (2 ^ (min ((6 : Int)).toNat IntKind.i32.bits))))).toNat : Nat) : Int))), (u8 (bitsA .or .u8 (128 : Int) (((u8 (bitsA .and .u8 (((u8 (IntKind.u8.wrap a1)).toNat : Nat) : Int) (63 : Int))).toNat : Nat) : Int)))] : List UInt8)))))]) (H' := [(1, (.tok ((List.map byteD (a0 ++ ([(u8 (bitsA .or .u8 (192 : Int) (((u8 (IntKind.u8.wrap (Int.fdiv a1 (2 ^ (min ((6 : Int)).toNat IntKind.i32.bits))))).toNat : Nat) : Int))), (u8 (bitsA .or .u8 (128 : Int) (((u8 (bitsA .and .u8 (((u8 (IntKind.u8.wrap a1)).toNat : Nat) : Int) (63 : Int))).toNat : Nat) : Int)))] : List UInt8))).length * 1)))]) rfl (inT [] []) (doneA (.inr rfl) rfl ⟨trivial, trivial⟩ (.refl _) (hasCons rfl hasNil)))
  · refine AWc.cF c18 ?_
    refine AWc.seqS (N := 78) 1 (fun (z : Bool) => [(0, (.ap 0 1 (List.map byteD a0))), (1, (.d (.int .i32 a1))), (5, (.d (.int .u32 (IntKind.u32.wrap a1)))), (25, (.d (.bool z)))]) (fun z => [(0, (.tok ((List.map byteD a0).length * 1)))]) (fun z => f419_j53 k a0 a1 z = some r) rfl_le ?_ ?_
    · refine AWc.seq (AWc.rE hmix [] ?_)
      rcases cc h with ⟨c42, h⟩ | ⟨c42, h⟩
      · refine AWc.cT c42 ?_
        refine AWc.skip ?_
        exact ⟨(decide ((IntKind.u32.wrap a1) < (55296 : Int))), h, (inT [] [])⟩
      · refine AWc.cF c42 ?_
        rcases cc h with ⟨c48, h⟩ | ⟨c48, h⟩
        · refine AWc.rE hmix [.br c48] ?_
          exact ⟨(decide ((IntKind.u32.wrap a1) ≤ (65535 : Int))), h, (inT [] [])⟩
        · refine AWc.rE hmix [.br c48] ?_
          exact ⟨false, h, (inT [] [])⟩
    · intro j53_1 h
      unfold f419_j53 at h
      rcases cc h with ⟨c53, h⟩ | ⟨c53, h⟩
      · refine AWc.cT c53 ?_
        refine AWc.seq ?_
        obtain ⟨b72, h⟩ := gd_some h
        refine AWc.rE hmix [.sd (p := 0 ≤ (12 : Int)) (by decide), .sd (p := 0 ≤ (6 : Int)) (by decide), .apA byteD a0 ([(u8 (bitsA .or .u8 (224 : Int) (((u8 (IntKind.u8.wrap (Int.fdiv a1 (2 ^ (min ((12 : Int)).toNat IntKind.i32.bits))))).toNat : Nat) : Int))), (u8 (bitsA .or .u8 (128 : Int) (((u8 (bitsA .and .u8 (((u8 (IntKind.u8.wrap (Int.fdiv a1 (2 ^ (min ((6 : Int)).toNat IntKind.i32.bits))))).toNat : Nat) : Int) (63 : Int))).toNat : Nat) : Int))), (u8 (bitsA .or .u8 (128 : Int) (((u8 (bitsA .and .u8 (((u8 (IntKind.u8.wrap a1)).toNat : Nat) : Int) (63 : Int))).toNat : Nat) : Int)))] : List UInt8) 1 (fun _ => rfl) b72] ?_
        have hr := Option.some.inj h
        subst hr
        exact AWc.ret (canQ (N := 78) (k := 2) (l' := [(4, (.ap 1 1 (List.map byteD (a0 ++ ([(u8 (bitsA .or .u8 (224 : Int) (((u8 (IntKind.u8.wrap (Int.fdiv a1 (2 ^ (min ((12 : Int)).toNat IntKind.i32.bits))))).toNat : Nat) : Int))), (u8 (bitsA .or .u8 (128 : Int) (((u8 (bitsA .and .u8 (((u8 (IntKind.u8.wrap (Int.fdiv a1 (2 ^ (min ((6 : Int)).toNat IntKind.i32.bits))))).toNat : Nat) : Int) (63 : Int))).toNat : Nat) : Int))), (u8 (bitsA .or .u8 (128 : Int) (((u8 (bitsA .and .u8 (((u8 (IntKind.u8.wrap a1)).toNat : Nat) : Int) (63 : Int))).toNat : Nat) : Int)))] : List UInt8)))))]) (H' := [(1, (.tok ((List.map byteD (a0 ++ ([(u8 (bitsA .or .u8 (224 : Int) (((u8 (IntKind.u8.wrap (Int.fdiv a1 (2 ^ (min ((12 : Int)).toNat IntKind.i32.bits))))).toNat : Nat) : Int))), (u8 (bitsA .or .u8 (128 : Int) (((u8 (bitsA .and .u8 (((u8 (IntKind.u8.wrap (Int.fdiv a1 (2 ^ (min ((6 : Int)).toNat IntKind.i32.bits))))).toNat : Nat) : Int) (63 : Int))).toNat : Nat) : Int))), (u8 (bitsA .or .u8 (128 : Int) (((u8 (bitsA .and .u8 (((u8 (IntKind.u8.wrap a1)).toNat : Nat) : Int) (63 : Int))).toNat : Nat) : Int)))] : List UInt8))).length * 1)))]) rfl (inT [] []) (doneA (.inr rfl) rfl ⟨trivial, trivial⟩ (.refl _) (hasCons rfl hasNil)))
      · refine AWc.cF c53 ?_
        refine AWc.seqS (N := 78) 1 (fun (z : Bool) => [(0, (.ap 0 1 (List.map byteD a0))), (1, (.d (.int .i32 a1))), (50, (.d (.bool z)))]) (fun z => [(0, (.tok ((List.map byteD a0).length * 1)))]) (fun z => f419_j85 k a0 a1 z = some r) rfl_le ?_ ?_
        · rcases cc h with ⟨c80, h⟩ | ⟨c80, h⟩
          · refine AWc.rE hmix [.br c80] ?_
            exact ⟨(decide ((IntKind.u32.wrap a1) ≤ (1114111 : Int))), h, (inT [] [])⟩
          · refine AWc.rE hmix [.br c80] ?_
            exact ⟨false, h, (inT [] [])⟩
        · intro j85_1 h
          unfold f419_j85 at h
          rcases cc h with ⟨c85, h⟩ | ⟨c85, h⟩
          · refine AWc.cT c85 ?_
            refine AWc.seq ?_
            obtain ⟨b109, h⟩ := gd_some h
            refine AWc.rE hmix [.sd (p := 0 ≤ (18 : Int)) (by decide), .sd (p := 0 ≤ (12 : Int)) (by decide), .sd (p := 0 ≤ (6 : Int)) (by decide), .apA byteD a0 ([(u8 (bitsA .or .u8 (240 : Int) (((u8 (IntKind.u8.wrap (Int.fdiv a1 (2 ^ (min ((18 : Int)).toNat IntKind.i32.bits))))).toNat : Nat) : Int))), (u8 (bitsA .or .u8 (128 : Int) (((u8 (bitsA .and .u8 (((u8 (IntKind.u8.wrap (Int.fdiv a1 (2 ^ (min ((12 : Int)).toNat IntKind.i32.bits))))).toNat : Nat) : Int) (63 : Int))).toNat : Nat) : Int))), (u8 (bitsA .or .u8 (128 : Int) (((u8 (bitsA .and .u8 (((u8 (IntKind.u8.wrap (Int.fdiv a1 (2 ^ (min ((6 : Int)).toNat IntKind.i32.bits))))).toNat : Nat) : Int) (63 : Int))).toNat : Nat) : Int))), (u8 (bitsA .or .u8 (128 : Int) (((u8 (bitsA .and .u8 (((u8 (IntKind.u8.wrap a1)).toNat : Nat) : Int) (63 : Int))).toNat : Nat) : Int)))] : List UInt8) 1 (fun _ => rfl) b109] ?_
            have hr := Option.some.inj h
            subst hr
            exact AWc.ret (canQ (N := 78) (k := 2) (l' := [(4, (.ap 1 1 (List.map byteD (a0 ++ ([(u8 (bitsA .or .u8 (240 : Int) (((u8 (IntKind.u8.wrap (Int.fdiv a1 (2 ^ (min ((18 : Int)).toNat IntKind.i32.bits))))).toNat : Nat) : Int))), (u8 (bitsA .or .u8 (128 : Int) (((u8 (bitsA .and .u8 (((u8 (IntKind.u8.wrap (Int.fdiv a1 (2 ^ (min ((12 : Int)).toNat IntKind.i32.bits))))).toNat : Nat) : Int) (63 : Int))).toNat : Nat) : Int))), (u8 (bitsA .or .u8 (128 : Int) (((u8 (bitsA .and .u8 (((u8 (IntKind.u8.wrap (Int.fdiv a1 (2 ^ (min ((6 : Int)).toNat IntKind.i32.bits))))).toNat : Nat) : Int) (63 : Int))).toNat : Nat) : Int))), (u8 (bitsA .or .u8 (128 : Int) (((u8 (bitsA .and .u8 (((u8 (IntKind.u8.wrap a1)).toNat : Nat) : Int) (63 : Int))).toNat : Nat) : Int)))] : List UInt8)))))]) (H' := [(1, (.tok ((List.map byteD (a0 ++ ([(u8 (bitsA .or .u8 (240 : Int) (((u8 (IntKind.u8.wrap (Int.fdiv a1 (2 ^ (min ((18 : Int)).toNat IntKind.i32.bits))))).toNat : Nat) : Int))), (u8 (bitsA .or .u8 (128 : Int) (((u8 (bitsA .and .u8 (((u8 (IntKind.u8.wrap (Int.fdiv a1 (2 ^ (min ((12 : Int)).toNat IntKind.i32.bits))))).toNat : Nat) : Int) (63 : Int))).toNat : Nat) : Int))), (u8 (bitsA .or .u8 (128 : Int) (((u8 (bitsA .and .u8 (((u8 (IntKind.u8.wrap (Int.fdiv a1 (2 ^ (min ((6 : Int)).toNat IntKind.i32.bits))))).toNat : Nat) : Int) (63 : Int))).toNat : Nat) : Int))), (u8 (bitsA .or .u8 (128 : Int) (((u8 (bitsA .and .u8 (((u8 (IntKind.u8.wrap a1)).toNat : Nat) : Int) (63 : Int))).toNat : Nat) : Int)))] : List UInt8))).length * 1)))]) rfl (inT [] []) (doneA (.inr rfl) rfl ⟨trivial, trivial⟩ (.refl _) (hasCons rfl hasNil)))
          · refine AWc.cF c85 ?_
            refine AWc.seq ?_
            obtain ⟨b117, h⟩ := gd_some h
            refine AWc.rE hmix [.apA byteD a0 ([(239 : UInt8), (191 : UInt8), (189 : UInt8)] : List UInt8) 1 (fun _ => rfl) b117] ?_
            have hr := Option.some.inj h
            subst hr
            exact AWc.ret (canQ (N := 78) (k := 2) (l' := [(4, (.ap 1 1 (List.map byteD (a0 ++ ([(239 : UInt8), (191 : UInt8), (189 : UInt8)] : List UInt8)))))]) (H' := [(1, (.tok ((List.map byteD (a0 ++ ([(239 : UInt8), (191 : UInt8), (189 : UInt8)] : List UInt8))).length * 1)))]) rfl (inT [] []) (doneA (.inr rfl) rfl ⟨trivial, trivial⟩ (.refl _) (hasCons rfl hasNil)))
/-- unicode/utf8.AppendRune -/
def C417 (N : Nat → Nat) : AFunc := { n := 16, params := 2, res := [.tmp 4], body :=
 (.seq (.region false [⟨some 4, .mv (.k .nils), none, []⟩])
 (.seq (.seq (.region false [⟨some 5, .mv (.t 1), none, []⟩,
 ⟨some 6, .cvi .u32 (.t 5), none, [0]⟩,
 ⟨some 7, .bin .leq (.t 6) (.k (.d (.int .u32 127))), none, [1]⟩])
    (.cond (.t 7) (.seq (.region false [⟨some 8, .mv (.t 0), none, []⟩,
 ⟨some 9, .mv (.t 1), none, []⟩,
 ⟨some 10, .cvi .u8 (.t 9), none, [1]⟩,
 ⟨some 11, .bslice 1 1 [(.int .u8 0)] [(0, (.t 10))], none, [2]⟩,
 ⟨some 12, .app (.t 8) (.t 11) 1 1 [(.int .u8 0)], none, [0, 3]⟩,
 ⟨some 4, .mv (.t 12), none, [4, 0, 1, 2, 3]⟩])
      .ret)
     (.skip)))
 (.seq (.region false [⟨some 13, .mv (.t 0), none, []⟩,
 ⟨some 14, .mv (.t 1), none, []⟩,
 ⟨some 15, .call (.k (.d (.fn (N 419)))) [(.t 13), (.t 14)], none, [0, 1]⟩,
 ⟨some 4, .mv (.t 15), none, [2, 0, 1]⟩])
    .ret))) }
def HC417 (P : Program) (N : Nat → Nat) : Prop := HasF P (N 417) (C417 N) ∧ HC419 P N
def f417 (k : Nat) (a0 : (List UInt8)) (a1 : Int) : Option (List UInt8) := cond (decide ((IntKind.u32.wrap a1) ≤ (127 : Int))) (gd ((a0.length + ([(u8 (IntKind.u8.wrap a1))] : List UInt8).length) * 2 * 1 ≤ 281474976710656) (some (a0 ++ ([(u8 (IntKind.u8.wrap a1))] : List UInt8)))) ((f419 k a0 a1).bind fun r29 => some r29)
theorem F417 {P : Program} {N : Nat → Nat} (hmix : P.follows .mixedOrders = true) (hc : HC417 P N) {k : Nat} {a0 : (List UInt8)} {a1 : Int} {r : (List UInt8)} (h : f417 k a0 a1 = some r) :
    ACalls P (N 417) [(.ap 0 1 (List.map byteD a0)), (.d (.int .i32 a1))] [(0, (.tok ((List.map byteD a0).length * 1)))] (.ap 1 1 (List.map byteD r)) [(1, (.tok ((List.map byteD r).length * 1)))] := by
  refine acalls_canon (F := C417 N) hc.1 1 2 rfl ?_
  unfold f417 at h
  dsimp only [C417, startL]
  refine AWc.seq (AWc.rE hmix [] ?_)
  refine AWc.seq (AWc.seq (AWc.rE hmix [] ?_))
  rcases cc h with ⟨c12, h⟩ | ⟨c12, h⟩
  · refine AWc.cT c12 ?_
    refine AWc.seq ?_
    obtain ⟨b20, h⟩ := gd_some h
    refine AWc.rE hmix [.apA byteD a0 ([(u8 (IntKind.u8.wrap a1))] : List UInt8) 1 (fun _ => rfl) b20] ?_
    have hr := Option.some.inj h
    subst hr
    exact AWc.ret (canQ (N := 16) (k := 2) (l' := [(4, (.ap 1 1 (List.map byteD (a0 ++ ([(u8 (IntKind.u8.wrap a1))] : List UInt8)))))]) (H' := [(1, (.tok ((List.map byteD (a0 ++ ([(u8 (IntKind.u8.wrap a1))] : List UInt8))).length * 1)))]) rfl (inT [] []) (doneA (.inr rfl) rfl ⟨trivial, trivial⟩ (.refl _) (hasCons rfl hasNil)))
  · refine AWc.cF c12 ?_
    refine AWc.skip (AWc.seq ?_)
    obtain ⟨r29, e29, h⟩ := bind_some h
    refine AWc.rE hmix [.call (F419 hmix hc.2 e29) [] 2] ?_
    have hr := Option.some.inj h
    subst hr
    exact AWc.ret (canQ (N := 16) (k := 2) (l' := [(4, (.ap 1 1 (List.map byteD r29)))]) (H' := [(1, (.tok ((List.map byteD r29).length * 1)))]) rfl (inT [] []) (doneA (.inr rfl) rfl ⟨trivial, trivial⟩ (.refl _) (hasCons rfl hasNil)))
/-- courant/json.plain -/
def C418 (N : Nat → Nat) : AFunc := { n := 20, params := 1, res := [.tmp 2, .tmp 3], body :=
 (.seq (.region false [⟨some 2, .mv (.k (.d (.int .u8 0))), none, []⟩,
 ⟨some 3, .mv (.k (.d (.bool false))), none, [0]⟩])
 (.seq (.seq (.region false [⟨some 4, .mv (.t 0), none, []⟩])
    (.block 0 (.seq (.seq (.region false [⟨some 6, .bin .eql (.t 4) (.k (.d (.int .u8 34))), none, []⟩,
 ⟨some 5, .mv (.t 6), none, [0]⟩])
       (.cond (.t 5) (.skip)
 (.seq (.region false [⟨some 7, .bin .eql (.t 4) (.k (.d (.int .u8 92))), none, []⟩,
 ⟨some 5, .mv (.t 7), none, [0]⟩])
         (.cond (.t 5) (.skip)
          (.region false [⟨some 8, .bin .eql (.t 4) (.k (.d (.int .u8 47))), none, []⟩,
 ⟨some 5, .mv (.t 8), none, [0]⟩])))))
      (.cond (.t 5) (.seq (.region false [⟨some 9, .mv (.t 0), none, []⟩,
 ⟨some 2, .mv (.t 9), none, [0]⟩,
 ⟨some 3, .mv (.k (.d (.bool true))), none, [1, 0]⟩])
        .ret)
 (.seq (.region false [⟨some 11, .bin .eql (.t 4) (.k (.d (.int .u8 98))), none, []⟩,
 ⟨some 10, .mv (.t 11), none, [0]⟩])
        (.cond (.t 10) (.seq (.region false [⟨some 2, .mv (.k (.d (.int .u8 8))), none, []⟩,
 ⟨some 3, .mv (.k (.d (.bool true))), none, [0]⟩])
          .ret)
 (.seq (.region false [⟨some 13, .bin .eql (.t 4) (.k (.d (.int .u8 102))), none, []⟩,
 ⟨some 12, .mv (.t 13), none, [0]⟩])
          (.cond (.t 12) (.seq (.region false [⟨some 2, .mv (.k (.d (.int .u8 12))), none, []⟩,
 ⟨some 3, .mv (.k (.d (.bool true))), none, [0]⟩])
            .ret)
 (.seq (.region false [⟨some 15, .bin .eql (.t 4) (.k (.d (.int .u8 110))), none, []⟩,
 ⟨some 14, .mv (.t 15), none, [0]⟩])
            (.cond (.t 14) (.seq (.region false [⟨some 2, .mv (.k (.d (.int .u8 10))), none, []⟩,
 ⟨some 3, .mv (.k (.d (.bool true))), none, [0]⟩])
              .ret)
 (.seq (.region false [⟨some 17, .bin .eql (.t 4) (.k (.d (.int .u8 114))), none, []⟩,
 ⟨some 16, .mv (.t 17), none, [0]⟩])
              (.cond (.t 16) (.seq (.region false [⟨some 2, .mv (.k (.d (.int .u8 13))), none, []⟩,
 ⟨some 3, .mv (.k (.d (.bool true))), none, [0]⟩])
                .ret)
 (.seq (.region false [⟨some 19, .bin .eql (.t 4) (.k (.d (.int .u8 116))), none, []⟩,
 ⟨some 18, .mv (.t 19), none, [0]⟩])
                (.cond (.t 18) (.seq (.region false [⟨some 2, .mv (.k (.d (.int .u8 9))), none, []⟩,
 ⟨some 3, .mv (.k (.d (.bool true))), none, [0]⟩])
                  .ret)
                 (.skip)))))))))))))))
 (.seq (.region false [⟨some 2, .mv (.k (.d (.int .u8 0))), none, []⟩,
 ⟨some 3, .mv (.k (.d (.bool false))), none, [0]⟩])
    .ret))) }
def HC418 (P : Program) (N : Nat → Nat) : Prop := HasF P (N 418) (C418 N)
def f418_j31 (k : Nat) (a0 : UInt8) (j31_1 : Bool) : Option (UInt8 × Bool) := cond j31_1 (some (a0, true)) (cond (decide (((a0.toNat : Nat) : Int) = (98 : Int))) (some ((8 : UInt8), true)) (cond (decide (((a0.toNat : Nat) : Int) = (102 : Int))) (some ((12 : UInt8), true)) (cond (decide (((a0.toNat : Nat) : Int) = (110 : Int))) (some ((10 : UInt8), true)) (cond (decide (((a0.toNat : Nat) : Int) = (114 : Int))) (some ((13 : UInt8), true)) (cond (decide (((a0.toNat : Nat) : Int) = (116 : Int))) (some ((9 : UInt8), true)) (some ((0 : UInt8), false)))))))
def f418 (k : Nat) (a0 : UInt8) : Option (UInt8 × Bool) := cond (decide (((a0.toNat : Nat) : Int) = (34 : Int))) (f418_j31 k a0 (decide (((a0.toNat : Nat) : Int) = (34 : Int)))) (cond (decide (((a0.toNat : Nat) : Int) = (92 : Int))) (f418_j31 k a0 (decide (((a0.toNat : Nat) : Int) = (92 : Int)))) (f418_j31 k a0 (decide (((a0.toNat : Nat) : Int) = (47 : Int)))))
theorem F418 {P : Program} {N : Nat → Nat} (hmix : P.follows .mixedOrders = true) (hc : HC418 P N) {k : Nat} {a0 : UInt8} {r : (UInt8 × Bool)} (h : f418 k a0 = some r) :
    ACalls P (N 418) [(.d (.int .u8 ((a0.toNat : Nat) : Int)))] [] (.tup [(.d (.int .u8 ((r.1.toNat : Nat) : Int))), (.d (.bool r.2))]) [] := by
  refine acalls_canon (F := C418 N) hc 0 0 rfl ?_
  unfold f418 at h
  dsimp only [C418, startL]
  refine AWc.seq (AWc.rE hmix [] ?_)
  refine AWc.seq (AWc.seq (AWc.rE hmix [] ?_))
  refine AWc.block ?_
  refine AWc.seqS (N := 20) 0 (fun (z : Bool) => [(0, (.d (.int .u8 ((a0.toNat : Nat) : Int)))), (4, (.d (.int .u8 ((a0.toNat : Nat) : Int)))), (5, (.d (.bool z)))]) (fun z => []) (fun z => f418_j31 k a0 z = some r) rfl_le ?_ ?_
  · refine AWc.seq (AWc.rE hmix [] ?_)
    rcases cc h with ⟨c18, h⟩ | ⟨c18, h⟩
    · refine AWc.cT c18 ?_
      refine AWc.skip ?_
      exact ⟨(decide (((a0.toNat : Nat) : Int) = (34 : Int))), h, (inT [] [])⟩
    · refine AWc.cF c18 ?_
      refine AWc.seq (AWc.rE hmix [] ?_)
      rcases cc h with ⟨c25, h⟩ | ⟨c25, h⟩
      · refine AWc.cT c25 ?_
        refine AWc.skip ?_
        exact ⟨(decide (((a0.toNat : Nat) : Int) = (92 : Int))), h, (inT [] [])⟩
      · refine AWc.cF c25 ?_
        refine AWc.rE hmix [] ?_
        exact ⟨(decide (((a0.toNat : Nat) : Int) = (47 : Int))), h, (inT [] [])⟩
  · intro j31_1 h
    unfold f418_j31 at h
    rcases cc h with ⟨c31, h⟩ | ⟨c31, h⟩
    · refine AWc.cT c31 ?_
      refine AWc.seq (AWc.rE hmix [] ?_)
      have hr := Option.some.inj h
      subst hr
      exact AWc.ret (canQ (N := 20) (k := 0) (l' := [(2, (.d (.int .u8 ((a0.toNat : Nat) : Int)))), (3, (.d (.bool true)))]) (H' := []) rfl (inT [] []) (doneA (.inr rfl) rfl ⟨trivial, ⟨trivial, trivial⟩⟩ (.refl _) hasNil))
    · refine AWc.cF c31 ?_
      refine AWc.seq (AWc.rE hmix [] ?_)
      rcases cc h with ⟨c44, h⟩ | ⟨c44, h⟩
      · refine AWc.cT c44 ?_
        refine AWc.seq (AWc.rE hmix [] ?_)
        have hr := Option.some.inj h
        subst hr
        exact AWc.ret (canQ (N := 20) (k := 0) (l' := [(2, (.d (.int .u8 (((8 : UInt8).toNat : Nat) : Int)))), (3, (.d (.bool true)))]) (H' := []) rfl (inT [] []) (doneA (.inr rfl) rfl ⟨trivial, ⟨trivial, trivial⟩⟩ (.refl _) hasNil))
      · refine AWc.cF c44 ?_
        refine AWc.seq (AWc.rE hmix [] ?_)
        rcases cc h with ⟨c56, h⟩ | ⟨c56, h⟩
        · refine AWc.cT c56 ?_
          refine AWc.seq (AWc.rE hmix [] ?_)
          have hr := Option.some.inj h
          subst hr
          exact AWc.ret (canQ (N := 20) (k := 0) (l' := [(2, (.d (.int .u8 (((12 : UInt8).toNat : Nat) : Int)))), (3, (.d (.bool true)))]) (H' := []) rfl (inT [] []) (doneA (.inr rfl) rfl ⟨trivial, ⟨trivial, trivial⟩⟩ (.refl _) hasNil))
        · refine AWc.cF c56 ?_
          refine AWc.seq (AWc.rE hmix [] ?_)
          rcases cc h with ⟨c68, h⟩ | ⟨c68, h⟩
          · refine AWc.cT c68 ?_
            refine AWc.seq (AWc.rE hmix [] ?_)
            have hr := Option.some.inj h
            subst hr
            exact AWc.ret (canQ (N := 20) (k := 0) (l' := [(2, (.d (.int .u8 (((10 : UInt8).toNat : Nat) : Int)))), (3, (.d (.bool true)))]) (H' := []) rfl (inT [] []) (doneA (.inr rfl) rfl ⟨trivial, ⟨trivial, trivial⟩⟩ (.refl _) hasNil))
          · refine AWc.cF c68 ?_
            refine AWc.seq (AWc.rE hmix [] ?_)
            rcases cc h with ⟨c80, h⟩ | ⟨c80, h⟩
            · refine AWc.cT c80 ?_
              refine AWc.seq (AWc.rE hmix [] ?_)
              have hr := Option.some.inj h
              subst hr
              exact AWc.ret (canQ (N := 20) (k := 0) (l' := [(2, (.d (.int .u8 (((13 : UInt8).toNat : Nat) : Int)))), (3, (.d (.bool true)))]) (H' := []) rfl (inT [] []) (doneA (.inr rfl) rfl ⟨trivial, ⟨trivial, trivial⟩⟩ (.refl _) hasNil))
            · refine AWc.cF c80 ?_
              refine AWc.seq (AWc.rE hmix [] ?_)
              rcases cc h with ⟨c92, h⟩ | ⟨c92, h⟩
              · refine AWc.cT c92 ?_
                refine AWc.seq (AWc.rE hmix [] ?_)
                have hr := Option.some.inj h
                subst hr
                exact AWc.ret (canQ (N := 20) (k := 0) (l' := [(2, (.d (.int .u8 (((9 : UInt8).toNat : Nat) : Int)))), (3, (.d (.bool true)))]) (H' := []) rfl (inT [] []) (doneA (.inr rfl) rfl ⟨trivial, ⟨trivial, trivial⟩⟩ (.refl _) hasNil))
              · refine AWc.cF c92 ?_
                refine AWc.skip (AWc.seq (AWc.rE hmix [] ?_))
                have hr := Option.some.inj h
                subst hr
                exact AWc.ret (canQ (N := 20) (k := 0) (l' := [(2, (.d (.int .u8 (((0 : UInt8).toNat : Nat) : Int)))), (3, (.d (.bool false)))]) (H' := []) rfl (inT [] []) (doneA (.inr rfl) rfl ⟨trivial, ⟨trivial, trivial⟩⟩ (.refl _) hasNil))
/-- (*courant/json.parser).escape -/
def C402 (N : Nat → Nat) : AFunc := { n := 51, params := 1, res := [.tmp 2, .tmp 3], body :=
 (.seq (.region false [⟨some 2, .mv (.k .nils), none, []⟩,
 ⟨some 3, .mv (.k (.d (.bool false))), none, [0]⟩])
 (.seq (.seq (.region false [⟨some 8, .mv (.t 0), none, []⟩,
 ⟨some 9, .call (.k (.d (.fn (N 401)))) [(.t 8), (.k (.d (.int .u8 117)))], none, [0]⟩])
    (.cond (.t 9) (.seq (.region false [⟨some 11, .mv (.t 0), none, []⟩,
 ⟨some 12, .call (.k (.d (.fn (N 416)))) [(.t 11)], none, [0]⟩,
 ⟨some 10, .mv (.t 12), none, [1]⟩,
 ⟨some 13, .ext (.t 10) 0, none, [2]⟩,
 ⟨some 14, .ext (.t 10) 1, none, [2]⟩,
 ⟨some 4, .mv (.t 13), none, [3, 1, 0, 2]⟩,
 ⟨some 5, .mv (.t 14), none, [4, 5, 0, 1, 2, 3]⟩])
 (.seq (.region false [⟨some 15, .mv (.t 4), none, []⟩,
 ⟨some 16, .call (.k (.d (.fn (N 417)))) [(.k .nils), (.t 15)], none, [0]⟩,
 ⟨some 17, .mv (.t 5), none, []⟩,
 ⟨some 2, .mv (.t 16), none, [1, 0]⟩,
 ⟨some 3, .mv (.t 17), none, [2, 3, 0, 1]⟩])
       .ret))
     (.skip)))
 (.seq (.seq (.region true [⟨some 18, .mv (.t 0), none, []⟩,
 ⟨some 19, .nilchk (.t 18), none, [0]⟩,
 ⟨some 20, .faddr (.t 19) 1, none, [1]⟩,
 ⟨some 21, .load (.t 20) 1 false, none, [2]⟩,
 ⟨some 22, .mv (.t 0), none, []⟩,
 ⟨some 23, .nilchk (.t 22), none, [4]⟩,
 ⟨some 24, .faddr (.t 23) 0, none, [5]⟩,
 ⟨some 25, .load (.t 24) 1 false, none, [6]⟩,
 ⟨some 26, .slen (.t 25), none, [7]⟩,
 ⟨some 27, .bin .eql (.t 21) (.t 26), none, [3, 8]⟩])
     (.cond (.t 27) (.seq (.region false [⟨some 2, .mv (.k .nils), none, []⟩,
 ⟨some 3, .mv (.k (.d (.bool false))), none, [0]⟩])
       .ret)
      (.skip)))
 (.seq (.region true [⟨some 29, .mv (.t 0), none, []⟩,
 ⟨some 30, .nilchk (.t 29), none, [0]⟩,
 ⟨some 31, .faddr (.t 30) 0, none, [1]⟩,
 ⟨some 32, .load (.t 31) 1 false, none, [2]⟩,
 ⟨some 33, .mv (.t 0), none, []⟩,
 ⟨some 34, .nilchk (.t 33), none, [4]⟩,
 ⟨some 35, .faddr (.t 34) 1, none, [5]⟩,
 ⟨some 36, .load (.t 35) 1 false, none, [6]⟩,
 ⟨some 37, .idx (.t 32) (.t 36), none, [3, 7]⟩,
 ⟨some 38, .call (.k (.d (.fn (N 418)))) [(.t 37)], none, [8]⟩,
 ⟨some 28, .mv (.t 38), none, [9]⟩,
 ⟨some 39, .ext (.t 28) 0, none, [10]⟩,
 ⟨some 40, .ext (.t 28) 1, none, [10]⟩,
 ⟨some 6, .mv (.t 39), none, [11, 9, 0, 1, 2, 3, 4, 5, 6, 7, 8, 10]⟩,
 ⟨some 7, .mv (.t 40), none, [12, 13, 0, 1, 2, 3, 4, 5, 6, 7, 8, 9, 10, 11]⟩])
 (.seq (.region false [⟨some 41, .mv (.t 0), none, []⟩,
 ⟨some 42, .nilchk (.t 41), none, [0]⟩,
 ⟨some 43, .faddr (.t 42) 1, none, [1]⟩,
 ⟨some 44, .load (.t 43) 1 false, none, [2]⟩,
 ⟨some 45, .bin .add (.t 44) (.k (.d (.int .i64 1))), none, [3]⟩,
 ⟨some 46, .nilchk (.t 41), none, [0, 1, 2, 3, 4]⟩,
 ⟨some 47, .faddr (.t 46) 1, none, [5, 0, 1, 2, 3, 4]⟩,
 ⟨none, .store (.t 47) (.t 45) 1, none, [6, 4, 0, 1, 2, 3]⟩])
 (.seq (.region false [⟨some 48, .mv (.t 6), none, []⟩,
 ⟨some 49, .bslice 1 1 [(.int .u8 0)] [(0, (.t 48))], none, [0]⟩,
 ⟨some 50, .mv (.t 7), none, []⟩,
 ⟨some 2, .mv (.t 49), none, [1, 0]⟩,
 ⟨some 3, .mv (.t 50), none, [2, 3, 0, 1]⟩])
       .ret)))))) }
def HC402 (P : Program) (N : Nat → Nat) : Prop := HasF P (N 402) (C402 N) ∧ HC401 P N ∧ HC416 P N ∧ HC417 P N ∧ HC418 P N
def f402 (k : Nat) (a0 : (List UInt8)) (a1 : Int) : Option ((List UInt8) × Bool × Int) := (f401 k a0 a1 (117 : UInt8)).bind fun r11 => cond r11.1 ((f416 k a0 r11.2).bind fun r17 => (f417 k ([] : List UInt8) r17.1).bind fun r27 => some (r27, r17.2.1, r17.2.2)) (cond (decide (r11.2 = ((a0.length : Nat) : Int))) (some (([] : List UInt8), false, r11.2)) (gd (0 ≤ r11.2 ∧ r11.2 < ((a0.length : Nat) : Int)) ((f418 k (a0.getD (r11.2).toNat 0)).bind fun r67 => some (([r67.1] : List UInt8), r67.2, (IntKind.i64.wrap (r11.2 + (1 : Int)))))))
theorem F402 {P : Program} {N : Nat → Nat} (hmix : P.follows .mixedOrders = true) (hc : HC402 P N) {k : Nat} {a0 : (List UInt8)} {a1 : Int} {r : ((List UInt8) × Bool × Int)} (h : f402 k a0 a1 = some r) :
    ACalls P (N 402) [(.ptr 0 0)] [(0, (.cells [(.d (.str a0)), (.d (.int .i64 a1))]))] (.tup [(.d (.sl (List.map byteD r.1))), (.d (.bool r.2.1))]) [(0, (.cells [(.d (.str a0)), (.d (.int .i64 r.2.2))]))] := by
  refine acalls_canon (F := C402 N) hc.1 1 1 rfl ?_
  unfold f402 at h
  dsimp only [C402, startL]
  refine AWc.seq (AWc.rE hmix [] ?_)
  refine AWc.seq (AWc.seq ?_)
  obtain ⟨r11, e11, h⟩ := bind_some h
  refine AWc.rE hmix [.call (F401 hmix hc.2.1 e11) [] 1] ?_
  rcases cc h with ⟨c12, h⟩ | ⟨c12, h⟩
  · refine AWc.cT c12 ?_
    refine AWc.seq ?_
    obtain ⟨r17, e17, h⟩ := bind_some h
    refine AWc.rE hmix [.call (F416 hmix hc.2.2.1 e17) [] 1] ?_
    refine AWc.seq ?_
    obtain ⟨r27, e27, h⟩ := bind_some h
    refine AWc.rE hmix [.call (ACalls.nilA (F417 hmix hc.2.2.2.1 e27) 0 0 1) [] 2] ?_
    have hr := Option.some.inj h
    subst hr
    exact AWc.ret (canQ (N := 51) (k := 1) (l' := [(2, (.d (.sl (List.map byteD r27)))), (3, (.d (.bool r17.2.1)))]) (H' := [(0, (.cells [(.d (.str a0)), (.d (.int .i64 r17.2.2))]))]) rfl (inT [] []) (doneA (.inr rfl) rfl ⟨trivial, ⟨trivial, trivial⟩⟩ (.refl _) (hasCons rfl hasNil)))
  · refine AWc.cF c12 ?_
    refine AWc.skip (AWc.seq (AWc.seq (AWc.rE hmix [] ?_)))
    rcases cc h with ⟨c47, h⟩ | ⟨c47, h⟩
    · refine AWc.cT c47 ?_
      refine AWc.seq (AWc.rE hmix [] ?_)
      have hr := Option.some.inj h
      subst hr
      exact AWc.ret (canQ (N := 51) (k := 1) (l' := [(2, (.d (.sl (List.map byteD ([] : List UInt8))))), (3, (.d (.bool false)))]) (H' := [(0, (.cells [(.d (.str a0)), (.d (.int .i64 r11.2))]))]) rfl (inT [] []) (doneA (.inr rfl) rfl ⟨trivial, ⟨trivial, trivial⟩⟩ (.refl _) (hasCons rfl hasNil)))
    · refine AWc.cF c47 ?_
      refine AWc.skip (AWc.seq ?_)
      obtain ⟨b66, h⟩ := gd_some h
      obtain ⟨r67, e67, h⟩ := bind_some h
      refine AWc.rE hmix [.sd b66, .call (F418 hmix hc.2.2.2.2 e67) [] 0] ?_
      refine AWc.seq (AWc.rE hmix [] ?_)
      refine AWc.seq (AWc.rE hmix [] ?_)
      have hr := Option.some.inj h
      subst hr
      exact AWc.ret (canQ (N := 51) (k := 1) (l' := [(2, (.d (.sl (List.map byteD ([r67.1] : List UInt8))))), (3, (.d (.bool r67.2)))]) (H' := [(0, (.cells [(.d (.str a0)), (.d (.int .i64 (IntKind.i64.wrap (r11.2 + (1 : Int)))))]))]) rfl (inT [] []) (doneA (.inr rfl) rfl ⟨trivial, ⟨trivial, trivial⟩⟩ (.refl _) (hasCons rfl hasNil)))
/-- (*courant/json.parser).text -/
def C400 (N : Nat → Nat) : AFunc := { n := 103, params := 1, res := [.tmp 2, .tmp 3], body :=
 (.seq (.region false [⟨some 2, .mv (.k (.d (.str []))), none, []⟩,
 ⟨some 3, .mv (.k (.d (.int .i64 0))), none, [0]⟩])
 (.seq (.seq (.region false [⟨some 9, .mv (.t 0), none, []⟩,
 ⟨some 10, .call (.k (.d (.fn (N 401)))) [(.t 9), (.k (.d (.int .u8 34)))], none, [0]⟩,
 ⟨some 11, .un .not (.t 10), none, [1]⟩])
    (.cond (.t 11) (.seq (.region false [⟨some 2, .mv (.k (.d (.str []))), none, []⟩,
 ⟨some 3, .mv (.k (.d (.int .i64 4))), none, [0]⟩])
      .ret)
     (.skip)))
 (.seq (.region false [⟨some 4, .mv (.k .nils), none, []⟩])
 (.seq (.block 0 (.loop (.seq (.seq (.region true [⟨some 12, .mv (.t 0), none, []⟩,
 ⟨some 13, .nilchk (.t 12), none, [0]⟩,
 ⟨some 14, .faddr (.t 13) 1, none, [1]⟩,
 ⟨some 15, .load (.t 14) 1 false, none, [2]⟩,
 ⟨some 16, .mv (.t 0), none, []⟩,
 ⟨some 17, .nilchk (.t 16), none, [4]⟩,
 ⟨some 18, .faddr (.t 17) 0, none, [5]⟩,
 ⟨some 19, .load (.t 18) 1 false, none, [6]⟩,
 ⟨some 20, .slen (.t 19), none, [7]⟩,
 ⟨some 21, .bin .lss (.t 15) (.t 20), none, [3, 8]⟩])
         (.cond (.t 21) (.skip)
          (.exit 0)))
        (.block 1 (.seq (.region true [⟨some 23, .mv (.t 0), none, []⟩,
 ⟨some 24, .nilchk (.t 23), none, [0]⟩,
 ⟨some 25, .faddr (.t 24) 0, none, [1]⟩,
 ⟨some 26, .load (.t 25) 1 false, none, [2]⟩,
 ⟨some 27, .mv (.t 0), none, []⟩,
 ⟨some 28, .nilchk (.t 27), none, [4]⟩,
 ⟨some 29, .faddr (.t 28) 1, none, [5]⟩,
 ⟨some 30, .load (.t 29) 1 false, none, [6]⟩,
 ⟨some 31, .ssl (.t 26) (some (.t 30)) none, none, [3, 7]⟩,
 ⟨some 32, .call (.k (.d (.fn (N 336)))) [(.t 31)], none, [8]⟩,
 ⟨some 22, .mv (.t 32), none, [9]⟩,
 ⟨some 33, .ext (.t 22) 0, none, [10]⟩,
 ⟨some 34, .ext (.t 22) 1, none, [10]⟩,
 ⟨some 5, .mv (.t 33), none, [11, 9, 0, 1, 2, 3, 4, 5, 6, 7, 8, 10]⟩,
 ⟨some 6, .mv (.t 34), none, [12, 13, 0, 1, 2, 3, 4, 5, 6, 7, 8, 9, 10, 11]⟩])
          (.block 2 (.seq (.region false [⟨some 61, .mv (.t 5), none, []⟩,
 ⟨some 62, .bin .eql (.t 61) (.k (.d (.int .i32 34))), none, [0]⟩,
 ⟨some 60, .mv (.t 62), none, [1]⟩])
            (.cond (.t 60) (.seq (.region false [⟨some 63, .mv (.t 0), none, []⟩,
 ⟨some 64, .nilchk (.t 63), none, [0]⟩,
 ⟨some 65, .faddr (.t 64) 1, none, [1]⟩,
 ⟨some 66, .load (.t 65) 1 false, none, [2]⟩,
 ⟨some 67, .bin .add (.t 66) (.k (.d (.int .i64 1))), none, [3]⟩,
 ⟨some 68, .nilchk (.t 63), none, [0, 1, 2, 3, 4]⟩,
 ⟨some 69, .faddr (.t 68) 1, none, [5, 0, 1, 2, 3, 4]⟩,
 ⟨none, .store (.t 69) (.t 67) 1, none, [6, 4, 0, 1, 2, 3]⟩])
 (.seq (.region false [⟨some 70, .mv (.t 4), none, []⟩,
 ⟨some 71, .bs2s (.t 70), none, [0]⟩,
 ⟨some 2, .mv (.t 71), none, [1, 0]⟩,
 ⟨some 3, .mv (.k (.d (.int .i64 0))), none, [2, 0, 1]⟩])
               .ret))
 (.seq (.region false [⟨some 73, .mv (.t 5), none, []⟩,
 ⟨some 74, .bin .eql (.t 73) (.k (.d (.int .i32 92))), none, [0]⟩,
 ⟨some 72, .mv (.t 74), none, [1]⟩])
              (.cond (.t 72) (.seq (.region false [⟨some 75, .mv (.t 0), none, []⟩,
 ⟨some 76, .nilchk (.t 75), none, [0]⟩,
 ⟨some 77, .faddr (.t 76) 1, none, [1]⟩,
 ⟨some 78, .load (.t 77) 1 false, none, [2]⟩,
 ⟨some 79, .bin .add (.t 78) (.k (.d (.int .i64 1))), none, [3]⟩,
 ⟨some 80, .nilchk (.t 75), none, [0, 1, 2, 3, 4]⟩,
 ⟨some 81, .faddr (.t 80) 1, none, [5, 0, 1, 2, 3, 4]⟩,
 ⟨none, .store (.t 81) (.t 79) 1, none, [6, 4, 0, 1, 2, 3]⟩])
 (.seq (.region false [⟨some 83, .mv (.t 0), none, []⟩,
 ⟨some 84, .call (.k (.d (.fn (N 402)))) [(.t 83)], none, [0]⟩,
 ⟨some 82, .mv (.t 84), none, [1]⟩,
 ⟨some 85, .ext (.t 82) 0, none, [2]⟩,
 ⟨some 86, .ext (.t 82) 1, none, [2]⟩,
 ⟨some 7, .mv (.t 85), none, [3, 1, 0, 2]⟩,
 ⟨some 8, .mv (.t 86), none, [4, 5, 0, 1, 2, 3]⟩])
 (.seq (.seq (.region false [⟨some 87, .mv (.t 8), none, []⟩,
 ⟨some 88, .un .not (.t 87), none, [0]⟩])
                   (.cond (.t 88) (.seq (.region false [⟨some 2, .mv (.k (.d (.str []))), none, []⟩,
 ⟨some 3, .mv (.k (.d (.int .i64 4))), none, [0]⟩])
                     .ret)
                    (.skip)))
                  (.region false [⟨some 89, .mv (.t 4), none, []⟩,
 ⟨some 90, .mv (.t 7), none, []⟩,
 ⟨some 91, .app (.t 89) (.t 90) 1 1 [(.int .u8 0)], none, [0, 1]⟩,
 ⟨some 4, .mv (.t 91), none, [2, 0, 1]⟩]))))
 (.seq (.region false [⟨some 93, .mv (.t 5), none, []⟩,
 ⟨some 94, .bin .lss (.t 93) (.k (.d (.int .i32 32))), none, [0]⟩,
 ⟨some 95, .mv (.t 94), none, [1]⟩,
 ⟨some 96, .mv (.t 5), some (95, false), [2]⟩,
 ⟨some 97, .bin .eql (.t 96) (.k (.d (.int .i32 65533))), some (95, false), [3, 2]⟩,
 ⟨some 98, .mv (.t 97), some (95, false), [4, 2]⟩,
 ⟨some 99, .mv (.t 6), some (98, true), [5]⟩,
 ⟨some 100, .bin .eql (.t 99) (.k (.d (.int .i64 1))), some (98, true), [6, 5]⟩,
 ⟨some 101, .pick (.t 98) (.t 100) (.k (.d (.bool false))), some (95, false), [5, 7, 2]⟩,
 ⟨some 102, .pick (.t 95) (.k (.d (.bool true))) (.t 101), none, [2, 8]⟩,
 ⟨some 92, .mv (.t 102), none, [9, 5]⟩])
                (.cond (.t 92) (.seq (.region false [⟨some 2, .mv (.k (.d (.str []))), none, []⟩,
 ⟨some 3, .mv (.k (.d (.int .i64 4))), none, [0]⟩])
                  .ret)
 (.seq (.region true [⟨some 35, .mv (.t 4), none, []⟩,
 ⟨some 36, .mv (.t 0), none, []⟩,
 ⟨some 37, .nilchk (.t 36), none, [1]⟩,
 ⟨some 38, .faddr (.t 37) 0, none, [2]⟩,
 ⟨some 39, .load (.t 38) 1 false, none, [3]⟩,
 ⟨some 40, .mv (.t 0), none, []⟩,
 ⟨some 41, .nilchk (.t 40), none, [5]⟩,
 ⟨some 42, .faddr (.t 41) 1, none, [6]⟩,
 ⟨some 43, .load (.t 42) 1 false, none, [7]⟩,
 ⟨some 44, .mv (.t 0), none, []⟩,
 ⟨some 45, .nilchk (.t 44), none, [9]⟩,
 ⟨some 46, .faddr (.t 45) 1, none, [10]⟩,
 ⟨some 47, .load (.t 46) 1 false, none, [11]⟩,
 ⟨some 48, .mv (.t 6), none, []⟩,
 ⟨some 49, .bin .add (.t 47) (.t 48), none, [12, 13]⟩,
 ⟨some 50, .ssl (.t 39) (some (.t 43)) (some (.t 49)), none, [4, 8, 14]⟩,
 ⟨some 51, .app (.t 35) (.t 50) 1 1 [(.int .u8 0)], none, [0, 15]⟩,
 ⟨some 4, .mv (.t 51), none, [16, 0, 1, 2, 3, 4, 5, 6, 7, 8, 9, 10, 11, 12, 13, 14, 15]⟩])
                  (.region false [⟨some 52, .mv (.t 0), none, []⟩,
 ⟨some 53, .nilchk (.t 52), none, [0]⟩,
 ⟨some 54, .faddr (.t 53) 1, none, [1]⟩,
 ⟨some 55, .load (.t 54) 1 false, none, [2]⟩,
 ⟨some 56, .mv (.t 6), none, []⟩,
 ⟨some 57, .bin .add (.t 55) (.t 56), none, [3, 4]⟩,
 ⟨some 58, .nilchk (.t 52), none, [0, 1, 2, 3, 4, 5]⟩,
 ⟨some 59, .faddr (.t 58) 1, none, [6, 0, 1, 2, 3, 4, 5]⟩,
 ⟨none, .store (.t 59) (.t 57) 1, none, [7, 5, 0, 1, 2, 3, 4]⟩]))))))))))))))
 (.seq (.region false [⟨some 2, .mv (.k (.d (.str []))), none, []⟩,
 ⟨some 3, .mv (.k (.d (.int .i64 4))), none, [0]⟩])
      .ret))))) }
def HC400 (P : Program) (N : Nat → Nat) : Prop := HasF P (N 400) (C400 N) ∧ HC401 P N ∧ HC336 P N ∧ HC402 P N
def f400_j153 (L : (List UInt8) → Int → Option (LR2 Int Unit ((List UInt8) × Int × Int))) (k : Nat) (y26_2 : Int) (r58 : (Int × Int)) (a0 : (List UInt8)) (y26_1 : (List UInt8)) (j153_1 : Bool) : Option (LR2 Int Unit ((List UInt8) × Int × Int)) := cond j153_1 (some (.r (([] : List UInt8), (4 : Int), y26_2))) (gd (0 ≤ y26_2 ∧ y26_2 ≤ (IntKind.i64.wrap (y26_2 + r58.2)) ∧ (IntKind.i64.wrap (y26_2 + r58.2)) ≤ ((a0.length : Nat) : Int)) (gd ((y26_1.length + (sl a0 y26_2 (IntKind.i64.wrap (y26_2 + r58.2))).length) * 2 * 1 ≤ 281474976710656) (L (y26_1 ++ (sl a0 y26_2 (IntKind.i64.wrap (y26_2 + r58.2)))) (IntKind.i64.wrap (y26_2 + r58.2)))))
def f400_l26 (a0 : (List UInt8)) : Nat → (List UInt8) → Int → Option (LR2 Int Unit ((List UInt8) × Int × Int))
  | 0, _, _ => none
  | k + 1, y26_1, y26_2 => cond (decide (y26_2 < ((a0.length : Nat) : Int))) (gd (0 ≤ y26_2 ∧ y26_2 ≤ ((a0.length : Nat) : Int) ∧ ((a0.length : Nat) : Int) ≤ ((a0.length : Nat) : Int)) ((f336 k (sl a0 y26_2 ((a0.length : Nat) : Int))).bind fun r58 => cond (decide (r58.1 = (34 : Int))) (some (.r (y26_1, (0 : Int), (IntKind.i64.wrap (y26_2 + (1 : Int)))))) (cond (decide (r58.1 = (92 : Int))) ((f402 k a0 (IntKind.i64.wrap (y26_2 + (1 : Int)))).bind fun r113 => cond (!r113.2.1) (some (.r (([] : List UInt8), (4 : Int), r113.2.2))) (gd ((y26_1.length + r113.1.length) * 2 * 1 ≤ 281474976710656) (f400_l26 a0 k (y26_1 ++ r113.1) r113.2.2))) (cond (decide (r58.1 < (32 : Int))) (f400_j153 (f400_l26 a0 k) k y26_2 r58 a0 y26_1 true) (cond (decide (r58.1 = (65533 : Int))) (f400_j153 (f400_l26 a0 k) k y26_2 r58 a0 y26_1 (decide (r58.2 = (1 : Int)))) (f400_j153 (f400_l26 a0 k) k y26_2 r58 a0 y26_1 false)))))) (some (.b0 y26_2))
def f400 (k : Nat) (a0 : (List UInt8)) (a1 : Int) : Option ((List UInt8) × Int × Int) := (f401 k a0 a1 (34 : UInt8)).bind fun r11 => cond (!r11.1) (some (([] : List UInt8), (4 : Int), r11.2)) ((f400_l26 a0 k ([] : List UInt8) r11.2).bind fun o26 => (match o26 with | .b0 x26_1 => some (([] : List UInt8), (4 : Int), x26_1) | .r x => some x | _ => none))
theorem F400 {P : Program} {N : Nat → Nat} (hmix : P.follows .mixedOrders = true) (hc : HC400 P N) {k : Nat} {a0 : (List UInt8)} {a1 : Int} {r : ((List UInt8) × Int × Int)} (h : f400 k a0 a1 = some r) :
    ACalls P (N 400) [(.ptr 0 0)] [(0, (.cells [(.d (.str a0)), (.d (.int .i64 a1))]))] (.tup [(.d (.str r.1)), (.d (.int .i64 r.2.1))]) [(0, (.cells [(.d (.str a0)), (.d (.int .i64 r.2.2))]))] := by
  refine acalls_canon (F := C400 N) hc.1 1 1 rfl ?_
  unfold f400 at h
  dsimp only [C400, startL]
  refine AWc.seq (AWc.rE hmix [] ?_)
  refine AWc.seq (AWc.seq ?_)
  obtain ⟨r11, e11, h⟩ := bind_some h
  refine AWc.rE hmix [.call (F401 hmix hc.2.1 e11) [] 1] ?_
  rcases cc h with ⟨c13, h⟩ | ⟨c13, h⟩
  · refine AWc.cT c13 ?_
    refine AWc.seq (AWc.rE hmix [] ?_)
    have hr := Option.some.inj h
    subst hr
    exact AWc.ret (canQ (N := 103) (k := 1) (l' := [(2, (.d (.str ([] : List UInt8)))), (3, (.d (.int .i64 (4 : Int))))]) (H' := [(0, (.cells [(.d (.str a0)), (.d (.int .i64 r11.2))]))]) rfl (inT [] []) (doneA (.inr rfl) rfl ⟨trivial, ⟨trivial, trivial⟩⟩ (.refl _) (hasCons rfl hasNil)))
  · refine AWc.cF c13 ?_
    refine AWc.skip (AWc.seq (AWc.rE hmix [] ?_))
    obtain ⟨o26, h26, h⟩ := bind_some h
    refine AWc.seqS (N := 103) 1 (fun (z : Int) => []) (fun z => [(0, (.cells [(.d (.str a0)), (.d (.int .i64 z))]))]) (fun z => o26 = .b0 z) rfl_le ?_ ?_
    · refine AWc.block ?_
      refine AWc.loopK (N := 103) 2 (fun (x : ((List UInt8) × Int)) => [(0, (.ptr 0 0)), (4, (.ap 1 1 (List.map byteD x.1)))]) (fun x => [(0, (.cells [(.d (.str a0)), (.d (.int .i64 x.2))])), (1, (.tok ((List.map byteD x.1).length * 1)))]) (fun k x => f400_l26 a0 k x.1 x.2 = some o26) k (([] : List UInt8), r11.2) rfl_le (fun x hx => by cases hx) h26 (inT [(1, 1)] [.tok 0]) ?_
      clear h26
      intro k
      rintro ⟨y26_1, y26_2⟩ h26
      dsimp only at h26 ⊢
      rw [f400_l26] at h26
      refine AWc.seq (AWc.seq (AWc.rE hmix [] ?_))
      rcases cc h26 with ⟨c42, h26⟩ | ⟨c42, h26⟩
      · refine AWc.cT c42 ?_
        refine AWc.skip (AWc.block (AWc.seq ?_))
        obtain ⟨b57, h26⟩ := gd_some h26
        obtain ⟨r58, e58, h26⟩ := bind_some h26
        refine AWc.rE hmix [.sd b57, .call (F336 hmix hc.2.2.1 e58) [] 0] ?_
        refine AWc.block (AWc.seq (AWc.rE hmix [] ?_))
        rcases cc h26 with ⟨c71, h26⟩ | ⟨c71, h26⟩
        · refine AWc.cT c71 ?_
          refine AWc.seq (AWc.rE hmix [] ?_)
          refine AWc.seq (AWc.rE hmix [.bs y26_1] ?_)
          cases h26
          dsimp only at h
          have hr := Option.some.inj h
          subst hr
          exact AWc.ret (canQ (N := 103) (k := 1) (l' := [(2, (.d (.str y26_1))), (3, (.d (.int .i64 (0 : Int))))]) (H' := [(0, (.cells [(.d (.str a0)), (.d (.int .i64 (IntKind.i64.wrap (y26_2 + (1 : Int)))))]))]) rfl (inT [] []) (doneA (.inr rfl) rfl ⟨trivial, ⟨trivial, trivial⟩⟩ (.refl _) (hasCons rfl hasNil)))
        · refine AWc.cF c71 ?_
          refine AWc.seq (AWc.rE hmix [] ?_)
          rcases cc h26 with ⟨c97, h26⟩ | ⟨c97, h26⟩
          · refine AWc.cT c97 ?_
            refine AWc.seq (AWc.rE hmix [] ?_)
            refine AWc.seq ?_
            obtain ⟨r113, e113, h26⟩ := bind_some h26
            refine AWc.rE hmix [.call (F402 hmix hc.2.2.2 e113) [] 1] ?_
            refine AWc.seq (AWc.seq (AWc.rE hmix [] ?_))
            rcases cc h26 with ⟨c125, h26⟩ | ⟨c125, h26⟩
            · refine AWc.cT c125 ?_
              refine AWc.seq (AWc.rE hmix [] ?_)
              cases h26
              dsimp only at h
              have hr := Option.some.inj h
              subst hr
              exact AWc.ret (canQ (N := 103) (k := 1) (l' := [(2, (.d (.str ([] : List UInt8)))), (3, (.d (.int .i64 (4 : Int))))]) (H' := [(0, (.cells [(.d (.str a0)), (.d (.int .i64 r113.2.2))]))]) rfl (inT [] []) (doneA (.inr rfl) rfl ⟨trivial, ⟨trivial, trivial⟩⟩ (.refl _) (hasCons rfl hasNil)))
            · refine AWc.cF c125 ?_
              refine AWc.skip ?_
              obtain ⟨b137, h26⟩ := gd_some h26
              refine AWc.rE hmix [.apA byteD y26_1 r113.1 1 (fun _ => rfl) b137] ?_
              exact ⟨((y26_1 ++ r113.1), r113.2.2), h26, (inT [(1, 2)] [])⟩
          · refine AWc.cF c97 ?_
            refine AWc.seqS (N := 103) 2 (fun (z : Bool) => [(0, (.ptr 0 0)), (4, (.ap 1 1 (List.map byteD y26_1))), (6, (.d (.int .i64 r58.2))), (92, (.d (.bool z))), (96, .any), (97, .any), (98, .any), (99, .any), (100, .any), (101, .any)]) (fun z => [(0, (.cells [(.d (.str a0)), (.d (.int .i64 y26_2))])), (1, (.tok ((List.map byteD y26_1).length * 1)))]) (fun z => f400_j153 (f400_l26 a0 k) k y26_2 r58 a0 y26_1 z = some o26) rfl_le ?_ ?_
            · rcases cc h26 with ⟨c144, h26⟩ | ⟨c144, h26⟩
              · refine AWc.rE hmix [.br c144] ?_
                exact ⟨true, h26, (inT [] [])⟩
              · rcases cc h26 with ⟨c147, h26⟩ | ⟨c147, h26⟩
                · refine AWc.rE hmix [.br c144, .br c147] ?_
                  exact ⟨(decide (r58.2 = (1 : Int))), h26, (inT [] [])⟩
                · refine AWc.rE hmix [.br c144, .br c147] ?_
                  exact ⟨false, h26, (inT [] [])⟩
            · intro j153_1 h26
              unfold f400_j153 at h26
              rcases cc h26 with ⟨c153, h26⟩ | ⟨c153, h26⟩
              · refine AWc.cT c153 ?_
                refine AWc.seq (AWc.rE hmix [] ?_)
                cases h26
                dsimp only at h
                have hr := Option.some.inj h
                subst hr
                exact AWc.ret (canQ (N := 103) (k := 1) (l' := [(2, (.d (.str ([] : List UInt8)))), (3, (.d (.int .i64 (4 : Int))))]) (H' := [(0, (.cells [(.d (.str a0)), (.d (.int .i64 y26_2))]))]) rfl (inT [] []) (doneA (.inr rfl) rfl ⟨trivial, ⟨trivial, trivial⟩⟩ (.refl _) (hasCons rfl hasNil)))
              · refine AWc.cF c153 ?_
                refine AWc.seq ?_
                obtain ⟨b178, h26⟩ := gd_some h26
                obtain ⟨b179, h26⟩ := gd_some h26
                refine AWc.rE hmix [.sd b178, .apA byteD y26_1 (sl a0 y26_2 (IntKind.i64.wrap (y26_2 + r58.2))) 1 (fun _ => rfl) b179] ?_
                refine AWc.rE hmix [] ?_
                exact ⟨((y26_1 ++ (sl a0 y26_2 (IntKind.i64.wrap (y26_2 + r58.2)))), (IntKind.i64.wrap (y26_2 + r58.2))), h26, (inT [(1, 2)] [])⟩
      · refine AWc.cF c42 ?_
        cases h26
        dsimp only at h
        refine AWc.exit ?_
        refine inBlk_eq ?_
        exact ⟨y26_2, rfl, (inT [] [])⟩
    · intro x26_1 ho
      subst ho
      dsimp only at h
      refine AWc.seq (AWc.rE hmix [] ?_)
      have hr := Option.some.inj h
      subst hr
      exact AWc.ret (canQ (N := 103) (k := 1) (l' := [(2, (.d (.str ([] : List UInt8)))), (3, (.d (.int .i64 (4 : Int))))]) (H' := [(0, (.cells [(.d (.str a0)), (.d (.int .i64 x26_1))]))]) rfl (inT [] []) (doneA (.inr rfl) rfl ⟨trivial, ⟨trivial, trivial⟩⟩ (.refl _) (hasCons rfl hasNil)))
/-- slices.Index[[]string,string] -/
def C240 (N : Nat → Nat) : AFunc := { n := 19, params := 2, res := [.tmp 4], body :=
 (.seq (.region false [⟨some 4, .mv (.k (.d (.int .i64 0))), none, []⟩])
 (.seq (.seq (.region false [⟨some 6, .mv (.t 0), none, []⟩,
 ⟨some 7, .len (.t 6), none, [0]⟩,
 ⟨some 8, .mv (.k (.d (.int .i64 0))), none, []⟩])
    (.block 0 (.loop (.seq (.region false [⟨some 9, .bin .lss (.t 8) (.t 7), none, []⟩])
 (.seq (.cond (.t 9) (.skip)
         (.exit 0))
 (.seq (.block 1 (.seq (.region false [⟨some 10, .mv (.t 8), none, []⟩,
 ⟨some 5, .mv (.t 10), none, [0]⟩])
 (.seq (.region false [⟨some 11, .mv (.t 1), none, []⟩,
 ⟨some 12, .mv (.t 0), none, []⟩,
 ⟨some 13, .mv (.t 5), none, []⟩,
 ⟨some 14, .iaddr (.t 12) (.t 13) 1, none, [1, 2]⟩,
 ⟨some 15, .load (.t 14) 1 false, none, [3]⟩,
 ⟨some 16, .bin .eql (.t 11) (.t 15), none, [0, 4]⟩])
            (.cond (.t 16) (.seq (.region false [⟨some 17, .mv (.t 5), none, []⟩,
 ⟨some 4, .mv (.t 17), none, [0]⟩])
              .ret)
             (.skip)))))
         (.region false [⟨some 18, .bin .add (.t 8) (.k (.d (.int .i64 1))), none, []⟩,
 ⟨some 8, .mv (.t 18), none, [0]⟩])))))))
 (.seq (.region false [⟨some 4, .mv (.k (.d (.int .i64 (-1)))), none, []⟩])
    .ret))) }
def HC240 (P : Program) (N : Nat → Nat) : Prop := HasF P (N 240) (C240 N)
def f240_l12 (a0 : (List (List UInt8))) (a1 : (List UInt8)) : Nat → Int → Option (LR2 Unit Unit Int)
  | 0, _ => none
  | k + 1, y12_1 => cond (decide (y12_1 < ((a0.length : Nat) : Int))) (gd (0 ≤ y12_1 ∧ y12_1 < ((a0.length : Nat) : Int)) (cond (decide (a1 = (rd a0 y12_1))) (some (.r y12_1)) (f240_l12 a0 a1 k (IntKind.i64.wrap (y12_1 + (1 : Int)))))) (some (.b0 ()))
def f240 (k : Nat) (a0 : (List (List UInt8))) (a1 : (List UInt8)) : Option Int := (f240_l12 a0 a1 k (0 : Int)).bind fun o12 => (match o12 with | .b0 () => some (-1 : Int) | .r x => some x | _ => none)
theorem F240 {P : Program} {N : Nat → Nat} (hmix : P.follows .mixedOrders = true) (hc : HC240 P N) {k : Nat} {a0 : (List (List UInt8))} {a1 : (List UInt8)} {r : Int} (h : f240 k a0 a1 = some r) :
    ACalls P (N 240) [(.d (.sl (List.map D.str a0))), (.d (.str a1))] [] (.d (.int .i64 r)) [] := by
  refine acalls_canon (F := C240 N) hc 0 0 rfl ?_
  unfold f240 at h
  dsimp only [C240, startL]
  refine AWc.seq (AWc.rE hmix [] ?_)
  refine AWc.seq (AWc.seq (AWc.rE hmix [.ln D.str a0] ?_))
  obtain ⟨o12, h12, h⟩ := bind_some h
  refine AWc.block ?_
  refine AWc.loopK (N := 19) 0 (fun (x : Int) => [(0, (.d (.sl (List.map D.str a0)))), (1, (.d (.str a1))), (7, (.d (.int .i64 ((a0.length : Nat) : Int)))), (8, (.d (.int .i64 x)))]) (fun x => []) (fun k x => f240_l12 a0 a1 k x = some o12) k (0 : Int) rfl_le (fun x hx => by cases hx) h12 (inT [] []) ?_
  clear h12
  intro k
  intro y12_1 h12
  rw [f240_l12] at h12
  refine AWc.seq (AWc.rE hmix [] ?_)
  refine AWc.seq ?_
  rcases cc h12 with ⟨c19, h12⟩ | ⟨c19, h12⟩
  · refine AWc.cT c19 ?_
    refine AWc.skip (AWc.seq (AWc.block (AWc.seq (AWc.rE hmix [] ?_))))
    refine AWc.seq ?_
    obtain ⟨b35, h12⟩ := gd_some h12
    refine AWc.rE hmix [.iad D.str a0 1 (fun _ => rfl) b35] ?_
    rcases cc h12 with ⟨c38, h12⟩ | ⟨c38, h12⟩
    · refine AWc.cT c38 ?_
      refine AWc.seq (AWc.rE hmix [] ?_)
      cases h12
      dsimp only at h
      have hr := Option.some.inj h
      subst hr
      exact AWc.ret (canQ (N := 19) (k := 0) (l' := [(4, (.d (.int .i64 y12_1)))]) (H' := []) rfl (inT [] []) (doneA (.inr rfl) rfl ⟨trivial, trivial⟩ (.refl _) hasNil))
    · refine AWc.cF c38 ?_
      refine AWc.skip (AWc.rE hmix [] ?_)
      exact ⟨(IntKind.i64.wrap (y12_1 + (1 : Int))), h12, (inT [] [])⟩
  · refine AWc.cF c19 ?_
    cases h12
    dsimp only at h
    refine AWc.exit ?_
    refine inBlk_eq ?_
    refine AWc.seq (AWc.rE hmix [] ?_)
    have hr := Option.some.inj h
    subst hr
    exact AWc.ret (canQ (N := 19) (k := 0) (l' := [(4, (.d (.int .i64 (-1 : Int))))]) (H' := []) rfl (inT [] []) (doneA (.inr rfl) rfl ⟨trivial, trivial⟩ (.refl _) hasNil))
/-- slices.Contains[[]string,string] -/
def C239 (N : Nat → Nat) : AFunc := { n := 9, params := 2, res := [.tmp 4], body :=
 (.seq (.region false [⟨some 4, .mv (.k (.d (.bool false))), none, []⟩])
 (.seq (.region false [⟨some 5, .mv (.t 0), none, []⟩,
 ⟨some 6, .mv (.t 1), none, []⟩,
 ⟨some 7, .call (.k (.d (.fn (N 240)))) [(.t 5), (.t 6)], none, [0, 1]⟩,
 ⟨some 8, .bin .geq (.t 7) (.k (.d (.int .i64 0))), none, [2]⟩,
 ⟨some 4, .mv (.t 8), none, [3, 2, 0, 1]⟩])
   .ret)) }
def HC239 (P : Program) (N : Nat → Nat) : Prop := HasF P (N 239) (C239 N) ∧ HC240 P N
def f239 (k : Nat) (a0 : (List (List UInt8))) (a1 : (List UInt8)) : Option Bool := (f240 k a0 a1).bind fun r10 => some (decide (r10 ≥ (0 : Int)))
theorem F239 {P : Program} {N : Nat → Nat} (hmix : P.follows .mixedOrders = true) (hc : HC239 P N) {k : Nat} {a0 : (List (List UInt8))} {a1 : (List UInt8)} {r : Bool} (h : f239 k a0 a1 = some r) :
    ACalls P (N 239) [(.d (.sl (List.map D.str a0))), (.d (.str a1))] [] (.d (.bool r)) [] := by
  refine acalls_canon (F := C239 N) hc.1 0 0 rfl ?_
  unfold f239 at h
  dsimp only [C239, startL]
  refine AWc.seq (AWc.rE hmix [] ?_)
  refine AWc.seq ?_
  obtain ⟨r10, e10, h⟩ := bind_some h
  refine AWc.rE hmix [.call (F240 hmix hc.2 e10) [] 0] ?_
  have hr := Option.some.inj h
  subst hr
  exact AWc.ret (canQ (N := 9) (k := 0) (l' := [(4, (.d (.bool (decide (r10 ≥ (0 : Int))))))]) (H' := []) rfl (inT [] []) (doneA (.inr rfl) rfl ⟨trivial, trivial⟩ (.refl _) hasNil))
/-- (*courant/json.parser).item -/
def C404 (N : Nat → Nat) : AFunc := { n := 68, params := 3, res := [.tmp 6], body :=
 (.seq (.region false [⟨some 6, .mv (.k (.d (.int .i64 0))), none, []⟩])
 (.seq (.seq (.region false [⟨some 11, .mv (.t 1), none, []⟩,
 ⟨some 12, .nilchk (.t 11), none, [0]⟩,
 ⟨some 13, .faddr (.t 12) 0, none, [1]⟩,
 ⟨some 14, .load (.t 13) 1 false, none, [2]⟩,
 ⟨some 15, .bin .eql (.t 14) (.k (.d (.int .i64 7))), none, [3]⟩])
    (.cond (.t 15) (.seq (.region false [⟨some 16, .mv (.t 0), none, []⟩,
 ⟨some 17, .call (.k (.d (.fn (N 398)))) [(.t 16)], none, [0]⟩])
 (.seq (.region false [⟨some 19, .mv (.t 0), none, []⟩,
 ⟨some 20, .call (.k (.d (.fn (N 400)))) [(.t 19)], none, [0]⟩,
 ⟨some 18, .mv (.t 20), none, [1]⟩,
 ⟨some 21, .ext (.t 18) 0, none, [2]⟩,
 ⟨some 22, .ext (.t 18) 1, none, [2]⟩,
 ⟨some 7, .mv (.t 21), none, [3, 1, 0, 2]⟩,
 ⟨some 8, .mv (.t 22), none, [4, 5, 0, 1, 2, 3]⟩])
 (.seq (.seq (.region false [⟨some 23, .mv (.t 8), none, []⟩,
 ⟨some 24, .bin .neq (.t 23) (.k (.d (.int .i64 0))), none, [0]⟩])
         (.cond (.t 24) (.seq (.region false [⟨some 25, .mv (.t 8), none, []⟩,
 ⟨some 6, .mv (.t 25), none, [0]⟩])
           .ret)
          (.skip)))
 (.seq (.seq (.region false [⟨some 26, .mv (.t 1), none, []⟩,
 ⟨some 27, .nilchk (.t 26), none, [0]⟩,
 ⟨some 28, .faddr (.t 27) 3, none, [1]⟩,
 ⟨some 29, .load (.t 28) 1 false, none, [2]⟩,
 ⟨some 30, .mv (.t 7), none, []⟩,
 ⟨some 31, .call (.k (.d (.fn (N 239)))) [(.t 29), (.t 30)], none, [3, 4]⟩])
          (.cond (.t 31) (.seq (.region false [⟨some 6, .mv (.k (.d (.int .i64 7))), none, []⟩])
            .ret)
           (.skip)))
 (.seq (.region false [⟨some 32, .mv (.t 1), none, []⟩,
 ⟨some 33, .mv (.t 1), none, []⟩,
 ⟨some 34, .nilchk (.t 33), none, [1]⟩,
 ⟨some 35, .faddr (.t 34) 3, none, [2]⟩,
 ⟨some 36, .load (.t 35) 1 false, none, [3]⟩,
 ⟨some 37, .mv (.t 7), none, []⟩,
 ⟨some 38, .bslice 1 1 [(.str [])] [(0, (.t 37))], none, [5]⟩,
 ⟨some 39, .app (.t 36) (.t 38) 1 16 [(.str [])], none, [4, 6]⟩,
 ⟨some 40, .nilchk (.t 32), none, [0, 1, 2, 3, 4, 5, 6, 7]⟩,
 ⟨some 41, .faddr (.t 40) 3, none, [8, 0, 1, 2, 3, 4, 5, 6, 7]⟩,
 ⟨none, .store (.t 41) (.t 39) 1, none, [9, 7, 0, 1, 2, 3, 4, 5, 6]⟩])
 (.seq (.region false [⟨some 42, .mv (.t 0), none, []⟩,
 ⟨some 43, .call (.k (.d (.fn (N 398)))) [(.t 42)], none, [0]⟩])
 (.seq (.region false [⟨some 44, .mv (.t 0), none, []⟩,
 ⟨some 45, .call (.k (.d (.fn (N 401)))) [(.t 44), (.k (.d (.int .u8 58)))], none, [0]⟩,
 ⟨some 46, .un .not (.t 45), none, [1]⟩])
            (.cond (.t 46) (.seq (.region false [⟨some 6, .mv (.k (.d (.int .i64 4))), none, []⟩])
              .ret)
             (.skip)))))))))
     (.skip)))
 (.seq (.region false [⟨some 48, .mv (.t 0), none, []⟩,
 ⟨some 49, .mv (.t 2), none, []⟩,
 ⟨some 50, .bin .add (.t 49) (.k (.d (.int .i64 1))), none, [1]⟩,
 ⟨some 51, .call (.k (.d (.fn (N 397)))) [(.t 48), (.t 50)], none, [0, 2]⟩,
 ⟨some 47, .mv (.t 51), none, [3]⟩,
 ⟨some 52, .ext (.t 47) 0, none, [4]⟩,
 ⟨some 53, .ext (.t 47) 1, none, [4]⟩,
 ⟨some 9, .alloc [(.int .i64 0), (.str []), (.sl []), (.sl [])], none, []⟩,
 ⟨none, .store (.t 9) (.t 52) 4, none, [7, 5, 3, 0, 1, 2, 4]⟩,
 ⟨some 10, .mv (.t 53), none, [6, 8, 0, 1, 2, 3, 4, 5, 7]⟩])
 (.seq (.seq (.region false [⟨some 54, .mv (.t 10), none, []⟩,
 ⟨some 55, .bin .eql (.t 54) (.k (.d (.int .i64 0))), none, [0]⟩])
      (.cond (.t 55) (.region true [⟨some 56, .mv (.t 1), none, []⟩,
 ⟨some 57, .nilchk (.t 56), none, [0]⟩,
 ⟨some 58, .faddr (.t 57) 2, none, [1]⟩,
 ⟨some 59, .load (.t 58) 1 false, none, [2]⟩,
 ⟨some 60, .load (.t 9) 4 true, none, []⟩,
 ⟨some 61, .len (.t 59), none, [3]⟩,
 ⟨some 62, .bslice 1 4 [(.int .i64 0), (.str []), (.sl []), (.sl [])] [(0, (.k (.d (.agg [(.int .i64 0), (.str []), (.sl []), (.sl [])]))))], none, []⟩,
 ⟨some 63, .app (.t 59) (.t 62) 4 72 [(.int .i64 0), (.str []), (.sl []), (.sl [])], none, [3, 6, 0, 1, 2, 4, 5]⟩,
 ⟨some 64, .iaddr (.t 63) (.t 61) 4, none, [7, 5, 0, 1, 2, 3, 4, 6]⟩,
 ⟨none, .store (.t 64) (.t 60) 4, none, [8, 4, 7, 0, 1, 2, 3, 5, 6]⟩,
 ⟨some 65, .nilchk (.t 56), none, [0, 1, 2, 3, 4, 5, 6, 7]⟩,
 ⟨some 66, .faddr (.t 65) 2, none, [10, 0, 1, 2, 3, 4, 5, 6, 7]⟩,
 ⟨none, .store (.t 66) (.t 63) 1, none, [11, 7, 0, 1, 2, 3, 4, 5, 6]⟩])
       (.skip)))
 (.seq (.region false [⟨some 67, .mv (.t 10), none, []⟩,
 ⟨some 6, .mv (.t 67), none, [0]⟩])
      .ret))))) }
def HC404 (P : Program) (N : Nat → Nat) : Prop := HasF P (N 404) (C404 N) ∧ HC398 P N ∧ HC400 P N ∧ HC239 P N ∧ HC401 P N
def f404_j94 (k : Nat) (rc397 : (List UInt8) → Int → Int → Option (Int × Int × (List UInt8) × (List (RT 4)) × (List (List UInt8)) × Int)) (a0 : (List UInt8)) (a4 : Int) (j94_1 : Int) (j94_2 : (List (List UInt8))) : Option (Int × Int × (List (RT 4)) × (List (List UInt8))) := (rc397 a0 j94_1 (IntKind.i64.wrap (a4 + (1 : Int)))).bind fun r100 => cond (decide (r100.1 = (0 : Int))) (gd ((([] : List (RT 4)).length + 1) * 2 * 72 ≤ 281474976710656) (some (r100.1, r100.2.2.2.2.2, (([] : List (RT 4)) ++ [(RT.of TJson.ok (TJson.mk r100.2.1 r100.2.2.1 r100.2.2.2.1 r100.2.2.2.2.1))]), j94_2))) (some (r100.1, r100.2.2.2.2.2, ([] : List (RT 4)), j94_2))
def f404 (rc397 : (List UInt8) → Int → Int → Option (Int × Int × (List UInt8) × (List (RT 4)) × (List (List UInt8)) × Int)) (k : Nat) (a0 : (List UInt8)) (a1 : Int) (a2 : Int) (a3 : (List UInt8)) (a4 : Int) : Option (Int × Int × (List (RT 4)) × (List (List UInt8))) := cond (decide (a2 = (7 : Int))) ((f398 k a0 a1).bind fun r19 => (f400 k a0 r19).bind fun r24 => cond (decide (r24.2.1 ≠ (0 : Int))) (some (r24.2.1, r24.2.2, ([] : List (RT 4)), ([] : List (List UInt8)))) ((f239 k ([] : List (List UInt8)) r24.1).bind fun r53 => cond r53 (some ((7 : Int), r24.2.2, ([] : List (RT 4)), ([] : List (List UInt8)))) (gd (([r24.1] : List (List UInt8)).length * 16 ≤ 281474976710656) ((f398 k a0 r24.2.2).bind fun r79 => (f401 k a0 r79 (58 : UInt8)).bind fun r84 => cond (!r84.1) (some ((4 : Int), r84.2, ([] : List (RT 4)), ([r24.1] : List (List UInt8)))) (f404_j94 k rc397 a0 a4 r84.2 ([r24.1] : List (List UInt8))))))) (f404_j94 k rc397 a0 a4 a1 ([] : List (List UInt8)))
theorem F404 {P : Program} {N : Nat → Nat} (hmix : P.follows .mixedOrders = true) (hc : HC404 P N) {rc397 : (List UInt8) → Int → Int → Option (Int × Int × (List UInt8) × (List (RT 4)) × (List (List UInt8)) × Int)} (hrc397 : RH397 P N rc397) {k : Nat} {a0 : (List UInt8)} {a1 : Int} {a2 : Int} {a3 : (List UInt8)} {a4 : Int} {r : (Int × Int × (List (RT 4)) × (List (List UInt8)))} (h : f404 rc397 k a0 a1 a2 a3 a4 = some r) :
    ACalls P (N 404) [(.ptr 0 0), (.ptr 1 0), (.d (.int .i64 a4))] [(0, (.cells [(.d (.str a0)), (.d (.int .i64 a1))])), (1, (.cells [(.d (.int .i64 a2)), (.d (.str a3)), .nils, .nils]))] (.d (.int .i64 r.1)) [(0, (.cells [(.d (.str a0)), (.d (.int .i64 r.2.1))])), (1, (.cells [(.d (.int .i64 a2)), (.d (.str a3)), (.ap 2 4 (List.map (rtE (z := 4)) r.2.2.1)), (.ap 3 1 (List.map D.str r.2.2.2))])), (2, (.tok ((List.map (rtE (z := 4)) r.2.2.1).length * 4))), (3, (.tok ((List.map D.str r.2.2.2).length * 1)))] := by
  refine acalls_canon (F := C404 N) hc.1 2 4 rfl ?_
  unfold f404 at h
  dsimp only [C404, startL]
  refine AWc.seq (AWc.rE hmix [] ?_)
  refine AWc.seqS (N := 68) 3 (fun (z : (Int × (List (List UInt8)))) => [(0, (.ptr 0 0)), (1, (.ptr 1 0)), (2, (.d (.int .i64 a4)))]) (fun z => [(0, (.cells [(.d (.str a0)), (.d (.int .i64 z.1))])), (1, (.cells [(.d (.int .i64 a2)), (.d (.str a3)), .nils, (.ap 2 1 (List.map D.str z.2))])), (2, (.tok ((List.map D.str z.2).length * 1)))]) (fun z => f404_j94 k rc397 a0 a4 z.1 z.2 = some r) rfl_le ?_ ?_
  · refine AWc.seq (AWc.rE hmix [] ?_)
    rcases cc h with ⟨c14, h⟩ | ⟨c14, h⟩
    · refine AWc.cT c14 ?_
      refine AWc.seq ?_
      obtain ⟨r19, e19, h⟩ := bind_some h
      refine AWc.rE hmix [.call (F398 hmix hc.2.1 e19) [] 1] ?_
      refine AWc.seq ?_
      obtain ⟨r24, e24, h⟩ := bind_some h
      refine AWc.rE hmix [.call (F400 hmix hc.2.2.1 e24) [] 1] ?_
      refine AWc.seq (AWc.seq (AWc.rE hmix [] ?_))
      rcases cc h with ⟨c36, h⟩ | ⟨c36, h⟩
      · refine AWc.cT c36 ?_
        refine AWc.seq (AWc.rE hmix [] ?_)
        have hr := Option.some.inj h
        subst hr
        exact AWc.ret (canQ (N := 68) (k := 4) (l' := [(6, (.d (.int .i64 r24.2.1)))]) (H' := [(0, (.cells [(.d (.str a0)), (.d (.int .i64 r24.2.2))])), (1, (.cells [(.d (.int .i64 a2)), (.d (.str a3)), (.ap 2 4 (List.map (rtE (z := 4)) ([] : List (RT 4)))), (.ap 3 1 (List.map D.str ([] : List (List UInt8))))])), (2, (.tok ((List.map (rtE (z := 4)) ([] : List (RT 4))).length * 4))), (3, (.tok ((List.map D.str ([] : List (List UInt8))).length * 1)))]) rfl (inT [(2, 2), (3, 3)] [.tok 0, .tok 0]) (doneA (.inr rfl) rfl ⟨trivial, trivial⟩ (.refl _) (hasCons rfl (hasCons rfl (hasCons rfl (hasCons rfl hasNil))))))
      · refine AWc.cF c36 ?_
        refine AWc.skip (AWc.seq (AWc.seq ?_))
        obtain ⟨r53, e53, h⟩ := bind_some h
        refine AWc.rE hmix [.call (F239 hmix hc.2.2.2.1 e53) [] 0] ?_
        rcases cc h with ⟨c54, h⟩ | ⟨c54, h⟩
        · refine AWc.cT c54 ?_
          refine AWc.seq (AWc.rE hmix [] ?_)
          have hr := Option.some.inj h
          subst hr
          exact AWc.ret (canQ (N := 68) (k := 4) (l' := [(6, (.d (.int .i64 (7 : Int))))]) (H' := [(0, (.cells [(.d (.str a0)), (.d (.int .i64 r24.2.2))])), (1, (.cells [(.d (.int .i64 a2)), (.d (.str a3)), (.ap 2 4 (List.map (rtE (z := 4)) ([] : List (RT 4)))), (.ap 3 1 (List.map D.str ([] : List (List UInt8))))])), (2, (.tok ((List.map (rtE (z := 4)) ([] : List (RT 4))).length * 4))), (3, (.tok ((List.map D.str ([] : List (List UInt8))).length * 1)))]) rfl (inT [(2, 2), (3, 3)] [.tok 0, .tok 0]) (doneA (.inr rfl) rfl ⟨trivial, trivial⟩ (.refl _) (hasCons rfl (hasCons rfl (hasCons rfl (hasCons rfl hasNil))))))
        · refine AWc.cF c54 ?_
          refine AWc.skip (AWc.seq ?_)
          obtain ⟨b71, h⟩ := gd_some h
          refine AWc.rE hmix [.apN D.str ([r24.1] : List (List UInt8)) 1 (fun _ => rfl) b71] ?_
          refine AWc.seq ?_
          obtain ⟨r79, e79, h⟩ := bind_some h
          refine AWc.rE hmix [.call (F398 hmix hc.2.1 e79) [] 1] ?_
          refine AWc.seq ?_
          obtain ⟨r84, e84, h⟩ := bind_some h
          refine AWc.rE hmix [.call (F401 hmix hc.2.2.2.2 e84) [] 1] ?_
          rcases cc h with ⟨c86, h⟩ | ⟨c86, h⟩
          · refine AWc.cT c86 ?_
            refine AWc.seq (AWc.rE hmix [] ?_)
            have hr := Option.some.inj h
            subst hr
            exact AWc.ret (canQ (N := 68) (k := 4) (l' := [(6, (.d (.int .i64 (4 : Int))))]) (H' := [(0, (.cells [(.d (.str a0)), (.d (.int .i64 r84.2))])), (1, (.cells [(.d (.int .i64 a2)), (.d (.str a3)), (.ap 2 4 (List.map (rtE (z := 4)) ([] : List (RT 4)))), (.ap 3 1 (List.map D.str ([r24.1] : List (List UInt8))))])), (2, (.tok ((List.map (rtE (z := 4)) ([] : List (RT 4))).length * 4))), (3, (.tok ((List.map D.str ([r24.1] : List (List UInt8))).length * 1)))]) rfl (inT [(3, 2), (2, 3)] [.tok 0]) (doneA (.inr rfl) rfl ⟨trivial, trivial⟩ (.refl _) (hasCons rfl (hasCons rfl (hasCons rfl (hasCons rfl hasNil))))))
          · refine AWc.cF c86 ?_
            refine AWc.skip ?_
            exact ⟨(r84.2, ([r24.1] : List (List UInt8))), h, (inT [] [])⟩
    · refine AWc.cF c14 ?_
      refine AWc.skip ?_
      exact ⟨(a1, ([] : List (List UInt8))), h, (inT [(2, 2)] [.tok 0])⟩
  · rintro ⟨j94_1, j94_2⟩ h
    dsimp only at h ⊢
    unfold f404_j94 at h
    refine AWc.seq ?_
    obtain ⟨r100, e100, h⟩ := bind_some h
    refine AWc.rE hmix [.call (hrc397 _ _ _ _ e100) [] 1] ?_
    refine AWc.seq (AWc.seq (AWc.rE hmix [] ?_))
    rcases cc h with ⟨c113, h⟩ | ⟨c113, h⟩
    · refine AWc.cT c113 ?_
      obtain ⟨b123, h⟩ := gd_some h
      refine AWc.rE hmix [.apO (rtE (z := 4)) ([] : List (RT 4)) b123, .iao (rtE (z := 4)) ([] : List (RT 4))] ?_
      refine AWc.clT rtE_ok 4 ([] : List (RT 4)) (RT.of TJson.ok (TJson.mk r100.2.1 r100.2.2.1 r100.2.2.2.1 r100.2.2.2.2.1)) ?_
      refine AWc.seq (AWc.rE hmix [] ?_)
      have hr := Option.some.inj h
      subst hr
      exact AWc.ret (canQ (N := 68) (k := 4) (l' := [(6, (.d (.int .i64 r100.1)))]) (H' := [(0, (.cells [(.d (.str a0)), (.d (.int .i64 r100.2.2.2.2.2))])), (1, (.cells [(.d (.int .i64 a2)), (.d (.str a3)), (.ap 2 4 (List.map (rtE (z := 4)) (([] : List (RT 4)) ++ [(RT.of TJson.ok (TJson.mk r100.2.1 r100.2.2.1 r100.2.2.2.1 r100.2.2.2.2.1))]))), (.ap 3 1 (List.map D.str j94_2))])), (2, (.tok ((List.map (rtE (z := 4)) (([] : List (RT 4)) ++ [(RT.of TJson.ok (TJson.mk r100.2.1 r100.2.2.1 r100.2.2.2.1 r100.2.2.2.2.1))])).length * 4))), (3, (.tok ((List.map D.str j94_2).length * 1)))]) rfl (inT [(2, 4), (3, 2)] []) (doneA (.inr rfl) rfl ⟨trivial, trivial⟩ (.refl _) (hasCons rfl (hasCons rfl (hasCons rfl (hasCons rfl hasNil))))))
    · refine AWc.cF c113 ?_
      refine AWc.skip (AWc.seq (AWc.rE hmix [] ?_))
      have hr := Option.some.inj h
      subst hr
      exact AWc.ret (canQ (N := 68) (k := 4) (l' := [(6, (.d (.int .i64 r100.1)))]) (H' := [(0, (.cells [(.d (.str a0)), (.d (.int .i64 r100.2.2.2.2.2))])), (1, (.cells [(.d (.int .i64 a2)), (.d (.str a3)), (.ap 2 4 (List.map (rtE (z := 4)) ([] : List (RT 4)))), (.ap 3 1 (List.map D.str j94_2))])), (2, (.tok ((List.map (rtE (z := 4)) ([] : List (RT 4))).length * 4))), (3, (.tok ((List.map D.str j94_2).length * 1)))]) rfl (inT [(3, 2), (2, 4)] [.tok 0]) (doneA (.inr rfl) rfl ⟨trivial, trivial⟩ (.refl _) (hasCons rfl (hasCons rfl (hasCons rfl (hasCons rfl hasNil))))))
def HC404v2 (P : Program) (N : Nat → Nat) : Prop := HasF P (N 404) (C404 N) ∧ HC398 P N ∧ HC400 P N ∧ HC239 P N ∧ HC401 P N
def f404v2_j94 (k : Nat) (rc397 : (List UInt8) → Int → Int → Option (Int × Int × (List UInt8) × (List (RT 4)) × (List (List UInt8)) × Int)) (a0 : (List UInt8)) (a6 : Int) (a4 : (List (RT 4))) (j94_1 : Int) (j94_2 : (List (List UInt8))) : Option (Int × Int × (List (RT 4)) × (List (List UInt8))) := (rc397 a0 j94_1 (IntKind.i64.wrap (a6 + (1 : Int)))).bind fun r100 => cond (decide (r100.1 = (0 : Int))) (gd ((a4.length + 1) * 2 * 72 ≤ 281474976710656) (some (r100.1, r100.2.2.2.2.2, (a4 ++ [(RT.of TJson.ok (TJson.mk r100.2.1 r100.2.2.1 r100.2.2.2.1 r100.2.2.2.2.1))]), j94_2))) (some (r100.1, r100.2.2.2.2.2, a4, j94_2))
def f404v2 (rc397 : (List UInt8) → Int → Int → Option (Int × Int × (List UInt8) × (List (RT 4)) × (List (List UInt8)) × Int)) (k : Nat) (a0 : (List UInt8)) (a1 : Int) (a2 : Int) (a3 : (List UInt8)) (a4 : (List (RT 4))) (a5 : (List (List UInt8))) (a6 : Int) : Option (Int × Int × (List (RT 4)) × (List (List UInt8))) := cond (decide (a2 = (7 : Int))) ((f398 k a0 a1).bind fun r19 => (f400 k a0 r19).bind fun r24 => cond (decide (r24.2.1 ≠ (0 : Int))) (some (r24.2.1, r24.2.2, a4, a5)) ((f239 k a5 r24.1).bind fun r53 => cond r53 (some ((7 : Int), r24.2.2, a4, a5)) (gd ((a5.length + ([r24.1] : List (List UInt8)).length) * 2 * 16 ≤ 281474976710656) ((f398 k a0 r24.2.2).bind fun r79 => (f401 k a0 r79 (58 : UInt8)).bind fun r84 => cond (!r84.1) (some ((4 : Int), r84.2, a4, (a5 ++ ([r24.1] : List (List UInt8))))) (f404v2_j94 k rc397 a0 a6 a4 r84.2 (a5 ++ ([r24.1] : List (List UInt8)))))))) (f404v2_j94 k rc397 a0 a6 a4 a1 a5)
theorem F404v2 {P : Program} {N : Nat → Nat} (hmix : P.follows .mixedOrders = true) (hc : HC404v2 P N) {rc397 : (List UInt8) → Int → Int → Option (Int × Int × (List UInt8) × (List (RT 4)) × (List (List UInt8)) × Int)} (hrc397 : RH397 P N rc397) {k : Nat} {a0 : (List UInt8)} {a1 : Int} {a2 : Int} {a3 : (List UInt8)} {a4 : (List (RT 4))} {a5 : (List (List UInt8))} {a6 : Int} {r : (Int × Int × (List (RT 4)) × (List (List UInt8)))} (h : f404v2 rc397 k a0 a1 a2 a3 a4 a5 a6 = some r) :
    ACalls P (N 404) [(.ptr 0 0), (.ptr 1 0), (.d (.int .i64 a6))] [(0, (.cells [(.d (.str a0)), (.d (.int .i64 a1))])), (1, (.cells [(.d (.int .i64 a2)), (.d (.str a3)), (.ap 2 4 (List.map (rtE (z := 4)) a4)), (.ap 3 1 (List.map D.str a5))])), (2, (.tok ((List.map (rtE (z := 4)) a4).length * 4))), (3, (.tok ((List.map D.str a5).length * 1)))] (.d (.int .i64 r.1)) [(0, (.cells [(.d (.str a0)), (.d (.int .i64 r.2.1))])), (1, (.cells [(.d (.int .i64 a2)), (.d (.str a3)), (.ap 4 4 (List.map (rtE (z := 4)) r.2.2.1)), (.ap 5 1 (List.map D.str r.2.2.2))])), (4, (.tok ((List.map (rtE (z := 4)) r.2.2.1).length * 4))), (5, (.tok ((List.map D.str r.2.2.2).length * 1)))] := by
  refine acalls_canon (F := C404 N) hc.1 4 6 rfl ?_
  unfold f404v2 at h
  dsimp only [C404, startL]
  refine AWc.seq (AWc.rE hmix [] ?_)
  refine AWc.seqS (N := 68) 5 (fun (z : (Int × (List (List UInt8)))) => [(0, (.ptr 0 0)), (1, (.ptr 1 0)), (2, (.d (.int .i64 a6)))]) (fun z => [(0, (.cells [(.d (.str a0)), (.d (.int .i64 z.1))])), (1, (.cells [(.d (.int .i64 a2)), (.d (.str a3)), (.ap 2 4 (List.map (rtE (z := 4)) a4)), (.ap 4 1 (List.map D.str z.2))])), (2, (.tok ((List.map (rtE (z := 4)) a4).length * 4))), (4, (.tok ((List.map D.str z.2).length * 1)))]) (fun z => f404v2_j94 k rc397 a0 a6 a4 z.1 z.2 = some r) rfl_le ?_ ?_
  · refine AWc.seq (AWc.rE hmix [] ?_)
    rcases cc h with ⟨c14, h⟩ | ⟨c14, h⟩
    · refine AWc.cT c14 ?_
      refine AWc.seq ?_
      obtain ⟨r19, e19, h⟩ := bind_some h
      refine AWc.rE hmix [.call (F398 hmix hc.2.1 e19) [] 1] ?_
      refine AWc.seq ?_
      obtain ⟨r24, e24, h⟩ := bind_some h
      refine AWc.rE hmix [.call (F400 hmix hc.2.2.1 e24) [] 1] ?_
      refine AWc.seq (AWc.seq (AWc.rE hmix [] ?_))
      rcases cc h with ⟨c36, h⟩ | ⟨c36, h⟩
      · refine AWc.cT c36 ?_
        refine AWc.seq (AWc.rE hmix [] ?_)
        have hr := Option.some.inj h
        subst hr
        exact AWc.ret (canQ (N := 68) (k := 6) (l' := [(6, (.d (.int .i64 r24.2.1)))]) (H' := [(0, (.cells [(.d (.str a0)), (.d (.int .i64 r24.2.2))])), (1, (.cells [(.d (.int .i64 a2)), (.d (.str a3)), (.ap 4 4 (List.map (rtE (z := 4)) a4)), (.ap 5 1 (List.map D.str a5))])), (4, (.tok ((List.map (rtE (z := 4)) a4).length * 4))), (5, (.tok ((List.map D.str a5).length * 1)))]) rfl (inT [(4, 2), (5, 3)] []) (doneA (.inr rfl) rfl ⟨trivial, trivial⟩ (.refl _) (hasCons rfl (hasCons rfl (hasCons rfl (hasCons rfl hasNil))))))
      · refine AWc.cF c36 ?_
        refine AWc.skip (AWc.seq (AWc.seq ?_))
        obtain ⟨r53, e53, h⟩ := bind_some h
        refine AWc.rE hmix [.call (F239 hmix hc.2.2.2.1 e53) [] 0] ?_
        rcases cc h with ⟨c54, h⟩ | ⟨c54, h⟩
        · refine AWc.cT c54 ?_
          refine AWc.seq (AWc.rE hmix [] ?_)
          have hr := Option.some.inj h
          subst hr
          exact AWc.ret (canQ (N := 68) (k := 6) (l' := [(6, (.d (.int .i64 (7 : Int))))]) (H' := [(0, (.cells [(.d (.str a0)), (.d (.int .i64 r24.2.2))])), (1, (.cells [(.d (.int .i64 a2)), (.d (.str a3)), (.ap 4 4 (List.map (rtE (z := 4)) a4)), (.ap 5 1 (List.map D.str a5))])), (4, (.tok ((List.map (rtE (z := 4)) a4).length * 4))), (5, (.tok ((List.map D.str a5).length * 1)))]) rfl (inT [(4, 2), (5, 3)] []) (doneA (.inr rfl) rfl ⟨trivial, trivial⟩ (.refl _) (hasCons rfl (hasCons rfl (hasCons rfl (hasCons rfl hasNil))))))
        · refine AWc.cF c54 ?_
          refine AWc.skip (AWc.seq ?_)
          obtain ⟨b71, h⟩ := gd_some h
          refine AWc.rE hmix [.apA D.str a5 ([r24.1] : List (List UInt8)) 1 (fun _ => rfl) b71] ?_
          refine AWc.seq ?_
          obtain ⟨r79, e79, h⟩ := bind_some h
          refine AWc.rE hmix [.call (F398 hmix hc.2.1 e79) [] 1] ?_
          refine AWc.seq ?_
          obtain ⟨r84, e84, h⟩ := bind_some h
          refine AWc.rE hmix [.call (F401 hmix hc.2.2.2.2 e84) [] 1] ?_
          rcases cc h with ⟨c86, h⟩ | ⟨c86, h⟩
          · refine AWc.cT c86 ?_
            refine AWc.seq (AWc.rE hmix [] ?_)
            have hr := Option.some.inj h
            subst hr
            exact AWc.ret (canQ (N := 68) (k := 6) (l' := [(6, (.d (.int .i64 (4 : Int))))]) (H' := [(0, (.cells [(.d (.str a0)), (.d (.int .i64 r84.2))])), (1, (.cells [(.d (.int .i64 a2)), (.d (.str a3)), (.ap 4 4 (List.map (rtE (z := 4)) a4)), (.ap 5 1 (List.map D.str (a5 ++ ([r24.1] : List (List UInt8)))))])), (4, (.tok ((List.map (rtE (z := 4)) a4).length * 4))), (5, (.tok ((List.map D.str (a5 ++ ([r24.1] : List (List UInt8)))).length * 1)))]) rfl (inT [(4, 2), (5, 4)] []) (doneA (.inr rfl) rfl ⟨trivial, trivial⟩ (.refl _) (hasCons rfl (hasCons rfl (hasCons rfl (hasCons rfl hasNil))))))
          · refine AWc.cF c86 ?_
            refine AWc.skip ?_
            exact ⟨(r84.2, (a5 ++ ([r24.1] : List (List UInt8)))), h, (inT [] [])⟩
    · refine AWc.cF c14 ?_
      refine AWc.skip ?_
      exact ⟨(a1, a5), h, (inT [(4, 3)] [])⟩
  · rintro ⟨j94_1, j94_2⟩ h
    dsimp only at h ⊢
    unfold f404v2_j94 at h
    refine AWc.seq ?_
    obtain ⟨r100, e100, h⟩ := bind_some h
    refine AWc.rE hmix [.call (hrc397 _ _ _ _ e100) [] 1] ?_
    refine AWc.seq (AWc.seq (AWc.rE hmix [] ?_))
    rcases cc h with ⟨c113, h⟩ | ⟨c113, h⟩
    · refine AWc.cT c113 ?_
      obtain ⟨b123, h⟩ := gd_some h
      refine AWc.rE hmix [.ln (rtE (z := 4)) a4, .apO (rtE (z := 4)) a4 b123, .iao (rtE (z := 4)) a4] ?_
      refine AWc.clT rtE_ok 6 a4 (RT.of TJson.ok (TJson.mk r100.2.1 r100.2.2.1 r100.2.2.2.1 r100.2.2.2.2.1)) ?_
      refine AWc.seq (AWc.rE hmix [] ?_)
      have hr := Option.some.inj h
      subst hr
      exact AWc.ret (canQ (N := 68) (k := 6) (l' := [(6, (.d (.int .i64 r100.1)))]) (H' := [(0, (.cells [(.d (.str a0)), (.d (.int .i64 r100.2.2.2.2.2))])), (1, (.cells [(.d (.int .i64 a2)), (.d (.str a3)), (.ap 4 4 (List.map (rtE (z := 4)) (a4 ++ [(RT.of TJson.ok (TJson.mk r100.2.1 r100.2.2.1 r100.2.2.2.1 r100.2.2.2.2.1))]))), (.ap 5 1 (List.map D.str j94_2))])), (4, (.tok ((List.map (rtE (z := 4)) (a4 ++ [(RT.of TJson.ok (TJson.mk r100.2.1 r100.2.2.1 r100.2.2.2.1 r100.2.2.2.2.1))])).length * 4))), (5, (.tok ((List.map D.str j94_2).length * 1)))]) rfl (inT [(4, 6), (5, 4)] []) (doneA (.inr rfl) rfl ⟨trivial, trivial⟩ (.refl _) (hasCons rfl (hasCons rfl (hasCons rfl (hasCons rfl hasNil))))))
    · refine AWc.cF c113 ?_
      refine AWc.skip (AWc.seq (AWc.rE hmix [] ?_))
      have hr := Option.some.inj h
      subst hr
      exact AWc.ret (canQ (N := 68) (k := 6) (l' := [(6, (.d (.int .i64 r100.1)))]) (H' := [(0, (.cells [(.d (.str a0)), (.d (.int .i64 r100.2.2.2.2.2))])), (1, (.cells [(.d (.int .i64 a2)), (.d (.str a3)), (.ap 4 4 (List.map (rtE (z := 4)) a4)), (.ap 5 1 (List.map D.str j94_2))])), (4, (.tok ((List.map (rtE (z := 4)) a4).length * 4))), (5, (.tok ((List.map D.str j94_2).length * 1)))]) rfl (inT [(4, 2), (5, 4)] []) (doneA (.inr rfl) rfl ⟨trivial, trivial⟩ (.refl _) (hasCons rfl (hasCons rfl (hasCons rfl (hasCons rfl hasNil))))))
/-- (*courant/json.parser).many -/
def C403 (N : Nat → Nat) : AFunc := { n := 49, params := 4, res := [.cell 8 4 true, .tmp 9], body :=
 (.seq (.region false [⟨some 8, .alloc [(.int .i64 0), (.str []), (.sl []), (.sl [])], none, []⟩,
 ⟨some 9, .mv (.k (.d (.int .i64 0))), none, []⟩])
 (.seq (.region false [⟨some 12, .mv (.t 1), none, []⟩,
 ⟨some 13, .build [(.int .i64 0), (.str []), (.sl []), (.sl [])] [(0, 1, (.t 12))], none, [0]⟩,
 ⟨some 10, .alloc [(.int .i64 0), (.str []), (.sl []), (.sl [])], none, []⟩,
 ⟨none, .store (.t 10) (.t 13) 4, none, [2, 1, 0]⟩])
 (.seq (.seq (.region false [⟨some 14, .mv (.t 3), none, []⟩,
 ⟨some 15, .bin .geq (.t 14) (.k (.d (.int .i64 64))), none, [0]⟩])
     (.cond (.t 15) (.seq (.region false [⟨some 16, .build [(.int .i64 0), (.str []), (.sl []), (.sl [])] [], none, []⟩,
 ⟨none, .store (.t 8) (.t 16) 4, none, [0]⟩,
 ⟨some 9, .mv (.k (.d (.int .i64 5))), none, [1, 0]⟩])
       .ret)
      (.skip)))
 (.seq (.region false [⟨some 17, .mv (.t 0), none, []⟩,
 ⟨some 18, .nilchk (.t 17), none, [0]⟩,
 ⟨some 19, .faddr (.t 18) 1, none, [1]⟩,
 ⟨some 20, .load (.t 19) 1 false, none, [2]⟩,
 ⟨some 21, .bin .add (.t 20) (.k (.d (.int .i64 1))), none, [3]⟩,
 ⟨some 22, .nilchk (.t 17), none, [0, 1, 2, 3, 4]⟩,
 ⟨some 23, .faddr (.t 22) 1, none, [5, 0, 1, 2, 3, 4]⟩,
 ⟨none, .store (.t 23) (.t 21) 1, none, [6, 4, 0, 1, 2, 3]⟩])
 (.seq (.region false [⟨some 24, .mv (.t 0), none, []⟩,
 ⟨some 25, .call (.k (.d (.fn (N 398)))) [(.t 24)], none, [0]⟩])
 (.seq (.seq (.region false [⟨some 26, .mv (.t 0), none, []⟩,
 ⟨some 27, .mv (.t 2), none, []⟩,
 ⟨some 28, .call (.k (.d (.fn (N 401)))) [(.t 26), (.t 27)], none, [0, 1]⟩])
        (.cond (.t 28) (.seq (.region false [⟨some 29, .load (.t 10) 4 true, none, []⟩,
 ⟨none, .store (.t 8) (.t 29) 4, none, [0]⟩,
 ⟨some 9, .mv (.k (.d (.int .i64 0))), none, [1, 0]⟩])
          .ret)
         (.skip)))
       (.block 0 (.loop (.block 1 (.seq (.seq (.region false [⟨some 30, .mv (.t 0), none, []⟩,
 ⟨some 31, .mv (.t 3), none, []⟩,
 ⟨some 32, .call (.k (.d (.fn (N 404)))) [(.t 30), (.t 10), (.t 31)], none, [0, 1]⟩,
 ⟨some 11, .mv (.t 32), none, [2, 0, 1]⟩])
 (.seq (.region false [⟨some 33, .mv (.t 11), none, []⟩,
 ⟨some 34, .bin .neq (.t 33) (.k (.d (.int .i64 0))), none, [0]⟩])
             (.cond (.t 34) (.seq (.region false [⟨some 35, .build [(.int .i64 0), (.str []), (.sl []), (.sl [])] [], none, []⟩,
 ⟨some 36, .mv (.t 11), none, []⟩,
 ⟨none, .store (.t 8) (.t 35) 4, none, [0]⟩,
 ⟨some 9, .mv (.t 36), none, [1, 2, 0]⟩])
               .ret)
              (.skip))))
 (.seq (.region false [⟨some 37, .mv (.t 0), none, []⟩,
 ⟨some 38, .call (.k (.d (.fn (N 398)))) [(.t 37)], none, [0]⟩])
            (.block 2 (.seq (.region false [⟨some 40, .mv (.t 0), none, []⟩,
 ⟨some 41, .mv (.t 2), none, []⟩,
 ⟨some 42, .call (.k (.d (.fn (N 401)))) [(.t 40), (.t 41)], none, [0, 1]⟩,
 ⟨some 39, .mv (.t 42), none, [2]⟩])
              (.cond (.t 39) (.seq (.region false [⟨some 43, .load (.t 10) 4 true, none, []⟩,
 ⟨none, .store (.t 8) (.t 43) 4, none, [0]⟩,
 ⟨some 9, .mv (.k (.d (.int .i64 0))), none, [1, 0]⟩])
                .ret)
 (.seq (.region false [⟨some 45, .mv (.t 0), none, []⟩,
 ⟨some 46, .call (.k (.d (.fn (N 401)))) [(.t 45), (.k (.d (.int .u8 44)))], none, [0]⟩,
 ⟨some 47, .un .not (.t 46), none, [1]⟩,
 ⟨some 44, .mv (.t 47), none, [2, 1]⟩])
                (.cond (.t 44) (.seq (.region false [⟨some 48, .build [(.int .i64 0), (.str []), (.sl []), (.sl [])] [], none, []⟩,
 ⟨none, .store (.t 8) (.t 48) 4, none, [0]⟩,
 ⟨some 9, .mv (.k (.d (.int .i64 4))), none, [1, 0]⟩])
                  .ret)
                 (.skip))))))))))))))))) }
def HC403 (P : Program) (N : Nat → Nat) : Prop := HasF P (N 403) (C403 N) ∧ HC398 P N ∧ HC401 P N ∧ HC404 P N ∧ HC404v2 P N
def f403_l60 (rc397 : (List UInt8) → Int → Int → Option (Int × Int × (List UInt8) × (List (RT 4)) × (List (List UInt8)) × Int)) (a0 : (List UInt8)) (a2 : Int) (a4 : Int) (a3 : UInt8) : Nat → Int → (List (RT 4)) → (List (List UInt8)) → Option (LR2 Unit Unit (Int × Int × (List (RT 4)) × (List (List UInt8)) × Int))
  | 0, _, _, _ => none
  | k + 1, y60_1, y60_2, y60_3 => (f404v2 rc397 k a0 y60_1 a2 ([] : List UInt8) y60_2 y60_3 a4).bind fun r69 => cond (decide (r69.1 ≠ (0 : Int))) (some (.r (r69.1, (0 : Int), ([] : List (RT 4)), ([] : List (List UInt8)), r69.2.1))) ((f398 k a0 r69.2.1).bind fun r90 => (f401 k a0 r90 a3).bind fun r97 => cond r97.1 (some (.r ((0 : Int), a2, r69.2.2.1, r69.2.2.2, r97.2))) ((f401 k a0 r97.2 (44 : UInt8)).bind fun r111 => cond (!r111.1) (some (.r ((4 : Int), (0 : Int), ([] : List (RT 4)), ([] : List (List UInt8)), r111.2))) (f403_l60 rc397 a0 a2 a4 a3 k r111.2 r69.2.2.1 r69.2.2.2)))
def f403 (rc397 : (List UInt8) → Int → Int → Option (Int × Int × (List UInt8) × (List (RT 4)) × (List (List UInt8)) × Int)) (k : Nat) (a0 : (List UInt8)) (a1 : Int) (a2 : Int) (a3 : UInt8) (a4 : Int) : Option (Int × Int × (List (RT 4)) × (List (List UInt8)) × Int) := cond (decide (a4 ≥ (64 : Int))) (some ((5 : Int), (0 : Int), ([] : List (RT 4)), ([] : List (List UInt8)), a1)) ((f398 k a0 (IntKind.i64.wrap (a1 + (1 : Int)))).bind fun r43 => (f401 k a0 r43 a3).bind fun r50 => cond r50.1 (some ((0 : Int), a2, ([] : List (RT 4)), ([] : List (List UInt8)), r50.2)) ((f403_l60 rc397 a0 a2 a4 a3 k r50.2 ([] : List (RT 4)) ([] : List (List UInt8))).bind fun o60 => (match o60 with | .r x => some x | _ => none)))
theorem F403 {P : Program} {N : Nat → Nat} (hmix : P.follows .mixedOrders = true) (hc : HC403 P N) {rc397 : (List UInt8) → Int → Int → Option (Int × Int × (List UInt8) × (List (RT 4)) × (List (List UInt8)) × Int)} (hrc397 : RH397 P N rc397) {k : Nat} {a0 : (List UInt8)} {a1 : Int} {a2 : Int} {a3 : UInt8} {a4 : Int} {r : (Int × Int × (List (RT 4)) × (List (List UInt8)) × Int)} (h : f403 rc397 k a0 a1 a2 a3 a4 = some r) :
    ACalls P (N 403) [(.ptr 0 0), (.d (.int .i64 a2)), (.d (.int .u8 ((a3.toNat : Nat) : Int))), (.d (.int .i64 a4))] [(0, (.cells [(.d (.str a0)), (.d (.int .i64 a1))]))] (.tup [(.d (.agg [(.int .i64 r.2.1), (.str ([] : List UInt8)), (.sl (List.map (rtE (z := 4)) r.2.2.1)), (.sl (List.map D.str r.2.2.2.1))])), (.d (.int .i64 r.1))]) [(0, (.cells [(.d (.str a0)), (.d (.int .i64 r.2.2.2.2))]))] := by
  refine acalls_canon (F := C403 N) hc.1 1 1 rfl ?_
  unfold f403 at h
  dsimp only [C403, startL]
  refine AWc.seq (AWc.rE hmix [] ?_)
  refine AWc.seq (AWc.rE hmix [.raw] ?_)
  refine AWc.seq (AWc.seq (AWc.rE hmix [] ?_))
  rcases cc h with ⟨c19, h⟩ | ⟨c19, h⟩
  · refine AWc.cT c19 ?_
    refine AWc.seq (AWc.rE hmix [] ?_)
    have hr := Option.some.inj h
    subst hr
    exact AWc.ret (canQ (N := 49) (k := 2) (l' := [(8, (.ptr 1 0)), (9, (.d (.int .i64 (5 : Int))))]) (H' := [(1, (.cells [(.d (.int .i64 (0 : Int))), (.d (.str ([] : List UInt8))), (.d (.sl (List.map (rtE (z := 4)) ([] : List (RT 4))))), (.d (.sl (List.map D.str ([] : List (List UInt8)))))])), (0, (.cells [(.d (.str a0)), (.d (.int .i64 a1))]))]) rfl (inT [] []) (doneA (.inr rfl) rfl ⟨(Nat.le_of_ble_eq_true rfl), ⟨trivial, trivial⟩⟩ (.refl _) (hasCons rfl hasNil)))
  · refine AWc.cF c19 ?_
    refine AWc.skip (AWc.seq (AWc.rE hmix [] ?_))
    refine AWc.seq ?_
    obtain ⟨r43, e43, h⟩ := bind_some h
    refine AWc.rE hmix [.call (F398 hmix hc.2.1 e43) [] 1] ?_
    refine AWc.seq (AWc.seq ?_)
    obtain ⟨r50, e50, h⟩ := bind_some h
    refine AWc.rE hmix [.call (F401 hmix hc.2.2.1 e50) [] 1] ?_
    rcases cc h with ⟨c51, h⟩ | ⟨c51, h⟩
    · refine AWc.cT c51 ?_
      refine AWc.seq (AWc.rE hmix [] ?_)
      have hr := Option.some.inj h
      subst hr
      exact AWc.ret (canQ (N := 49) (k := 2) (l' := [(8, (.ptr 1 0)), (9, (.d (.int .i64 (0 : Int))))]) (H' := [(1, (.cells [(.d (.int .i64 a2)), (.d (.str ([] : List UInt8))), (.d (.sl (List.map (rtE (z := 4)) ([] : List (RT 4))))), (.d (.sl (List.map D.str ([] : List (List UInt8)))))])), (0, (.cells [(.d (.str a0)), (.d (.int .i64 r50.2))]))]) rfl (inT [] []) (doneA (.inr rfl) rfl ⟨(Nat.le_of_ble_eq_true rfl), ⟨trivial, trivial⟩⟩ (.refl _) (hasCons rfl hasNil)))
    · refine AWc.cF c51 ?_
      refine AWc.skip ?_
      obtain ⟨o60, h60, h⟩ := bind_some h
      refine AWc.block ?_
      refine AWc.loopK (N := 49) 5 (fun (x : (Int × (List (RT 4)) × (List (List UInt8)))) => [(0, (.ptr 0 0)), (2, (.d (.int .u8 ((a3.toNat : Nat) : Int)))), (3, (.d (.int .i64 a4))), (8, (.ptr 1 0)), (10, (.ptr 2 0))]) (fun x => [(0, (.cells [(.d (.str a0)), (.d (.int .i64 x.1))])), (1, (.cells [(.d (.int .i64 (0 : Int))), (.d (.str ([] : List UInt8))), .nils, .nils])), (2, (.cells [(.d (.int .i64 a2)), (.d (.str ([] : List UInt8))), (.ap 3 4 (List.map (rtE (z := 4)) x.2.1)), (.ap 4 1 (List.map D.str x.2.2))])), (3, (.tok ((List.map (rtE (z := 4)) x.2.1).length * 4))), (4, (.tok ((List.map D.str x.2.2).length * 1)))]) (fun k x => f403_l60 rc397 a0 a2 a4 a3 k x.1 x.2.1 x.2.2 = some o60) k (r50.2, ([] : List (RT 4)), ([] : List (List UInt8))) rfl_le (fun x hx => by cases hx) h60 (inT [(3, 3), (4, 4)] [.tok 0, .tok 0]) ?_
      clear h60
      intro k
      rintro ⟨y60_1, y60_2, y60_3⟩ h60
      dsimp only at h60 ⊢
      rw [f403_l60] at h60
      refine AWc.block (AWc.seq (AWc.seq ?_))
      obtain ⟨r69, e69, h60⟩ := bind_some h60
      refine AWc.rE hmix [.call (F404v2 hmix hc.2.2.2.2 hrc397 e69) [(1, 2), (2, 3), (3, 4), (4, 5), (5, 6)] 6] ?_
      refine AWc.seq (AWc.rE hmix [] ?_)
      rcases cc h60 with ⟨c76, h60⟩ | ⟨c76, h60⟩
      · refine AWc.cT c76 ?_
        refine AWc.seq (AWc.rE hmix [] ?_)
        cases h60
        dsimp only at h
        have hr := Option.some.inj h
        subst hr
        exact AWc.ret (canQ (N := 49) (k := 2) (l' := [(8, (.ptr 1 0)), (9, (.d (.int .i64 r69.1)))]) (H' := [(1, (.cells [(.d (.int .i64 (0 : Int))), (.d (.str ([] : List UInt8))), (.d (.sl (List.map (rtE (z := 4)) ([] : List (RT 4))))), (.d (.sl (List.map D.str ([] : List (List UInt8)))))])), (0, (.cells [(.d (.str a0)), (.d (.int .i64 r69.2.1))]))]) rfl (inT [] []) (doneA (.inr rfl) rfl ⟨(Nat.le_of_ble_eq_true rfl), ⟨trivial, trivial⟩⟩ (.refl _) (hasCons rfl hasNil)))
      · refine AWc.cF c76 ?_
        refine AWc.skip (AWc.seq ?_)
        obtain ⟨r90, e90, h60⟩ := bind_some h60
        refine AWc.rE hmix [.call (F398 hmix hc.2.1 e90) [] 1] ?_
        refine AWc.block (AWc.seq ?_)
        obtain ⟨r97, e97, h60⟩ := bind_some h60
        refine AWc.rE hmix [.call (F401 hmix hc.2.2.1 e97) [] 1] ?_
        rcases cc h60 with ⟨c99, h60⟩ | ⟨c99, h60⟩
        · refine AWc.cT c99 ?_
          refine AWc.seq (AWc.rE hmix [] ?_)
          cases h60
          dsimp only at h
          have hr := Option.some.inj h
          subst hr
          exact AWc.ret (canQ (N := 49) (k := 2) (l' := [(8, (.ptr 1 0)), (9, (.d (.int .i64 (0 : Int))))]) (H' := [(1, (.cells [(.d (.int .i64 a2)), (.d (.str ([] : List UInt8))), (.d (.sl (List.map (rtE (z := 4)) r69.2.2.1))), (.d (.sl (List.map D.str r69.2.2.2)))])), (0, (.cells [(.d (.str a0)), (.d (.int .i64 r97.2))]))]) rfl (inT [] []) (doneA (.inr rfl) rfl ⟨(Nat.le_of_ble_eq_true rfl), ⟨trivial, trivial⟩⟩ (.refl _) (hasCons rfl hasNil)))
        · refine AWc.cF c99 ?_
          refine AWc.seq ?_
          obtain ⟨r111, e111, h60⟩ := bind_some h60
          refine AWc.rE hmix [.call (F401 hmix hc.2.2.1 e111) [] 1] ?_
          rcases cc h60 with ⟨c114, h60⟩ | ⟨c114, h60⟩
          · refine AWc.cT c114 ?_
            refine AWc.seq (AWc.rE hmix [] ?_)
            cases h60
            dsimp only at h
            have hr := Option.some.inj h
            subst hr
            exact AWc.ret (canQ (N := 49) (k := 2) (l' := [(8, (.ptr 1 0)), (9, (.d (.int .i64 (4 : Int))))]) (H' := [(1, (.cells [(.d (.int .i64 (0 : Int))), (.d (.str ([] : List UInt8))), (.d (.sl (List.map (rtE (z := 4)) ([] : List (RT 4))))), (.d (.sl (List.map D.str ([] : List (List UInt8)))))])), (0, (.cells [(.d (.str a0)), (.d (.int .i64 r111.2))]))]) rfl (inT [] []) (doneA (.inr rfl) rfl ⟨(Nat.le_of_ble_eq_true rfl), ⟨trivial, trivial⟩⟩ (.refl _) (hasCons rfl hasNil)))
          · refine AWc.cF c114 ?_
            refine AWc.skip ?_
            exact ⟨(r111.2, r69.2.2.1, r69.2.2.2), h60, (inT [(3, 5), (4, 6)] [])⟩
/-- courant/json.number -/
def C406 (N : Nat → Nat) : AFunc := { n := 49, params := 1, res := [.tmp 2], body :=
 (.seq (.region false [⟨some 2, .mv (.k (.d (.bool false))), none, []⟩])
 (.seq (.seq (.region false [⟨some 4, .mv (.t 0), none, []⟩,
 ⟨some 5, .slen (.t 4), none, [0]⟩,
 ⟨some 6, .bin .gtr (.t 5) (.k (.d (.int .i64 0))), none, [1]⟩,
 ⟨some 7, .mv (.t 6), none, [2]⟩,
 ⟨some 8, .mv (.t 0), some (7, true), [3]⟩,
 ⟨some 9, .idx (.t 8) (.k (.d (.int .i64 0))), some (7, true), [4, 3]⟩,
 ⟨some 10, .bin .eql (.t 9) (.k (.d (.int .u8 45))), some (7, true), [5, 3]⟩,
 ⟨some 11, .pick (.t 7) (.t 10) (.k (.d (.bool false))), none, [3, 6]⟩])
    (.cond (.t 11) (.seq (.region false [⟨some 12, .mv (.t 0), none, []⟩,
 ⟨some 13, .ssl (.t 12) (some (.k (.d (.int .i64 1)))) none, none, [0]⟩,
 ⟨some 0, .mv (.t 13), none, [1, 0]⟩])
 (.seq (.region false [⟨some 14, .mv (.t 0), none, []⟩,
 ⟨some 15, .bin .eql (.t 14) (.k (.d (.str [48]))), none, [0]⟩])
       (.cond (.t 15) (.seq (.region false [⟨some 2, .mv (.k (.d (.bool false))), none, []⟩])
         .ret)
        (.skip))))
     (.skip)))
 (.seq (.seq (.region false [⟨some 16, .mv (.t 0), none, []⟩,
 ⟨some 17, .slen (.t 16), none, [0]⟩,
 ⟨some 18, .mv (.k (.d (.int .i64 0))), none, []⟩])
     (.block 0 (.loop (.seq (.region false [⟨some 19, .bin .lss (.t 18) (.t 17), none, []⟩])
 (.seq (.cond (.t 19) (.skip)
          (.exit 0))
 (.seq (.block 1 (.seq (.region false [⟨some 20, .mv (.t 18), none, []⟩,
 ⟨some 3, .mv (.t 20), none, [0]⟩])
 (.seq (.region false [⟨some 21, .mv (.t 0), none, []⟩,
 ⟨some 22, .mv (.t 3), none, []⟩,
 ⟨some 23, .idx (.t 21) (.t 22), none, [0, 1]⟩,
 ⟨some 24, .bin .lss (.t 23) (.k (.d (.int .u8 48))), none, [2]⟩,
 ⟨some 25, .mv (.t 24), none, [3]⟩,
 ⟨some 26, .mv (.t 0), some (25, false), [4]⟩,
 ⟨some 27, .mv (.t 3), some (25, false), [4]⟩,
 ⟨some 28, .idx (.t 26) (.t 27), some (25, false), [5, 6, 4]⟩,
 ⟨some 29, .bin .gtr (.t 28) (.k (.d (.int .u8 57))), some (25, false), [7, 4]⟩,
 ⟨some 30, .pick (.t 25) (.k (.d (.bool true))) (.t 29), none, [4, 8]⟩])
             (.cond (.t 30) (.seq (.region false [⟨some 2, .mv (.k (.d (.bool false))), none, []⟩])
               .ret)
              (.skip)))))
          (.region false [⟨some 31, .bin .add (.t 18) (.k (.d (.int .i64 1))), none, []⟩,
 ⟨some 18, .mv (.t 31), none, [0]⟩])))))))
 (.seq (.region false [⟨some 32, .mv (.t 0), none, []⟩,
 ⟨some 33, .bin .eql (.t 32) (.k (.d (.str [48]))), none, [0]⟩,
 ⟨some 34, .mv (.t 33), none, [1]⟩,
 ⟨some 35, .mv (.t 0), some (34, false), [2]⟩,
 ⟨some 36, .slen (.t 35), some (34, false), [3, 2]⟩,
 ⟨some 37, .bin .gtr (.t 36) (.k (.d (.int .i64 0))), some (34, false), [4, 2]⟩,
 ⟨some 38, .mv (.t 37), some (34, false), [5, 2]⟩,
 ⟨some 39, .mv (.t 0), some (38, true), [6]⟩,
 ⟨some 40, .slen (.t 39), some (38, true), [7, 6]⟩,
 ⟨some 41, .bin .leq (.t 40) (.k (.d (.int .i64 19))), some (38, true), [8, 6]⟩,
 ⟨some 42, .pick (.t 38) (.t 41) (.k (.d (.bool false))), some (34, false), [6, 9, 2]⟩,
 ⟨some 43, .mv (.t 42), some (34, false), [10, 6, 2]⟩,
 ⟨some 44, .mv (.t 0), some (43, true), [11]⟩,
 ⟨some 45, .idx (.t 44) (.k (.d (.int .i64 0))), some (43, true), [12, 11]⟩,
 ⟨some 46, .bin .neq (.t 45) (.k (.d (.int .u8 48))), some (43, true), [13, 11]⟩,
 ⟨some 47, .pick (.t 43) (.t 46) (.k (.d (.bool false))), some (34, false), [11, 14, 2]⟩,
 ⟨some 48, .pick (.t 34) (.k (.d (.bool true))) (.t 47), none, [2, 15]⟩,
 ⟨some 2, .mv (.t 48), none, [16, 11, 0, 1, 2, 3, 4, 5, 6, 7, 8, 9, 10, 12, 13, 14, 15]⟩])
     .ret)))) }
def HC406 (P : Program) (N : Nat → Nat) : Prop := HasF P (N 406) (C406 N)
def f406_j85 (k : Nat) (j37_1 : (List UInt8)) : Option Bool := cond (decide (j37_1 = ([48] : List UInt8))) (some true) (cond (decide (((j37_1.length : Nat) : Int) > (0 : Int))) (cond (decide (((j37_1.length : Nat) : Int) ≤ (19 : Int))) (gd (0 ≤ (0 : Int) ∧ (0 : Int) < ((j37_1.length : Nat) : Int)) (some (decide ((((j37_1.getD ((0 : Int)).toNat 0).toNat : Nat) : Int) ≠ (48 : Int))))) (some false)) (some false))
def f406_l44 (j37_1 : (List UInt8)) : Nat → Int → Option (LR2 Unit Unit Bool)
  | 0, _ => none
  | k + 1, y44_1 => cond (decide (y44_1 < ((j37_1.length : Nat) : Int))) (gd (0 ≤ y44_1 ∧ y44_1 < ((j37_1.length : Nat) : Int)) (cond (decide ((((j37_1.getD (y44_1).toNat 0).toNat : Nat) : Int) < (48 : Int))) (some (.r false)) (gd (0 ≤ y44_1 ∧ y44_1 < ((j37_1.length : Nat) : Int)) (cond (decide ((((j37_1.getD (y44_1).toNat 0).toNat : Nat) : Int) > (57 : Int))) (some (.r false)) (f406_l44 j37_1 k (IntKind.i64.wrap (y44_1 + (1 : Int)))))))) (some (.b0 ()))
def f406_j37 (k : Nat) (j37_1 : (List UInt8)) : Option Bool := (f406_l44 j37_1 k (0 : Int)).bind fun o44 => (match o44 with | .b0 () => f406_j85 k j37_1 | .r x => some x | _ => none)
def f406_j17 (k : Nat) (a0 : (List UInt8)) (j17_1 : Bool) : Option Bool := cond j17_1 (gd (0 ≤ (1 : Int) ∧ (1 : Int) ≤ ((a0.length : Nat) : Int) ∧ ((a0.length : Nat) : Int) ≤ ((a0.length : Nat) : Int)) (cond (decide ((sl a0 (1 : Int) ((a0.length : Nat) : Int)) = ([48] : List UInt8))) (some false) (f406_j37 k (sl a0 (1 : Int) ((a0.length : Nat) : Int))))) (f406_j37 k a0)
def f406 (k : Nat) (a0 : (List UInt8)) : Option Bool := cond (decide (((a0.length : Nat) : Int) > (0 : Int))) (gd (0 ≤ (0 : Int) ∧ (0 : Int) < ((a0.length : Nat) : Int)) (f406_j17 k a0 (decide ((((a0.getD ((0 : Int)).toNat 0).toNat : Nat) : Int) = (45 : Int))))) (f406_j17 k a0 false)
theorem F406 {P : Program} {N : Nat → Nat} (hmix : P.follows .mixedOrders = true) (hc : HC406 P N) {k : Nat} {a0 : (List UInt8)} {r : Bool} (h : f406 k a0 = some r) :
    ACalls P (N 406) [(.d (.str a0))] [] (.d (.bool r)) [] := by
  refine acalls_canon (F := C406 N) hc 0 0 rfl ?_
  unfold f406 at h
  dsimp only [C406, startL]
  refine AWc.seq (AWc.rE hmix [] ?_)
  refine AWc.seqS (N := 49) 0 (fun (z : (List UInt8)) => [(0, (.d (.str z)))]) (fun z => []) (fun z => f406_j37 k z = some r) rfl_le ?_ ?_
  · refine AWc.seqS (N := 49) 0 (fun (z : Bool) => [(0, (.d (.str a0))), (11, (.d (.bool z)))]) (fun z => []) (fun z => f406_j17 k a0 z = some r) rfl_le ?_ ?_
    · rcases cc h with ⟨c12, h⟩ | ⟨c12, h⟩
      · obtain ⟨b14, h⟩ := gd_some h
        refine AWc.rE hmix [.br c12, .sd b14] ?_
        exact ⟨(decide ((((a0.getD ((0 : Int)).toNat 0).toNat : Nat) : Int) = (45 : Int))), h, (inT [] [])⟩
      · refine AWc.rE hmix [.br c12] ?_
        exact ⟨false, h, (inT [] [])⟩
    · intro j17_1 h
      unfold f406_j17 at h
      rcases cc h with ⟨c17, h⟩ | ⟨c17, h⟩
      · refine AWc.cT c17 ?_
        refine AWc.seq ?_
        obtain ⟨b22, h⟩ := gd_some h
        refine AWc.rE hmix [.sd b22] ?_
        refine AWc.seq (AWc.rE hmix [] ?_)
        rcases cc h with ⟨c29, h⟩ | ⟨c29, h⟩
        · refine AWc.cT c29 ?_
          refine AWc.seq (AWc.rE hmix [] ?_)
          have hr := Option.some.inj h
          subst hr
          exact AWc.ret (canQ (N := 49) (k := 0) (l' := [(2, (.d (.bool false)))]) (H' := []) rfl (inT [] []) (doneA (.inr rfl) rfl ⟨trivial, trivial⟩ (.refl _) hasNil))
        · refine AWc.cF c29 ?_
          refine AWc.skip ?_
          exact ⟨(sl a0 (1 : Int) ((a0.length : Nat) : Int)), h, (inT [] [])⟩
      · refine AWc.cF c17 ?_
        refine AWc.skip ?_
        exact ⟨a0, h, (inT [] [])⟩
  · intro j37_1 h
    unfold f406_j37 at h
    refine AWc.seqS (N := 49) 0 (fun (z : Unit) => [(0, (.d (.str j37_1)))]) (fun z => []) (fun z => f406_j85 k j37_1 = some r) rfl_le ?_ ?_
    · refine AWc.seq (AWc.rE hmix [] ?_)
      obtain ⟨o44, h44, h⟩ := bind_some h
      refine AWc.block ?_
      refine AWc.loopK (N := 49) 0 (fun (x : Int) => [(0, (.d (.str j37_1))), (17, (.d (.int .i64 ((j37_1.length : Nat) : Int)))), (18, (.d (.int .i64 x)))]) (fun x => []) (fun k x => f406_l44 j37_1 k x = some o44) k (0 : Int) rfl_le (fun x hx => by cases hx) h44 (inT [] []) ?_
      clear h44
      intro k
      intro y44_1 h44
      rw [f406_l44] at h44
      refine AWc.seq (AWc.rE hmix [] ?_)
      refine AWc.seq ?_
      rcases cc h44 with ⟨c51, h44⟩ | ⟨c51, h44⟩
      · refine AWc.cT c51 ?_
        refine AWc.skip (AWc.seq (AWc.block (AWc.seq (AWc.rE hmix [] ?_))))
        refine AWc.seq ?_
        obtain ⟨b66, h44⟩ := gd_some h44
        rcases cc h44 with ⟨c68, h44⟩ | ⟨c68, h44⟩
        · refine AWc.rE hmix [.sd b66, .br c68] ?_
          refine AWc.cT rfl ?_
          refine AWc.seq (AWc.rE hmix [] ?_)
          cases h44
          dsimp only at h
          have hr := Option.some.inj h
          subst hr
          exact AWc.ret (canQ (N := 49) (k := 0) (l' := [(2, (.d (.bool false)))]) (H' := []) rfl (inT [] []) (doneA (.inr rfl) rfl ⟨trivial, trivial⟩ (.refl _) hasNil))
        · obtain ⟨b71, h44⟩ := gd_some h44
          refine AWc.rE hmix [.sd b66, .br c68, .sd b71] ?_
          rcases cc h44 with ⟨c74, h44⟩ | ⟨c74, h44⟩
          · refine AWc.cT c74 ?_
            refine AWc.seq (AWc.rE hmix [] ?_)
            cases h44
            dsimp only at h
            have hr := Option.some.inj h
            subst hr
            exact AWc.ret (canQ (N := 49) (k := 0) (l' := [(2, (.d (.bool false)))]) (H' := []) rfl (inT [] []) (doneA (.inr rfl) rfl ⟨trivial, trivial⟩ (.refl _) hasNil))
          · refine AWc.cF c74 ?_
            refine AWc.skip (AWc.rE hmix [] ?_)
            exact ⟨(IntKind.i64.wrap (y44_1 + (1 : Int))), h44, (inT [] [])⟩
      · refine AWc.cF c51 ?_
        cases h44
        dsimp only at h
        refine AWc.exit ?_
        refine inBlk_eq ?_
        exact ⟨(), h, (inT [] [])⟩
    · rintro ⟨⟩ h
      unfold f406_j85 at h
      refine AWc.seq ?_
      rcases cc h with ⟨c90, h⟩ | ⟨c90, h⟩
      · refine AWc.rE hmix [.br c90] ?_
        have hr := Option.some.inj h
        subst hr
        exact AWc.ret (canQ (N := 49) (k := 0) (l' := [(2, (.d (.bool true)))]) (H' := []) rfl (inT [] []) (doneA (.inr rfl) rfl ⟨trivial, trivial⟩ (.refl _) hasNil))
      · rcases cc h with ⟨c94, h⟩ | ⟨c94, h⟩
        · rcases cc h with ⟨c99, h⟩ | ⟨c99, h⟩
          · obtain ⟨b101, h⟩ := gd_some h
            refine AWc.rE hmix [.br c90, .br c94, .br c99, .sd b101] ?_
            have hr := Option.some.inj h
            subst hr
            exact AWc.ret (canQ (N := 49) (k := 0) (l' := [(2, (.d (.bool (decide ((((j37_1.getD ((0 : Int)).toNat 0).toNat : Nat) : Int) ≠ (48 : Int))))))]) (H' := []) rfl (inT [] []) (doneA (.inr rfl) rfl ⟨trivial, trivial⟩ (.refl _) hasNil))
          · refine AWc.rE hmix [.br c90, .br c94, .br c99] ?_
            have hr := Option.some.inj h
            subst hr
            exact AWc.ret (canQ (N := 49) (k := 0) (l' := [(2, (.d (.bool false)))]) (H' := []) rfl (inT [] []) (doneA (.inr rfl) rfl ⟨trivial, trivial⟩ (.refl _) hasNil))
        · refine AWc.rE hmix [.br c90, .br c94, .br (rfl : false = false)] ?_
          have hr := Option.some.inj h
          subst hr
          exact AWc.ret (canQ (N := 49) (k := 0) (l' := [(2, (.d (.bool false)))]) (H' := []) rfl (inT [] []) (doneA (.inr rfl) rfl ⟨trivial, trivial⟩ (.refl _) hasNil))
/-- (*courant/json.parser).number -/
def C405 (N : Nat → Nat) : AFunc := { n := 89, params := 1, res := [.cell 2 4 true, .tmp 3], body :=
 (.seq (.region false [⟨some 2, .alloc [(.int .i64 0), (.str []), (.sl []), (.sl [])], none, []⟩,
 ⟨some 3, .mv (.k (.d (.int .i64 0))), none, []⟩])
 (.seq (.region false [⟨some 7, .mv (.t 0), none, []⟩,
 ⟨some 8, .nilchk (.t 7), none, [0]⟩,
 ⟨some 9, .faddr (.t 8) 1, none, [1]⟩,
 ⟨some 10, .load (.t 9) 1 false, none, [2]⟩,
 ⟨some 4, .mv (.t 10), none, [3, 0, 1, 2]⟩])
 (.seq (.region false [⟨some 11, .mv (.t 0), none, []⟩,
 ⟨some 12, .call (.k (.d (.fn (N 401)))) [(.t 11), (.k (.d (.int .u8 45)))], none, [0]⟩])
 (.seq (.region false [⟨some 13, .mv (.t 0), none, []⟩,
 ⟨some 14, .nilchk (.t 13), none, [0]⟩,
 ⟨some 15, .faddr (.t 14) 1, none, [1]⟩,
 ⟨some 16, .load (.t 15) 1 false, none, [2]⟩,
 ⟨some 5, .mv (.t 16), none, [3, 0, 1, 2]⟩])
 (.seq (.block 0 (.loop (.seq (.seq (.region true [⟨some 17, .mv (.t 0), none, []⟩,
 ⟨some 18, .nilchk (.t 17), none, [0]⟩,
 ⟨some 19, .faddr (.t 18) 1, none, [1]⟩,
 ⟨some 20, .load (.t 19) 1 false, none, [2]⟩,
 ⟨some 21, .mv (.t 0), none, []⟩,
 ⟨some 22, .nilchk (.t 21), none, [4]⟩,
 ⟨some 23, .faddr (.t 22) 0, none, [5]⟩,
 ⟨some 24, .load (.t 23) 1 false, none, [6]⟩,
 ⟨some 25, .slen (.t 24), none, [7]⟩,
 ⟨some 26, .bin .lss (.t 20) (.t 25), none, [3, 8]⟩,
 ⟨some 27, .mv (.t 26), none, [9]⟩,
 ⟨some 28, .mv (.t 0), some (27, true), [10]⟩,
 ⟨some 29, .nilchk (.t 28), some (27, true), [11, 10]⟩,
 ⟨some 30, .faddr (.t 29) 0, some (27, true), [12, 10]⟩,
 ⟨some 31, .load (.t 30) 1 false, some (27, true), [13, 10]⟩,
 ⟨some 32, .mv (.t 0), some (27, true), [10]⟩,
 ⟨some 33, .nilchk (.t 32), some (27, true), [15, 10]⟩,
 ⟨some 34, .faddr (.t 33) 1, some (27, true), [16, 10]⟩,
 ⟨some 35, .load (.t 34) 1 false, some (27, true), [17, 10]⟩,
 ⟨some 36, .idx (.t 31) (.t 35), some (27, true), [14, 18, 10]⟩,
 ⟨some 37, .bin .geq (.t 36) (.k (.d (.int .u8 48))), some (27, true), [19, 10]⟩,
 ⟨some 38, .pick (.t 27) (.t 37) (.k (.d (.bool false))), none, [10, 20]⟩,
 ⟨some 39, .mv (.t 38), none, [21, 10]⟩,
 ⟨some 40, .mv (.t 0), some (39, true), [22]⟩,
 ⟨some 41, .nilchk (.t 40), some (39, true), [23, 22]⟩,
 ⟨some 42, .faddr (.t 41) 0, some (39, true), [24, 22]⟩,
 ⟨some 43, .load (.t 42) 1 false, some (39, true), [25, 22]⟩,
 ⟨some 44, .mv (.t 0), some (39, true), [22]⟩,
 ⟨some 45, .nilchk (.t 44), some (39, true), [27, 22]⟩,
 ⟨some 46, .faddr (.t 45) 1, some (39, true), [28, 22]⟩,
 ⟨some 47, .load (.t 46) 1 false, some (39, true), [29, 22]⟩,
 ⟨some 48, .idx (.t 43) (.t 47), some (39, true), [26, 30, 22]⟩,
 ⟨some 49, .bin .leq (.t 48) (.k (.d (.int .u8 57))), some (39, true), [31, 22]⟩,
 ⟨some 50, .pick (.t 39) (.t 49) (.k (.d (.bool false))), none, [22, 32]⟩])
          (.cond (.t 50) (.skip)
           (.exit 0)))
         (.block 1 (.region false [⟨some 51, .mv (.t 0), none, []⟩,
 ⟨some 52, .nilchk (.t 51), none, [0]⟩,
 ⟨some 53, .faddr (.t 52) 1, none, [1]⟩,
 ⟨some 54, .load (.t 53) 1 false, none, [2]⟩,
 ⟨some 55, .bin .add (.t 54) (.k (.d (.int .i64 1))), none, [3]⟩,
 ⟨some 56, .nilchk (.t 51), none, [0, 1, 2, 3, 4]⟩,
 ⟨some 57, .faddr (.t 56) 1, none, [5, 0, 1, 2, 3, 4]⟩,
 ⟨none, .store (.t 57) (.t 55) 1, none, [6, 4, 0, 1, 2, 3]⟩])))))
 (.seq (.region true [⟨some 58, .mv (.t 0), none, []⟩,
 ⟨some 59, .nilchk (.t 58), none, [0]⟩,
 ⟨some 60, .faddr (.t 59) 0, none, [1]⟩,
 ⟨some 61, .load (.t 60) 1 false, none, [2]⟩,
 ⟨some 62, .mv (.t 4), none, []⟩,
 ⟨some 63, .mv (.t 0), none, []⟩,
 ⟨some 64, .nilchk (.t 63), none, [5]⟩,
 ⟨some 65, .faddr (.t 64) 1, none, [6]⟩,
 ⟨some 66, .load (.t 65) 1 false, none, [7]⟩,
 ⟨some 67, .ssl (.t 61) (some (.t 62)) (some (.t 66)), none, [3, 4, 8]⟩,
 ⟨some 6, .mv (.t 67), none, [9, 0, 1, 2, 3, 4, 5, 6, 7, 8]⟩])
 (.seq (.seq (.region false [⟨some 68, .mv (.t 6), none, []⟩,
 ⟨some 69, .call (.k (.d (.fn (N 406)))) [(.t 68)], none, [0]⟩,
 ⟨some 70, .un .not (.t 69), none, [1]⟩,
 ⟨some 71, .mv (.t 70), none, [2, 1]⟩,
 ⟨some 72, .mv (.t 6), some (71, true), [3]⟩,
 ⟨some 73, .bin .neq (.t 72) (.k (.d (.str [45, 48]))), some (71, true), [4, 3]⟩,
 ⟨some 74, .pick (.t 71) (.t 73) (.k (.d (.bool false))), none, [3, 5]⟩,
 ⟨some 75, .mv (.t 74), none, [6, 3]⟩,
 ⟨some 76, .mv (.t 0), some (75, false), [7]⟩,
 ⟨some 77, .nilchk (.t 76), some (75, false), [8, 7]⟩,
 ⟨some 78, .faddr (.t 77) 1, some (75, false), [9, 7]⟩,
 ⟨some 79, .load (.t 78) 1 false, some (75, false), [10, 7]⟩,
 ⟨some 80, .mv (.t 5), some (75, false), [7]⟩,
 ⟨some 81, .bin .sub (.t 79) (.t 80), some (75, false), [11, 12, 7]⟩,
 ⟨some 82, .bin .gtr (.t 81) (.k (.d (.int .i64 19))), some (75, false), [13, 7]⟩,
 ⟨some 83, .pick (.t 75) (.k (.d (.bool true))) (.t 82), none, [7, 14]⟩])
         (.cond (.t 83) (.seq (.region false [⟨some 84, .build [(.int .i64 0), (.str []), (.sl []), (.sl [])] [], none, []⟩,
 ⟨none, .store (.t 2) (.t 84) 4, none, [0]⟩,
 ⟨some 3, .mv (.k (.d (.int .i64 4))), none, [1, 0]⟩])
           .ret)
          (.skip)))
 (.seq (.seq (.region false [⟨some 85, .mv (.t 6), none, []⟩,
 ⟨some 86, .bin .eql (.t 85) (.k (.d (.str [45, 48]))), none, [0]⟩])
          (.cond (.t 86) (.region false [⟨some 6, .mv (.k (.d (.str [48]))), none, []⟩])
           (.skip)))
 (.seq (.region false [⟨some 87, .mv (.t 6), none, []⟩,
 ⟨some 88, .build [(.int .i64 0), (.str []), (.sl []), (.sl [])] [(0, 1, (.k (.d (.int .i64 4)))), (1, 1, (.t 87))], none, [0]⟩,
 ⟨none, .store (.t 2) (.t 88) 4, none, [1, 0]⟩,
 ⟨some 3, .mv (.k (.d (.int .i64 0))), none, [2, 0, 1]⟩])
          .ret))))))))) }
def HC405 (P : Program) (N : Nat → Nat) : Prop := HasF P (N 405) (C405 N) ∧ HC401 P N ∧ HC406 P N
def f405_l28 (a0 : (List UInt8)) : Nat → Int → Option (LR2 Int Unit (Int × Int × (List UInt8) × Int))
  | 0, _ => none
  | k + 1, y28_1 => cond (decide (y28_1 < ((a0.length : Nat) : Int))) (gd (0 ≤ y28_1 ∧ y28_1 < ((a0.length : Nat) : Int)) (cond (decide ((((a0.getD (y28_1).toNat 0).toNat : Nat) : Int) ≥ (48 : Int))) (gd (0 ≤ y28_1 ∧ y28_1 < ((a0.length : Nat) : Int)) (cond (decide ((((a0.getD (y28_1).toNat 0).toNat : Nat) : Int) ≤ (57 : Int))) (f405_l28 a0 k (IntKind.i64.wrap (y28_1 + (1 : Int)))) (some (.b0 y28_1)))) (some (.b0 y28_1)))) (some (.b0 y28_1))
def f405_j136 (k : Nat) (x28_1 : Int) (j136_1 : (List UInt8)) : Option (Int × Int × (List UInt8) × Int) := some ((0 : Int), (4 : Int), j136_1, x28_1)
def f405_j116 (k : Nat) (x28_1 : Int) (a0 : (List UInt8)) (a1 : Int) (j116_1 : Bool) : Option (Int × Int × (List UInt8) × Int) := cond j116_1 (some ((4 : Int), (0 : Int), ([] : List UInt8), x28_1)) (cond (decide ((sl a0 a1 x28_1) = ([45, 48] : List UInt8))) (f405_j136 k x28_1 ([48] : List UInt8)) (f405_j136 k x28_1 (sl a0 a1 x28_1)))
def f405 (k : Nat) (a0 : (List UInt8)) (a1 : Int) : Option (Int × Int × (List UInt8) × Int) := (f401 k a0 a1 (45 : UInt8)).bind fun r18 => (f405_l28 a0 k r18.2).bind fun o28 => (match o28 with | .b0 x28_1 => gd (0 ≤ a1 ∧ a1 ≤ x28_1 ∧ x28_1 ≤ ((a0.length : Nat) : Int)) ((f406 k (sl a0 a1 x28_1)).bind fun r101 => cond (!r101) (cond (decide ((sl a0 a1 x28_1) ≠ ([45, 48] : List UInt8))) (f405_j116 k x28_1 a0 a1 true) (f405_j116 k x28_1 a0 a1 (decide ((IntKind.i64.wrap (x28_1 - r18.2)) > (19 : Int))))) (f405_j116 k x28_1 a0 a1 (decide ((IntKind.i64.wrap (x28_1 - r18.2)) > (19 : Int))))) | _ => none)
theorem F405 {P : Program} {N : Nat → Nat} (hmix : P.follows .mixedOrders = true) (hc : HC405 P N) {k : Nat} {a0 : (List UInt8)} {a1 : Int} {r : (Int × Int × (List UInt8) × Int)} (h : f405 k a0 a1 = some r) :
    ACalls P (N 405) [(.ptr 0 0)] [(0, (.cells [(.d (.str a0)), (.d (.int .i64 a1))]))] (.tup [(.d (.agg [(.int .i64 r.2.1), (.str r.2.2.1), (.sl (List.map (rtE (z := 4)) ([] : List (RT 4)))), (.sl (List.map D.str ([] : List (List UInt8))))])), (.d (.int .i64 r.1))]) [(0, (.cells [(.d (.str a0)), (.d (.int .i64 r.2.2.2))]))] := by
  refine acalls_canon (F := C405 N) hc.1 1 1 rfl ?_
  unfold f405 at h
  dsimp only [C405, startL]
  refine AWc.seq (AWc.rE hmix [] ?_)
  refine AWc.seq (AWc.rE hmix [] ?_)
  refine AWc.seq ?_
  obtain ⟨r18, e18, h⟩ := bind_some h
  refine AWc.rE hmix [.call (F401 hmix hc.2.1 e18) [] 1] ?_
  refine AWc.seq (AWc.rE hmix [] ?_)
  obtain ⟨o28, h28, h⟩ := bind_some h
  refine AWc.seqS (N := 89) 2 (fun (z : Int) => [(0, (.ptr 0 0)), (2, (.ptr 1 0)), (4, (.d (.int .i64 a1))), (5, (.d (.int .i64 r18.2)))]) (fun z => [(0, (.cells [(.d (.str a0)), (.d (.int .i64 z))])), (1, (.cells [(.d (.int .i64 (0 : Int))), (.d (.str ([] : List UInt8))), .nils, .nils]))]) (fun z => o28 = .b0 z) rfl_le ?_ ?_
  · refine AWc.block ?_
    refine AWc.loopK (N := 89) 2 (fun (x : Int) => [(0, (.ptr 0 0)), (2, (.ptr 1 0)), (4, (.d (.int .i64 a1))), (5, (.d (.int .i64 r18.2)))]) (fun x => [(0, (.cells [(.d (.str a0)), (.d (.int .i64 x))])), (1, (.cells [(.d (.int .i64 (0 : Int))), (.d (.str ([] : List UInt8))), .nils, .nils]))]) (fun k x => f405_l28 a0 k x = some o28) k r18.2 rfl_le (fun x hx => by cases hx) h28 (inT [] []) ?_
    clear h28
    intro k
    intro y28_1 h28
    rw [f405_l28] at h28
    refine AWc.seq (AWc.seq ?_)
    rcases cc h28 with ⟨c44, h28⟩ | ⟨c44, h28⟩
    · obtain ⟨b53, h28⟩ := gd_some h28
      rcases cc h28 with ⟨c56, h28⟩ | ⟨c56, h28⟩
      · obtain ⟨b65, h28⟩ := gd_some h28
        refine AWc.rE hmix [.br c44, .sd b53, .br c56, .sd b65] ?_
        rcases cc h28 with ⟨c68, h28⟩ | ⟨c68, h28⟩
        · refine AWc.cT c68 ?_
          refine AWc.skip (AWc.block (AWc.rE hmix [] ?_))
          exact ⟨(IntKind.i64.wrap (y28_1 + (1 : Int))), h28, (inT [] [])⟩
        · refine AWc.cF c68 ?_
          cases h28
          dsimp only at h
          refine AWc.exit ?_
          refine inBlk_eq ?_
          exact ⟨y28_1, rfl, (inT [] [])⟩
      · refine AWc.rE hmix [.br c44, .sd b53, .br c56] ?_
        refine AWc.cF rfl ?_
        cases h28
        dsimp only at h
        refine AWc.exit ?_
        refine inBlk_eq ?_
        exact ⟨y28_1, rfl, (inT [] [])⟩
    · refine AWc.rE hmix [.br c44, .br (rfl : false = false)] ?_
      refine AWc.cF rfl ?_
      cases h28
      dsimp only at h
      refine AWc.exit ?_
      refine inBlk_eq ?_
      exact ⟨y28_1, rfl, (inT [] [])⟩
  · intro x28_1 ho
    subst ho
    dsimp only at h
    refine AWc.seq ?_
    obtain ⟨b94, h⟩ := gd_some h
    refine AWc.rE hmix [.sd b94] ?_
    refine AWc.seq ?_
    refine AWc.seqS (N := 89) 2 (fun (z : Bool) => [(2, (.ptr 1 0)), (6, (.d (.str (sl a0 a1 x28_1)))), (83, (.d (.bool z)))]) (fun z => [(1, (.cells [(.d (.int .i64 (0 : Int))), (.d (.str ([] : List UInt8))), .nils, .nils])), (0, (.cells [(.d (.str a0)), (.d (.int .i64 x28_1))]))]) (fun z => f405_j116 k x28_1 a0 a1 z = some r) rfl_le ?_ ?_
    · obtain ⟨r101, e101, h⟩ := bind_some h
      rcases cc h with ⟨c103, h⟩ | ⟨c103, h⟩
      · rcases cc h with ⟨c107, h⟩ | ⟨c107, h⟩
        · refine AWc.rE hmix [.call (F406 hmix hc.2.2 e101) [] 0, .br c103, .br c107] ?_
          exact ⟨true, h, (inT [] [])⟩
        · refine AWc.rE hmix [.call (F406 hmix hc.2.2 e101) [] 0, .br c103, .br c107] ?_
          exact ⟨(decide ((IntKind.i64.wrap (x28_1 - r18.2)) > (19 : Int))), h, (inT [] [])⟩
      · refine AWc.rE hmix [.call (F406 hmix hc.2.2 e101) [] 0, .br c103, .br (rfl : false = false)] ?_
        exact ⟨(decide ((IntKind.i64.wrap (x28_1 - r18.2)) > (19 : Int))), h, (inT [] [])⟩
    · intro j116_1 h
      unfold f405_j116 at h
      rcases cc h with ⟨c116, h⟩ | ⟨c116, h⟩
      · refine AWc.cT c116 ?_
        refine AWc.seq (AWc.rE hmix [] ?_)
        have hr := Option.some.inj h
        subst hr
        exact AWc.ret (canQ (N := 89) (k := 2) (l' := [(2, (.ptr 1 0)), (3, (.d (.int .i64 (4 : Int))))]) (H' := [(1, (.cells [(.d (.int .i64 (0 : Int))), (.d (.str ([] : List UInt8))), (.d (.sl (List.map (rtE (z := 4)) ([] : List (RT 4))))), (.d (.sl (List.map D.str ([] : List (List UInt8)))))])), (0, (.cells [(.d (.str a0)), (.d (.int .i64 x28_1))]))]) rfl (inT [] []) (doneA (.inr rfl) rfl ⟨(Nat.le_of_ble_eq_true rfl), ⟨trivial, trivial⟩⟩ (.refl _) (hasCons rfl hasNil)))
      · refine AWc.cF c116 ?_
        refine AWc.skip ?_
        refine AWc.seqS (N := 89) 2 (fun (z : (List UInt8)) => [(2, (.ptr 1 0)), (6, (.d (.str z)))]) (fun z => [(1, (.cells [(.d (.int .i64 (0 : Int))), (.d (.str ([] : List UInt8))), .nils, .nils])), (0, (.cells [(.d (.str a0)), (.d (.int .i64 x28_1))]))]) (fun z => f405_j136 k x28_1 z = some r) rfl_le ?_ ?_
        · refine AWc.seq (AWc.rE hmix [] ?_)
          rcases cc h with ⟨c131, h⟩ | ⟨c131, h⟩
          · refine AWc.cT c131 ?_
            refine AWc.rE hmix [] ?_
            exact ⟨([48] : List UInt8), h, (inT [] [])⟩
          · refine AWc.cF c131 ?_
            refine AWc.skip ?_
            exact ⟨(sl a0 a1 x28_1), h, (inT [] [])⟩
        · intro j136_1 h
          unfold f405_j136 at h
          refine AWc.seq (AWc.rE hmix [] ?_)
          have hr := Option.some.inj h
          subst hr
          exact AWc.ret (canQ (N := 89) (k := 2) (l' := [(2, (.ptr 1 0)), (3, (.d (.int .i64 (0 : Int))))]) (H' := [(1, (.cells [(.d (.int .i64 (4 : Int))), (.d (.str j136_1)), (.d (.sl (List.map (rtE (z := 4)) ([] : List (RT 4))))), (.d (.sl (List.map D.str ([] : List (List UInt8)))))])), (0, (.cells [(.d (.str a0)), (.d (.int .i64 x28_1))]))]) rfl (inT [] []) (doneA (.inr rfl) rfl ⟨(Nat.le_of_ble_eq_true rfl), ⟨trivial, trivial⟩⟩ (.refl _) (hasCons rfl hasNil)))
/-- (*courant/json.parser).value -/
def C397 (N : Nat → Nat) : AFunc := { n := 79, params := 2, res := [.cell 4 4 true, .tmp 5], body :=
 (.seq (.region false [⟨some 4, .alloc [(.int .i64 0), (.str []), (.sl []), (.sl [])], none, []⟩,
 ⟨some 5, .mv (.k (.d (.int .i64 0))), none, []⟩])
 (.seq (.region false [⟨some 8, .mv (.t 0), none, []⟩,
 ⟨some 9, .call (.k (.d (.fn (N 398)))) [(.t 8)], none, [0]⟩])
 (.seq (.seq (.region true [⟨some 10, .mv (.t 0), none, []⟩,
 ⟨some 11, .nilchk (.t 10), none, [0]⟩,
 ⟨some 12, .faddr (.t 11) 1, none, [1]⟩,
 ⟨some 13, .load (.t 12) 1 false, none, [2]⟩,
 ⟨some 14, .mv (.t 0), none, []⟩,
 ⟨some 15, .nilchk (.t 14), none, [4]⟩,
 ⟨some 16, .faddr (.t 15) 0, none, [5]⟩,
 ⟨some 17, .load (.t 16) 1 false, none, [6]⟩,
 ⟨some 18, .slen (.t 17), none, [7]⟩,
 ⟨some 19, .bin .eql (.t 13) (.t 18), none, [3, 8]⟩])
     (.cond (.t 19) (.seq (.region false [⟨some 20, .build [(.int .i64 0), (.str []), (.sl []), (.sl [])] [], none, []⟩,
 ⟨none, .store (.t 4) (.t 20) 4, none, [0]⟩,
 ⟨some 5, .mv (.k (.d (.int .i64 4))), none, [1, 0]⟩])
       .ret)
      (.skip)))
 (.seq (.seq (.region true [⟨some 21, .mv (.t 0), none, []⟩,
 ⟨some 22, .nilchk (.t 21), none, [0]⟩,
 ⟨some 23, .faddr (.t 22) 0, none, [1]⟩,
 ⟨some 24, .load (.t 23) 1 false, none, [2]⟩,
 ⟨some 25, .mv (.t 0), none, []⟩,
 ⟨some 26, .nilchk (.t 25), none, [4]⟩,
 ⟨some 27, .faddr (.t 26) 1, none, [5]⟩,
 ⟨some 28, .load (.t 27) 1 false, none, [6]⟩,
 ⟨some 29, .idx (.t 24) (.t 28), none, [3, 7]⟩])
      (.block 0 (.seq (.region false [⟨some 31, .bin .eql (.t 29) (.k (.d (.int .u8 110))), none, []⟩,
 ⟨some 30, .mv (.t 31), none, [0]⟩])
        (.cond (.t 30) (.seq (.region false [⟨some 32, .mv (.t 0), none, []⟩,
 ⟨some 33, .call (.k (.d (.fn (N 399)))) [(.t 32), (.k (.d (.str [110, 117, 108, 108]))), (.k (.d (.int .i64 1)))], none, [0]⟩,
 ⟨some 34, .ext (.t 33) 0, none, [1]⟩,
 ⟨some 35, .ext (.t 33) 1, none, [1]⟩,
 ⟨none, .store (.t 4) (.t 34) 4, none, [2, 1, 0, 3]⟩,
 ⟨some 5, .mv (.t 35), none, [3, 4, 0, 1, 2]⟩])
          .ret)
 (.seq (.region false [⟨some 37, .bin .eql (.t 29) (.k (.d (.int .u8 102))), none, []⟩,
 ⟨some 36, .mv (.t 37), none, [0]⟩])
          (.cond (.t 36) (.seq (.region false [⟨some 38, .mv (.t 0), none, []⟩,
 ⟨some 39, .call (.k (.d (.fn (N 399)))) [(.t 38), (.k (.d (.str [102, 97, 108, 115, 101]))), (.k (.d (.int .i64 2)))], none, [0]⟩,
 ⟨some 40, .ext (.t 39) 0, none, [1]⟩,
 ⟨some 41, .ext (.t 39) 1, none, [1]⟩,
 ⟨none, .store (.t 4) (.t 40) 4, none, [2, 1, 0, 3]⟩,
 ⟨some 5, .mv (.t 41), none, [3, 4, 0, 1, 2]⟩])
            .ret)
 (.seq (.region false [⟨some 43, .bin .eql (.t 29) (.k (.d (.int .u8 116))), none, []⟩,
 ⟨some 42, .mv (.t 43), none, [0]⟩])
            (.cond (.t 42) (.seq (.region false [⟨some 44, .mv (.t 0), none, []⟩,
 ⟨some 45, .call (.k (.d (.fn (N 399)))) [(.t 44), (.k (.d (.str [116, 114, 117, 101]))), (.k (.d (.int .i64 3)))], none, [0]⟩,
 ⟨some 46, .ext (.t 45) 0, none, [1]⟩,
 ⟨some 47, .ext (.t 45) 1, none, [1]⟩,
 ⟨none, .store (.t 4) (.t 46) 4, none, [2, 1, 0, 3]⟩,
 ⟨some 5, .mv (.t 47), none, [3, 4, 0, 1, 2]⟩])
              .ret)
 (.seq (.region false [⟨some 49, .bin .eql (.t 29) (.k (.d (.int .u8 34))), none, []⟩,
 ⟨some 48, .mv (.t 49), none, [0]⟩])
              (.cond (.t 48) (.seq (.region false [⟨some 51, .mv (.t 0), none, []⟩,
 ⟨some 52, .call (.k (.d (.fn (N 400)))) [(.t 51)], none, [0]⟩,
 ⟨some 50, .mv (.t 52), none, [1]⟩,
 ⟨some 53, .ext (.t 50) 0, none, [2]⟩,
 ⟨some 54, .ext (.t 50) 1, none, [2]⟩,
 ⟨some 6, .mv (.t 53), none, [3, 1, 0, 2]⟩,
 ⟨some 7, .mv (.t 54), none, [4, 5, 0, 1, 2, 3]⟩])
 (.seq (.seq (.region false [⟨some 55, .mv (.t 7), none, []⟩,
 ⟨some 56, .bin .neq (.t 55) (.k (.d (.int .i64 0))), none, [0]⟩])
                  (.cond (.t 56) (.seq (.region false [⟨some 57, .build [(.int .i64 0), (.str []), (.sl []), (.sl [])] [], none, []⟩,
 ⟨some 58, .mv (.t 7), none, []⟩,
 ⟨none, .store (.t 4) (.t 57) 4, none, [0]⟩,
 ⟨some 5, .mv (.t 58), none, [1, 2, 0]⟩])
                    .ret)
                   (.skip)))
 (.seq (.region false [⟨some 59, .mv (.t 6), none, []⟩,
 ⟨some 60, .build [(.int .i64 0), (.str []), (.sl []), (.sl [])] [(0, 1, (.k (.d (.int .i64 5)))), (1, 1, (.t 59))], none, [0]⟩,
 ⟨none, .store (.t 4) (.t 60) 4, none, [1, 0]⟩,
 ⟨some 5, .mv (.k (.d (.int .i64 0))), none, [2, 0, 1]⟩])
                  .ret)))
 (.seq (.region false [⟨some 62, .bin .eql (.t 29) (.k (.d (.int .u8 91))), none, []⟩,
 ⟨some 61, .mv (.t 62), none, [0]⟩])
                (.cond (.t 61) (.seq (.region false [⟨some 63, .mv (.t 0), none, []⟩,
 ⟨some 64, .mv (.t 1), none, []⟩,
 ⟨some 65, .call (.k (.d (.fn (N 403)))) [(.t 63), (.k (.d (.int .i64 6))), (.k (.d (.int .u8 93))), (.t 64)], none, [0, 1]⟩,
 ⟨some 66, .ext (.t 65) 0, none, [2]⟩,
 ⟨some 67, .ext (.t 65) 1, none, [2]⟩,
 ⟨none, .store (.t 4) (.t 66) 4, none, [3, 2, 0, 1, 4]⟩,
 ⟨some 5, .mv (.t 67), none, [4, 5, 0, 1, 2, 3]⟩])
                  .ret)
 (.seq (.region false [⟨some 69, .bin .eql (.t 29) (.k (.d (.int .u8 123))), none, []⟩,
 ⟨some 68, .mv (.t 69), none, [0]⟩])
                  (.cond (.t 68) (.seq (.region false [⟨some 70, .mv (.t 0), none, []⟩,
 ⟨some 71, .mv (.t 1), none, []⟩,
 ⟨some 72, .call (.k (.d (.fn (N 403)))) [(.t 70), (.k (.d (.int .i64 7))), (.k (.d (.int .u8 125))), (.t 71)], none, [0, 1]⟩,
 ⟨some 73, .ext (.t 72) 0, none, [2]⟩,
 ⟨some 74, .ext (.t 72) 1, none, [2]⟩,
 ⟨none, .store (.t 4) (.t 73) 4, none, [3, 2, 0, 1, 4]⟩,
 ⟨some 5, .mv (.t 74), none, [4, 5, 0, 1, 2, 3]⟩])
                    .ret)
                   (.skip)))))))))))))))
 (.seq (.region false [⟨some 75, .mv (.t 0), none, []⟩,
 ⟨some 76, .call (.k (.d (.fn (N 405)))) [(.t 75)], none, [0]⟩,
 ⟨some 77, .ext (.t 76) 0, none, [1]⟩,
 ⟨some 78, .ext (.t 76) 1, none, [1]⟩,
 ⟨none, .store (.t 4) (.t 77) 4, none, [2, 1, 0, 3]⟩,
 ⟨some 5, .mv (.t 78), none, [3, 4, 0, 1, 2]⟩])
      .ret))))) }
def HC397 (P : Program) (N : Nat → Nat) : Prop := HasF P (N 397) (C397 N) ∧ HC398 P N ∧ HC399 P N ∧ HC400 P N ∧ HC403 P N ∧ HC405 P N
def f397_s (rc397 : (List UInt8) → Int → Int → Option (Int × Int × (List UInt8) × (List (RT 4)) × (List (List UInt8)) × Int)) (k : Nat) (a0 : (List UInt8)) (a1 : Int) (a2 : Int) : Option (Int × Int × (List UInt8) × (List (RT 4)) × (List (List UInt8)) × Int) := (f398 k a0 a1).bind fun r10 => cond (decide (r10 = ((a0.length : Nat) : Int))) (some ((4 : Int), (0 : Int), ([] : List UInt8), ([] : List (RT 4)), ([] : List (List UInt8)), r10)) (gd (0 ≤ r10 ∧ r10 < ((a0.length : Nat) : Int)) (cond (decide ((((a0.getD (r10).toNat 0).toNat : Nat) : Int) = (110 : Int))) ((f399 k a0 r10 ([110, 117, 108, 108] : List UInt8) (1 : Int)).bind fun r58 => some (r58.1, r58.2.1, ([] : List UInt8), ([] : List (RT 4)), ([] : List (List UInt8)), r58.2.2)) (cond (decide ((((a0.getD (r10).toNat 0).toNat : Nat) : Int) = (102 : Int))) ((f399 k a0 r10 ([102, 97, 108, 115, 101] : List UInt8) (2 : Int)).bind fun r74 => some (r74.1, r74.2.1, ([] : List UInt8), ([] : List (RT 4)), ([] : List (List UInt8)), r74.2.2)) (cond (decide ((((a0.getD (r10).toNat 0).toNat : Nat) : Int) = (116 : Int))) ((f399 k a0 r10 ([116, 114, 117, 101] : List UInt8) (3 : Int)).bind fun r90 => some (r90.1, r90.2.1, ([] : List UInt8), ([] : List (RT 4)), ([] : List (List UInt8)), r90.2.2)) (cond (decide ((((a0.getD (r10).toNat 0).toNat : Nat) : Int) = (34 : Int))) ((f400 k a0 r10).bind fun r106 => cond (decide (r106.2.1 ≠ (0 : Int))) (some (r106.2.1, (0 : Int), ([] : List UInt8), ([] : List (RT 4)), ([] : List (List UInt8)), r106.2.2)) (some ((0 : Int), (5 : Int), r106.1, ([] : List (RT 4)), ([] : List (List UInt8)), r106.2.2))) (cond (decide ((((a0.getD (r10).toNat 0).toNat : Nat) : Int) = (91 : Int))) ((f403 rc397 k a0 r10 (6 : Int) (93 : UInt8) a2).bind fun r147 => some (r147.1, r147.2.1, ([] : List UInt8), r147.2.2.1, r147.2.2.2.1, r147.2.2.2.2)) (cond (decide ((((a0.getD (r10).toNat 0).toNat : Nat) : Int) = (123 : Int))) ((f403 rc397 k a0 r10 (7 : Int) (125 : UInt8) a2).bind fun r164 => some (r164.1, r164.2.1, ([] : List UInt8), r164.2.2.1, r164.2.2.2.1, r164.2.2.2.2)) ((f405 k a0 r10).bind fun r175 => some (r175.1, r175.2.1, r175.2.2.1, ([] : List (RT 4)), ([] : List (List UInt8)), r175.2.2.2)))))))))
theorem F397_s {P : Program} {N : Nat → Nat} (hmix : P.follows .mixedOrders = true) (hc : HC397 P N) {rc397 : (List UInt8) → Int → Int → Option (Int × Int × (List UInt8) × (List (RT 4)) × (List (List UInt8)) × Int)} (hrc397 : RH397 P N rc397) {k : Nat} {a0 : (List UInt8)} {a1 : Int} {a2 : Int} {r : (Int × Int × (List UInt8) × (List (RT 4)) × (List (List UInt8)) × Int)} (h : f397_s rc397 k a0 a1 a2 = some r) :
    ACalls P (N 397) [(.ptr 0 0), (.d (.int .i64 a2))] [(0, (.cells [(.d (.str a0)), (.d (.int .i64 a1))]))] (.tup [(.d (.agg [(.int .i64 r.2.1), (.str r.2.2.1), (.sl (List.map (rtE (z := 4)) r.2.2.2.1)), (.sl (List.map D.str r.2.2.2.2.1))])), (.d (.int .i64 r.1))]) [(0, (.cells [(.d (.str a0)), (.d (.int .i64 r.2.2.2.2.2))]))] := by
  refine acalls_canon (F := C397 N) hc.1 1 1 rfl ?_
  unfold f397_s at h
  dsimp only [C397, startL]
  refine AWc.seq (AWc.rE hmix [] ?_)
  refine AWc.seq ?_
  obtain ⟨r10, e10, h⟩ := bind_some h
  refine AWc.rE hmix [.call (F398 hmix hc.2.1 e10) [] 1] ?_
  refine AWc.seq (AWc.seq (AWc.rE hmix [] ?_))
  rcases cc h with ⟨c25, h⟩ | ⟨c25, h⟩
  · refine AWc.cT c25 ?_
    refine AWc.seq (AWc.rE hmix [] ?_)
    have hr := Option.some.inj h
    subst hr
    exact AWc.ret (canQ (N := 79) (k := 2) (l' := [(4, (.ptr 1 0)), (5, (.d (.int .i64 (4 : Int))))]) (H' := [(1, (.cells [(.d (.int .i64 (0 : Int))), (.d (.str ([] : List UInt8))), (.d (.sl (List.map (rtE (z := 4)) ([] : List (RT 4))))), (.d (.sl (List.map D.str ([] : List (List UInt8)))))])), (0, (.cells [(.d (.str a0)), (.d (.int .i64 r10))]))]) rfl (inT [] []) (doneA (.inr rfl) rfl ⟨(Nat.le_of_ble_eq_true rfl), ⟨trivial, trivial⟩⟩ (.refl _) (hasCons rfl hasNil)))
  · refine AWc.cF c25 ?_
    refine AWc.skip (AWc.seq (AWc.seq ?_))
    obtain ⟨b46, h⟩ := gd_some h
    refine AWc.rE hmix [.sd b46] ?_
    refine AWc.block (AWc.seq (AWc.rE hmix [] ?_))
    rcases cc h with ⟨c53, h⟩ | ⟨c53, h⟩
    · refine AWc.cT c53 ?_
      refine AWc.seq ?_
      obtain ⟨r58, e58, h⟩ := bind_some h
      refine AWc.rE hmix [.call (F399 hmix hc.2.2.1 e58) [] 1] ?_
      have hr := Option.some.inj h
      subst hr
      exact AWc.ret (canQ (N := 79) (k := 2) (l' := [(4, (.ptr 1 0)), (5, (.d (.int .i64 r58.1)))]) (H' := [(1, (.cells [(.d (.int .i64 r58.2.1)), (.d (.str ([] : List UInt8))), (.d (.sl (List.map (rtE (z := 4)) ([] : List (RT 4))))), (.d (.sl (List.map D.str ([] : List (List UInt8)))))])), (0, (.cells [(.d (.str a0)), (.d (.int .i64 r58.2.2))]))]) rfl (inT [] []) (doneA (.inr rfl) rfl ⟨(Nat.le_of_ble_eq_true rfl), ⟨trivial, trivial⟩⟩ (.refl _) (hasCons rfl hasNil)))
    · refine AWc.cF c53 ?_
      refine AWc.seq (AWc.rE hmix [] ?_)
      rcases cc h with ⟨c69, h⟩ | ⟨c69, h⟩
      · refine AWc.cT c69 ?_
        refine AWc.seq ?_
        obtain ⟨r74, e74, h⟩ := bind_some h
        refine AWc.rE hmix [.call (F399 hmix hc.2.2.1 e74) [] 1] ?_
        have hr := Option.some.inj h
        subst hr
        exact AWc.ret (canQ (N := 79) (k := 2) (l' := [(4, (.ptr 1 0)), (5, (.d (.int .i64 r74.1)))]) (H' := [(1, (.cells [(.d (.int .i64 r74.2.1)), (.d (.str ([] : List UInt8))), (.d (.sl (List.map (rtE (z := 4)) ([] : List (RT 4))))), (.d (.sl (List.map D.str ([] : List (List UInt8)))))])), (0, (.cells [(.d (.str a0)), (.d (.int .i64 r74.2.2))]))]) rfl (inT [] []) (doneA (.inr rfl) rfl ⟨(Nat.le_of_ble_eq_true rfl), ⟨trivial, trivial⟩⟩ (.refl _) (hasCons rfl hasNil)))
      · refine AWc.cF c69 ?_
        refine AWc.seq (AWc.rE hmix [] ?_)
        rcases cc h with ⟨c85, h⟩ | ⟨c85, h⟩
        · refine AWc.cT c85 ?_
          refine AWc.seq ?_
          obtain ⟨r90, e90, h⟩ := bind_some h
          refine AWc.rE hmix [.call (F399 hmix hc.2.2.1 e90) [] 1] ?_
          have hr := Option.some.inj h
          subst hr
          exact AWc.ret (canQ (N := 79) (k := 2) (l' := [(4, (.ptr 1 0)), (5, (.d (.int .i64 r90.1)))]) (H' := [(1, (.cells [(.d (.int .i64 r90.2.1)), (.d (.str ([] : List UInt8))), (.d (.sl (List.map (rtE (z := 4)) ([] : List (RT 4))))), (.d (.sl (List.map D.str ([] : List (List UInt8)))))])), (0, (.cells [(.d (.str a0)), (.d (.int .i64 r90.2.2))]))]) rfl (inT [] []) (doneA (.inr rfl) rfl ⟨(Nat.le_of_ble_eq_true rfl), ⟨trivial, trivial⟩⟩ (.refl _) (hasCons rfl hasNil)))
        · refine AWc.cF c85 ?_
          refine AWc.seq (AWc.rE hmix [] ?_)
          rcases cc h with ⟨c101, h⟩ | ⟨c101, h⟩
          · refine AWc.cT c101 ?_
            refine AWc.seq ?_
            obtain ⟨r106, e106, h⟩ := bind_some h
            refine AWc.rE hmix [.call (F400 hmix hc.2.2.2.1 e106) [] 1] ?_
            refine AWc.seq (AWc.seq (AWc.rE hmix [] ?_))
            rcases cc h with ⟨c118, h⟩ | ⟨c118, h⟩
            · refine AWc.cT c118 ?_
              refine AWc.seq (AWc.rE hmix [] ?_)
              have hr := Option.some.inj h
              subst hr
              exact AWc.ret (canQ (N := 79) (k := 2) (l' := [(4, (.ptr 1 0)), (5, (.d (.int .i64 r106.2.1)))]) (H' := [(1, (.cells [(.d (.int .i64 (0 : Int))), (.d (.str ([] : List UInt8))), (.d (.sl (List.map (rtE (z := 4)) ([] : List (RT 4))))), (.d (.sl (List.map D.str ([] : List (List UInt8)))))])), (0, (.cells [(.d (.str a0)), (.d (.int .i64 r106.2.2))]))]) rfl (inT [] []) (doneA (.inr rfl) rfl ⟨(Nat.le_of_ble_eq_true rfl), ⟨trivial, trivial⟩⟩ (.refl _) (hasCons rfl hasNil)))
            · refine AWc.cF c118 ?_
              refine AWc.skip (AWc.seq (AWc.rE hmix [] ?_))
              have hr := Option.some.inj h
              subst hr
              exact AWc.ret (canQ (N := 79) (k := 2) (l' := [(4, (.ptr 1 0)), (5, (.d (.int .i64 (0 : Int))))]) (H' := [(1, (.cells [(.d (.int .i64 (5 : Int))), (.d (.str r106.1)), (.d (.sl (List.map (rtE (z := 4)) ([] : List (RT 4))))), (.d (.sl (List.map D.str ([] : List (List UInt8)))))])), (0, (.cells [(.d (.str a0)), (.d (.int .i64 r106.2.2))]))]) rfl (inT [] []) (doneA (.inr rfl) rfl ⟨(Nat.le_of_ble_eq_true rfl), ⟨trivial, trivial⟩⟩ (.refl _) (hasCons rfl hasNil)))
          · refine AWc.cF c101 ?_
            refine AWc.seq (AWc.rE hmix [] ?_)
            rcases cc h with ⟨c141, h⟩ | ⟨c141, h⟩
            · refine AWc.cT c141 ?_
              refine AWc.seq ?_
              obtain ⟨r147, e147, h⟩ := bind_some h
              refine AWc.rE hmix [.call (F403 hmix hc.2.2.2.2.1 hrc397 e147) [] 1] ?_
              have hr := Option.some.inj h
              subst hr
              exact AWc.ret (canQ (N := 79) (k := 2) (l' := [(4, (.ptr 1 0)), (5, (.d (.int .i64 r147.1)))]) (H' := [(1, (.cells [(.d (.int .i64 r147.2.1)), (.d (.str ([] : List UInt8))), (.d (.sl (List.map (rtE (z := 4)) r147.2.2.1))), (.d (.sl (List.map D.str r147.2.2.2.1)))])), (0, (.cells [(.d (.str a0)), (.d (.int .i64 r147.2.2.2.2))]))]) rfl (inT [] []) (doneA (.inr rfl) rfl ⟨(Nat.le_of_ble_eq_true rfl), ⟨trivial, trivial⟩⟩ (.refl _) (hasCons rfl hasNil)))
            · refine AWc.cF c141 ?_
              refine AWc.seq (AWc.rE hmix [] ?_)
              rcases cc h with ⟨c158, h⟩ | ⟨c158, h⟩
              · refine AWc.cT c158 ?_
                refine AWc.seq ?_
                obtain ⟨r164, e164, h⟩ := bind_some h
                refine AWc.rE hmix [.call (F403 hmix hc.2.2.2.2.1 hrc397 e164) [] 1] ?_
                have hr := Option.some.inj h
                subst hr
                exact AWc.ret (canQ (N := 79) (k := 2) (l' := [(4, (.ptr 1 0)), (5, (.d (.int .i64 r164.1)))]) (H' := [(1, (.cells [(.d (.int .i64 r164.2.1)), (.d (.str ([] : List UInt8))), (.d (.sl (List.map (rtE (z := 4)) r164.2.2.1))), (.d (.sl (List.map D.str r164.2.2.2.1)))])), (0, (.cells [(.d (.str a0)), (.d (.int .i64 r164.2.2.2.2))]))]) rfl (inT [] []) (doneA (.inr rfl) rfl ⟨(Nat.le_of_ble_eq_true rfl), ⟨trivial, trivial⟩⟩ (.refl _) (hasCons rfl hasNil)))
              · refine AWc.cF c158 ?_
                refine AWc.skip (AWc.seq ?_)
                obtain ⟨r175, e175, h⟩ := bind_some h
                refine AWc.rE hmix [.call (F405 hmix hc.2.2.2.2.2 e175) [] 1] ?_
                have hr := Option.some.inj h
                subst hr
                exact AWc.ret (canQ (N := 79) (k := 2) (l' := [(4, (.ptr 1 0)), (5, (.d (.int .i64 r175.1)))]) (H' := [(1, (.cells [(.d (.int .i64 r175.2.1)), (.d (.str r175.2.2.1)), (.d (.sl (List.map (rtE (z := 4)) ([] : List (RT 4))))), (.d (.sl (List.map D.str ([] : List (List UInt8)))))])), (0, (.cells [(.d (.str a0)), (.d (.int .i64 r175.2.2.2))]))]) rfl (inT [] []) (doneA (.inr rfl) rfl ⟨(Nat.le_of_ble_eq_true rfl), ⟨trivial, trivial⟩⟩ (.refl _) (hasCons rfl hasNil)))
def f397 : Nat → (List UInt8) → Int → Int → Option (Int × Int × (List UInt8) × (List (RT 4)) × (List (List UInt8)) × Int)
  | 0, _, _, _ => none
  | k + 1, a0, a1, a2 => f397_s (f397 k) k a0 a1 a2
theorem F397 {P : Program} {N : Nat → Nat} (hmix : P.follows .mixedOrders = true) (hc : HC397 P N) {k : Nat} {a0 : (List UInt8)} {a1 : Int} {a2 : Int} {r : (Int × Int × (List UInt8) × (List (RT 4)) × (List (List UInt8)) × Int)} (h : f397 k a0 a1 a2 = some r) :
    ACalls P (N 397) [(.ptr 0 0), (.d (.int .i64 a2))] [(0, (.cells [(.d (.str a0)), (.d (.int .i64 a1))]))] (.tup [(.d (.agg [(.int .i64 r.2.1), (.str r.2.2.1), (.sl (List.map (rtE (z := 4)) r.2.2.2.1)), (.sl (List.map D.str r.2.2.2.2.1))])), (.d (.int .i64 r.1))]) [(0, (.cells [(.d (.str a0)), (.d (.int .i64 r.2.2.2.2.2))]))] := by
  induction k generalizing a0 a1 a2 r with
  | zero => exact absurd (show (none : Option _) = some r from h) (fun h2 => by cases h2)
  | succ k ih => exact F397_s hmix hc (fun _ _ _ _ h => ih h) h
/-- courant/json.Parse -/
def C396 (N : Nat → Nat) : AFunc := { n := 34, params := 1, res := [.cell 2 4 true, .tmp 3], body :=
 (.seq (.region false [⟨some 2, .alloc [(.int .i64 0), (.str []), (.sl []), (.sl [])], none, []⟩,
 ⟨some 3, .mv (.k (.d (.int .i64 0))), none, []⟩])
 (.seq (.seq (.region false [⟨some 7, .mv (.t 0), none, []⟩,
 ⟨some 8, .slen (.t 7), none, [0]⟩,
 ⟨some 9, .bin .gtr (.t 8) (.k (.d (.int .i64 20000))), none, [1]⟩])
    (.cond (.t 9) (.seq (.region false [⟨some 10, .build [(.int .i64 0), (.str []), (.sl []), (.sl [])] [], none, []⟩,
 ⟨none, .store (.t 2) (.t 10) 4, none, [0]⟩,
 ⟨some 3, .mv (.k (.d (.int .i64 5))), none, [1, 0]⟩])
      .ret)
     (.skip)))
 (.seq (.region false [⟨some 11, .mv (.t 0), none, []⟩,
 ⟨some 12, .build [(.str []), (.int .i64 0)] [(0, 1, (.t 11))], none, [0]⟩,
 ⟨some 13, .box (.t 12), none, [1]⟩,
 ⟨some 4, .mv (.t 13), none, [2, 0, 1]⟩])
 (.seq (.region false [⟨some 15, .mv (.t 4), none, []⟩,
 ⟨some 16, .call (.k (.d (.fn (N 397)))) [(.t 15), (.k (.d (.int .i64 0)))], none, [0]⟩,
 ⟨some 14, .mv (.t 16), none, [1]⟩,
 ⟨some 17, .ext (.t 14) 0, none, [2]⟩,
 ⟨some 18, .ext (.t 14) 1, none, [2]⟩,
 ⟨some 5, .alloc [(.int .i64 0), (.str []), (.sl []), (.sl [])], none, []⟩,
 ⟨none, .store (.t 5) (.t 17) 4, none, [5, 3, 1, 0, 2]⟩,
 ⟨some 6, .mv (.t 18), none, [4, 6, 0, 1, 2, 3, 5]⟩])
 (.seq (.seq (.region false [⟨some 19, .mv (.t 6), none, []⟩,
 ⟨some 20, .bin .neq (.t 19) (.k (.d (.int .i64 0))), none, [0]⟩])
       (.cond (.t 20) (.seq (.region false [⟨some 21, .build [(.int .i64 0), (.str []), (.sl []), (.sl [])] [], none, []⟩,
 ⟨some 22, .mv (.t 6), none, []⟩,
 ⟨none, .store (.t 2) (.t 21) 4, none, [0]⟩,
 ⟨some 3, .mv (.t 22), none, [1, 2, 0]⟩])
         .ret)
        (.skip)))
 (.seq (.seq (.region false [⟨some 23, .mv (.t 4), none, []⟩,
 ⟨some 24, .call (.k (.d (.fn (N 398)))) [(.t 23)], none, [0]⟩])
 (.seq (.region false [⟨some 25, .mv (.t 4), none, []⟩,
 ⟨some 26, .nilchk (.t 25), none, [0]⟩,
 ⟨some 27, .faddr (.t 26) 1, none, [1]⟩,
 ⟨some 28, .load (.t 27) 1 false, none, [2]⟩,
 ⟨some 29, .mv (.t 0), none, []⟩,
 ⟨some 30, .slen (.t 29), none, [4]⟩,
 ⟨some 31, .bin .lss (.t 28) (.t 30), none, [3, 5]⟩])
         (.cond (.t 31) (.seq (.region false [⟨some 32, .build [(.int .i64 0), (.str []), (.sl []), (.sl [])] [], none, []⟩,
 ⟨none, .store (.t 2) (.t 32) 4, none, [0]⟩,
 ⟨some 3, .mv (.k (.d (.int .i64 4))), none, [1, 0]⟩])
           .ret)
          (.skip))))
 (.seq (.region false [⟨some 33, .load (.t 5) 4 true, none, []⟩,
 ⟨none, .store (.t 2) (.t 33) 4, none, [0]⟩,
 ⟨some 3, .mv (.k (.d (.int .i64 0))), none, [1, 0]⟩])
        .ret))))))) }
def HC396 (P : Program) (N : Nat → Nat) : Prop := HasF P (N 396) (C396 N) ∧ HC397 P N ∧ HC398 P N
def f396 (k : Nat) (a0 : (List UInt8)) : Option (Int × Int × (List UInt8) × (List (RT 4)) × (List (List UInt8))) := cond (decide (((a0.length : Nat) : Int) > (20000 : Int))) (some ((5 : Int), (0 : Int), ([] : List UInt8), ([] : List (RT 4)), ([] : List (List UInt8)))) ((f397 k a0 (0 : Int) (0 : Int)).bind fun r33 => cond (decide (r33.1 ≠ (0 : Int))) (some (r33.1, (0 : Int), ([] : List UInt8), ([] : List (RT 4)), ([] : List (List UInt8)))) ((f398 k a0 r33.2.2.2.2.2).bind fun r61 => cond (decide (r61 < ((a0.length : Nat) : Int))) (some ((4 : Int), (0 : Int), ([] : List UInt8), ([] : List (RT 4)), ([] : List (List UInt8)))) (some ((0 : Int), r33.2.1, r33.2.2.1, r33.2.2.2.1, r33.2.2.2.2.1))))
theorem F396 {P : Program} {N : Nat → Nat} (hmix : P.follows .mixedOrders = true) (hc : HC396 P N) {k : Nat} {a0 : (List UInt8)} {r : (Int × Int × (List UInt8) × (List (RT 4)) × (List (List UInt8)))} (h : f396 k a0 = some r) :
    ACalls P (N 396) [(.d (.str a0))] [] (.tup [(.d (.agg [(.int .i64 r.2.1), (.str r.2.2.1), (.sl (List.map (rtE (z := 4)) r.2.2.2.1)), (.sl (List.map D.str r.2.2.2.2))])), (.d (.int .i64 r.1))]) [] := by
  refine acalls_canon (F := C396 N) hc.1 0 0 rfl ?_
  unfold f396 at h
  dsimp only [C396, startL]
  refine AWc.seq (AWc.rE hmix [] ?_)
  refine AWc.seq (AWc.seq (AWc.rE hmix [] ?_))
  rcases cc h with ⟨c13, h⟩ | ⟨c13, h⟩
  · refine AWc.cT c13 ?_
    refine AWc.seq (AWc.rE hmix [] ?_)
    have hr := Option.some.inj h
    subst hr
    exact AWc.ret (canQ (N := 34) (k := 1) (l' := [(2, (.ptr 0 0)), (3, (.d (.int .i64 (5 : Int))))]) (H' := [(0, (.cells [(.d (.int .i64 (0 : Int))), (.d (.str ([] : List UInt8))), (.d (.sl (List.map (rtE (z := 4)) ([] : List (RT 4))))), (.d (.sl (List.map D.str ([] : List (List UInt8)))))]))]) rfl (inT [] []) (doneA (.inr rfl) rfl ⟨(Nat.le_of_ble_eq_true rfl), ⟨trivial, trivial⟩⟩ (.refl _) hasNil))
  · refine AWc.cF c13 ?_
    refine AWc.skip (AWc.seq (AWc.rE hmix [] ?_))
    refine AWc.seq ?_
    obtain ⟨r33, e33, h⟩ := bind_some h
    refine AWc.rE hmix [.call (F397 hmix hc.2.1 e33) [(0, 1)] 1] ?_
    refine AWc.seq (AWc.seq (AWc.rE hmix [] ?_))
    rcases cc h with ⟨c46, h⟩ | ⟨c46, h⟩
    · refine AWc.cT c46 ?_
      refine AWc.seq (AWc.rE hmix [] ?_)
      have hr := Option.some.inj h
      subst hr
      exact AWc.ret (canQ (N := 34) (k := 1) (l' := [(2, (.ptr 0 0)), (3, (.d (.int .i64 r33.1)))]) (H' := [(0, (.cells [(.d (.int .i64 (0 : Int))), (.d (.str ([] : List UInt8))), (.d (.sl (List.map (rtE (z := 4)) ([] : List (RT 4))))), (.d (.sl (List.map D.str ([] : List (List UInt8)))))]))]) rfl (inT [] []) (doneA (.inr rfl) rfl ⟨(Nat.le_of_ble_eq_true rfl), ⟨trivial, trivial⟩⟩ (.refl _) hasNil))
    · refine AWc.cF c46 ?_
      refine AWc.skip (AWc.seq (AWc.seq ?_))
      obtain ⟨r61, e61, h⟩ := bind_some h
      refine AWc.rE hmix [.call (F398 hmix hc.2.2 e61) [(0, 1)] 1] ?_
      refine AWc.seq (AWc.rE hmix [] ?_)
      rcases cc h with ⟨c72, h⟩ | ⟨c72, h⟩
      · refine AWc.cT c72 ?_
        refine AWc.seq (AWc.rE hmix [] ?_)
        have hr := Option.some.inj h
        subst hr
        exact AWc.ret (canQ (N := 34) (k := 1) (l' := [(2, (.ptr 0 0)), (3, (.d (.int .i64 (4 : Int))))]) (H' := [(0, (.cells [(.d (.int .i64 (0 : Int))), (.d (.str ([] : List UInt8))), (.d (.sl (List.map (rtE (z := 4)) ([] : List (RT 4))))), (.d (.sl (List.map D.str ([] : List (List UInt8)))))]))]) rfl (inT [] []) (doneA (.inr rfl) rfl ⟨(Nat.le_of_ble_eq_true rfl), ⟨trivial, trivial⟩⟩ (.refl _) hasNil))
      · refine AWc.cF c72 ?_
        refine AWc.skip (AWc.seq (AWc.rE hmix [] ?_))
        have hr := Option.some.inj h
        subst hr
        exact AWc.ret (canQ (N := 34) (k := 1) (l' := [(2, (.ptr 0 0)), (3, (.d (.int .i64 (0 : Int))))]) (H' := [(0, (.cells [(.d (.int .i64 r33.2.1)), (.d (.str r33.2.2.1)), (.d (.sl (List.map (rtE (z := 4)) r33.2.2.2.1))), (.d (.sl (List.map D.str r33.2.2.2.2.1)))]))]) rfl (inT [] []) (doneA (.inr rfl) rfl ⟨(Nat.le_of_ble_eq_true rfl), ⟨trivial, trivial⟩⟩ (.refl _) hasNil))
def RH425 (P : Program) (N : Nat → Nat) (rc425 : TJson → Int → Option Bool) : Prop := ∀ (a0 : TJson) (a1 : Int) (r : Bool), rc425 a0 a1 = some r → ACalls P (N 425) [(.d (TJson.enc a0)), (.d (.int .i64 a1))] [] (.d (.bool r)) []
/-- courant/json.plainly -/
def C426 (N : Nat → Nat) : AFunc := { n := 23, params := 2, res := [.tmp 4], body :=
 (.seq (.region false [⟨some 2, .box (.t 0), none, []⟩,
 ⟨some 4, .mv (.k (.d (.bool false))), none, []⟩])
 (.seq (.region false [⟨some 5, .faddr (.t 2) 2, none, []⟩,
 ⟨some 6, .load (.t 5) 1 false, none, [0]⟩,
 ⟨some 7, .len (.t 6), none, [1]⟩,
 ⟨some 8, .bin .eql (.t 7) (.k (.d (.int .i64 0))), none, [2]⟩,
 ⟨some 9, .mv (.t 8), none, [3]⟩,
 ⟨some 10, .faddr (.t 2) 3, some (9, true), [4]⟩,
 ⟨some 11, .load (.t 10) 1 false, some (9, true), [5, 4]⟩,
 ⟨some 12, .len (.t 11), some (9, true), [6, 4]⟩,
 ⟨some 13, .bin .eql (.t 12) (.k (.d (.int .i64 0))), some (9, true), [7, 4]⟩,
 ⟨some 14, .pick (.t 9) (.t 13) (.k (.d (.bool false))), none, [4, 8]⟩,
 ⟨some 15, .mv (.t 14), none, [9, 4]⟩,
 ⟨some 16, .mv (.t 1), some (15, true), [10]⟩,
 ⟨some 17, .mv (.t 16), some (15, true), [11, 10]⟩,
 ⟨some 18, .faddr (.t 2) 1, some (17, false), [12]⟩,
 ⟨some 19, .load (.t 18) 1 false, some (17, false), [13, 12]⟩,
 ⟨some 20, .bin .eql (.t 19) (.k (.d (.str []))), some (17, false), [14, 12]⟩,
 ⟨some 21, .pick (.t 17) (.k (.d (.bool true))) (.t 20), some (15, true), [12, 15, 10]⟩,
 ⟨some 22, .pick (.t 15) (.t 21) (.k (.d (.bool false))), none, [10, 16]⟩,
 ⟨some 4, .mv (.t 22), none, [17, 12, 0, 1, 2, 3, 4, 5, 6, 7, 8, 9, 10, 11, 13, 14, 15, 16]⟩])
   .ret)) }
def HC426 (P : Program) (N : Nat → Nat) : Prop := HasF P (N 426) (C426 N)
def f426 (k : Nat) (a0 : TJson) (a1 : Bool) : Option Bool := cond (decide (((a0.fL.length : Nat) : Int) = (0 : Int))) (cond (decide (((a0.fKeys.length : Nat) : Int) = (0 : Int))) (cond a1 (some true) (some (decide (a0.fText = ([] : List UInt8))))) (some false)) (some false)
theorem F426 {P : Program} {N : Nat → Nat} (hmix : P.follows .mixedOrders = true) (hc : HC426 P N) {k : Nat} {a0 : TJson} {a1 : Bool} {r : Bool} (h : f426 k a0 a1 = some r) :
    ACalls P (N 426) [(.d (TJson.enc a0)), (.d (.bool a1))] [] (.d (.bool r)) [] := by
  refine acalls_canon (F := C426 N) hc 0 0 rfl ?_
  unfold f426 at h
  dsimp only [C426, startL]
  refine AWc.seq (AWc.rE hmix [] ?_)
  refine AWc.seq ?_
  rcases cc h with ⟨c13, h⟩ | ⟨c13, h⟩
  · rcases cc h with ⟨c19, h⟩ | ⟨c19, h⟩
    · rcases cc h with ⟨c21, h⟩ | ⟨c21, h⟩
      · refine AWc.rE hmix [.ln (rtE (z := 4)) a0.fL, .br c13, .ln D.str a0.fKeys, .br c19, .br c21] ?_
        have hr := Option.some.inj h
        subst hr
        exact AWc.ret (canQ (N := 23) (k := 0) (l' := [(4, (.d (.bool true)))]) (H' := []) rfl (inT [] []) (doneA (.inr rfl) rfl ⟨trivial, trivial⟩ (.refl _) hasNil))
      · refine AWc.rE hmix [.ln (rtE (z := 4)) a0.fL, .br c13, .ln D.str a0.fKeys, .br c19, .br c21] ?_
        have hr := Option.some.inj h
        subst hr
        exact AWc.ret (canQ (N := 23) (k := 0) (l' := [(4, (.d (.bool (decide (a0.fText = ([] : List UInt8))))))]) (H' := []) rfl (inT [] []) (doneA (.inr rfl) rfl ⟨trivial, trivial⟩ (.refl _) hasNil))
    · refine AWc.rE hmix [.ln (rtE (z := 4)) a0.fL, .br c13, .ln D.str a0.fKeys, .br c19] ?_
      have hr := Option.some.inj h
      subst hr
      exact AWc.ret (canQ (N := 23) (k := 0) (l' := [(4, (.d (.bool false)))]) (H' := []) rfl (inT [] []) (doneA (.inr rfl) rfl ⟨trivial, trivial⟩ (.refl _) hasNil))
  · refine AWc.rE hmix [.ln (rtE (z := 4)) a0.fL, .br c13, .br (rfl : false = false)] ?_
    have hr := Option.some.inj h
    subst hr
    exact AWc.ret (canQ (N := 23) (k := 0) (l' := [(4, (.d (.bool false)))]) (H' := []) rfl (inT [] []) (doneA (.inr rfl) rfl ⟨trivial, trivial⟩ (.refl _) hasNil))
def HC351 (P : Program) (N : Nat → Nat) : Prop := ValB P (N 351)
def f351 (k : Nat) (a0 : List UInt8) : Option Bool := gd (a0.length ≤ 9223372036854775807) (some (Lib.validD a0))
theorem F351 {P : Program} {N : Nat → Nat} (hmix : P.follows .mixedOrders = true) (hc : HC351 P N) {k : Nat} {a0 : List UInt8} {r : Bool} (h : f351 k a0 = some r) :
    ACalls P (N 351) [(.d (.str a0))] [] (.d (.bool r)) [] := by
  obtain ⟨b, h⟩ := gd_some h
  cases h
  exact valB_calls hc a0 b
/-- slices.All[[]string,string] -/
def C427 (N : Nat → Nat) : AFunc := { n := 4, params := 1, res := [.tmp 2], body :=
 (.seq (.region false [⟨some 1, .box (.t 0), none, []⟩,
 ⟨some 2, .mv (.k (.d .nilf)), none, []⟩])
 (.seq (.region false [⟨some 3, .mkfn (N 431) [(.t 1)], none, []⟩,
 ⟨some 2, .mv (.t 3), none, [0]⟩])
   .ret)) }
def HC427 (P : Program) (N : Nat → Nat) : Prop := HasF P (N 427) (C427 N)
def f427 (k : Nat) (a0 : (List (List UInt8))) : Option Unit := some ()
theorem F427 {P : Program} {N : Nat → Nat} (hmix : P.follows .mixedOrders = true) (hc : HC427 P N) {k : Nat} {a0 : (List (List UInt8))} {r : Unit} (h : f427 k a0 = some r) :
    ACalls P (N 427) [(.d (.sl (List.map D.str a0)))] [] (.fn (N 431) [(.ptr 0 0)]) [(0, (.cells [(.d (.sl (List.map D.str a0)))]))] := by
  refine acalls_canon (F := C427 N) hc 0 1 rfl ?_
  unfold f427 at h
  dsimp only [C427, startL]
  refine AWc.seq (AWc.rE hmix [] ?_)
  refine AWc.seq (AWc.rE hmix [] ?_)
  have hr := Option.some.inj h
  subst hr
  exact AWc.ret (canQ (N := 4) (k := 1) (l' := [(2, (.fn (N 431) [(.ptr 0 0)]))]) (H' := [(0, (.cells [(.d (.sl (List.map D.str a0)))]))]) rfl (inT [] []) (doneA (.inr rfl) rfl ⟨trivial, trivial⟩ (.refl _) (hasCons rfl hasNil)))
end Go.Proofs.Abs
