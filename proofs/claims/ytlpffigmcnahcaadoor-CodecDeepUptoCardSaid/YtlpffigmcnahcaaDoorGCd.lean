/- Written by gen.py: functions of the program as Lean functions, and that the code comes to them. -/
import Derived.Test.YtlpffigmcnahcaaDoorAbsxh
set_option linter.unusedVariables false
set_option linter.unusedSimpArgs false
set_option maxRecDepth 100000
set_option maxHeartbeats 4000000
namespace Go.Proofs.Abs
open Go
structure TField where
  fName : (List UInt8)
  fAliases : (List (List UInt8))
  fType : Int
  fHas : Bool
  fDefault : (List UInt8)
instance : Inhabited TField := ⟨⟨default, default, default, default, default⟩⟩
instance : DecidableEq TField := fun a b => decidable_of_iff (a.fName = b.fName ∧ a.fAliases = b.fAliases ∧ a.fType = b.fType ∧ a.fHas = b.fHas ∧ a.fDefault = b.fDefault ∧ True) ⟨fun h => by cases a; cases b; simp_all, fun h => by subst h; simp⟩
def TField.enc (x : TField) : D := .agg [.str x.fName, .sl (List.map D.str x.fAliases), .int .i64 x.fType, .bool x.fHas, .str x.fDefault]
theorem TField.ok : EncOK TField.enc 5 true := ⟨fun _ => rfl, fun _ c hc => by simp only [TField.enc, D.cells, List.mem_cons, List.not_mem_nil, or_false] at hc; rcases hc with rfl | rfl | rfl | rfl | rfl <;> rfl, fun _ => rfl⟩
def TField.wf (x : TField) : Prop := True ∧ (∀ e0 ∈ x.fAliases, True) ∧ (-9223372036854775808 ≤ x.fType ∧ x.fType ≤ 9223372036854775807) ∧ True ∧ True ∧ True
def TField.sz (x : TField) : Nat := ((x.fName.length + 1) + (((x.fAliases.map (fun x => (x.length + 1))).sum + 1) + (1 + (1 + ((x.fDefault.length + 1) + 0))))) + 1
structure TNode where
  fKind : Int
  fName : (List UInt8)
  fAliases : (List (List UInt8))
  fFields : (List TField)
  fSymbols : (List (List UInt8))
  fHas : Bool
  fDefault : (List UInt8)
  fItems : Int
  fBranches : (List Int)
  fSize : Int
instance : Inhabited TNode := ⟨⟨default, default, default, default, default, default, default, default, default, default⟩⟩
instance : DecidableEq TNode := fun a b => decidable_of_iff (a.fKind = b.fKind ∧ a.fName = b.fName ∧ a.fAliases = b.fAliases ∧ a.fFields = b.fFields ∧ a.fSymbols = b.fSymbols ∧ a.fHas = b.fHas ∧ a.fDefault = b.fDefault ∧ a.fItems = b.fItems ∧ a.fBranches = b.fBranches ∧ a.fSize = b.fSize ∧ True) ⟨fun h => by cases a; cases b; simp_all, fun h => by subst h; simp⟩
def TNode.enc (x : TNode) : D := .agg [.int .i64 x.fKind, .str x.fName, .sl (List.map D.str x.fAliases), .sl (List.map TField.enc x.fFields), .sl (List.map D.str x.fSymbols), .bool x.fHas, .str x.fDefault, .int .i64 x.fItems, .sl (List.map (D.int .i64) x.fBranches), .int .i64 x.fSize]
theorem TNode.ok : EncOK TNode.enc 10 true := ⟨fun _ => rfl, fun _ c hc => by simp only [TNode.enc, D.cells, List.mem_cons, List.not_mem_nil, or_false] at hc; rcases hc with rfl | rfl | rfl | rfl | rfl | rfl | rfl | rfl | rfl | rfl <;> rfl, fun _ => rfl⟩
def TNode.wf (x : TNode) : Prop := (-9223372036854775808 ≤ x.fKind ∧ x.fKind ≤ 9223372036854775807) ∧ True ∧ (∀ e0 ∈ x.fAliases, True) ∧ (∀ e0 ∈ x.fFields, TField.wf e0) ∧ (∀ e0 ∈ x.fSymbols, True) ∧ True ∧ True ∧ (-9223372036854775808 ≤ x.fItems ∧ x.fItems ≤ 9223372036854775807) ∧ (∀ e0 ∈ x.fBranches, (-9223372036854775808 ≤ e0 ∧ e0 ≤ 9223372036854775807)) ∧ (-9223372036854775808 ≤ x.fSize ∧ x.fSize ≤ 9223372036854775807) ∧ True
def TNode.sz (x : TNode) : Nat := (1 + ((x.fName.length + 1) + (((x.fAliases.map (fun x => (x.length + 1))).sum + 1) + (((x.fFields.map TField.sz).sum + 1) + (((x.fSymbols.map (fun x => (x.length + 1))).sum + 1) + (1 + ((x.fDefault.length + 1) + (1 + (((x.fBranches.map (fun _ => 1)).sum + 1) + (1 + 0)))))))))) + 1
structure TValue where
  fKind : Int
  fN : Int
  fB : (List UInt8)
  fL : (List (RT 5))
  fKeys : (List (List UInt8))
instance : Inhabited TValue := ⟨⟨default, default, default, default, default⟩⟩
def TValue.enc (x : TValue) : D := .agg [.int .i64 x.fKind, .int .i64 x.fN, .sl (List.map byteD x.fB), .sl (List.map (rtE (z := 5)) x.fL), .sl (List.map D.str x.fKeys)]
theorem TValue.ok : EncOK TValue.enc 5 true := ⟨fun _ => rfl, fun _ c hc => by simp only [TValue.enc, D.cells, List.mem_cons, List.not_mem_nil, or_false] at hc; rcases hc with rfl | rfl | rfl | rfl | rfl <;> rfl, fun _ => rfl⟩
def TValue.dec : D → Option TValue
  | .agg [c0, c1, c2, c3, c4] => ((decI .i64) c0).bind fun x0 => ((decI .i64) c1).bind fun x1 => ((decL decY) c2).bind fun x2 => ((decL (decR 5)) c3).bind fun x3 => ((decL decS) c4).bind fun x4 => some ⟨x0, x1, x2, x3, x4⟩
  | _ => none
theorem TValue.dec_eq {d : D} {x : TValue} (h : TValue.dec d = some x) : d = TValue.enc x := by
  unfold TValue.dec at h
  split at h
  · obtain ⟨x0, e0, h⟩ := bind_some h
    obtain ⟨x1, e1, h⟩ := bind_some h
    obtain ⟨x2, e2, h⟩ := bind_some h
    obtain ⟨x3, e3, h⟩ := bind_some h
    obtain ⟨x4, e4, h⟩ := bind_some h
    cases h
    have q0 := decI_eq e0
    subst q0
    have q1 := decI_eq e1
    subst q1
    have q2 := decL_eq (fun _ _ h => decY_eq h) e2
    subst q2
    have q3 := decL_eq decR_eq e3
    subst q3
    have q4 := decL_eq (fun _ _ h => decS_eq h) e4
    subst q4
    rfl
  · cases h
theorem TValue.dec_put (x : TValue) : TValue.dec (TValue.enc x) = some x := by
  unfold TValue.dec TValue.enc
  simp only [(decI_put .i64) x.fKind, (decI_put .i64) x.fN, (decL_put (e := byteD) decY_put) x.fB, (decL_put (e := (rtE (z := 5))) (decR_put (z := 5))) x.fL, (decL_put (e := D.str) decS_put) x.fKeys, Option.bind_some]
theorem TValue.dec_of (x : TValue) : TValue.dec (rtE (RT.of TValue.ok x)) = some x := TValue.dec_put x
def TValue.wf (x : TValue) : Prop := (-9223372036854775808 ≤ x.fKind ∧ x.fKind ≤ 9223372036854775807) ∧ (-9223372036854775808 ≤ x.fN ∧ x.fN ≤ 9223372036854775807) ∧ (∀ e0 ∈ x.fB, True) ∧ True ∧ (∀ e0 ∈ x.fKeys, True) ∧ True
def TValue.sz (x : TValue) : Nat := (1 + (1 + (((x.fB.map (fun _ => 1)).sum + 1) + ((x.fL.length + 1) + (((x.fKeys.map (fun x => (x.length + 1))).sum + 1) + 0))))) + 1
structure TSchema where
  fNodes : (List TNode)
instance : Inhabited TSchema := ⟨⟨default⟩⟩
instance : DecidableEq TSchema := fun a b => decidable_of_iff (a.fNodes = b.fNodes ∧ True) ⟨fun h => by cases a; cases b; simp_all, fun h => by subst h; simp⟩
def TSchema.enc (x : TSchema) : D := .agg [.sl (List.map TNode.enc x.fNodes)]
theorem TSchema.ok : EncOK TSchema.enc 1 true := ⟨fun _ => rfl, fun _ c hc => by simp only [TSchema.enc, D.cells, List.mem_cons, List.not_mem_nil, or_false] at hc; rcases hc with rfl <;> rfl, fun _ => rfl⟩
def TSchema.wf (x : TSchema) : Prop := (∀ e0 ∈ x.fNodes, TNode.wf e0) ∧ True
def TSchema.sz (x : TSchema) : Nat := (((x.fNodes.map TNode.sz).sum + 1) + 0) + 1
def RH461 (P : Program) (N : Nat → Nat) (rc461 : TSchema → Int → TValue → Option Bool) : Prop := ∀ (a0 : TSchema) (a1 : Int) (a2 : TValue) (r : Bool), rc461 a0 a1 a2 = some r → ACalls P (N 461) [(.d (TSchema.enc a0)), (.d (.int .i64 a1)), (.d (TValue.enc a2))] [] (.d (.bool r)) []
/-- courant/value.uses -/
def C463 (N : Nat → Nat) : AFunc := { n := 22, params := 1, res := [.tmp 2], body :=
 (.seq (.region false [⟨(some 2), .mv (.k (.d (.int .i64 0))), none, []⟩])
  (.seq (.seq (.region false [⟨(some 3), .mv (.t 0), none, []⟩])
    (.block 0 (.seq (.seq (.region false [⟨(some 5), .bin .eql (.t 3) (.k (.d (.int .i64 2))), none, []⟩,
        ⟨(some 4), .mv (.t 5), none, [0]⟩])
       (.cond (.t 4) (.skip)
        (.seq (.region false [⟨(some 6), .bin .eql (.t 3) (.k (.d (.int .i64 3))), none, []⟩,
          ⟨(some 4), .mv (.t 6), none, [0]⟩])
         (.cond (.t 4) (.skip)
          (.seq (.region false [⟨(some 7), .bin .eql (.t 3) (.k (.d (.int .i64 4))), none, []⟩,
            ⟨(some 4), .mv (.t 7), none, [0]⟩])
           (.cond (.t 4) (.skip)
            (.region false [⟨(some 8), .bin .eql (.t 3) (.k (.d (.int .i64 10))), none, []⟩,
             ⟨(some 4), .mv (.t 8), none, [0]⟩])))))))
      (.cond (.t 4) (.seq (.region false [⟨(some 2), .mv (.k (.d (.int .i64 1))), none, []⟩])
        .ret)
       (.seq (.seq (.region false [⟨(some 10), .bin .eql (.t 3) (.k (.d (.int .i64 5))), none, []⟩,
          ⟨(some 9), .mv (.t 10), none, [0]⟩])
         (.cond (.t 9) (.skip)
          (.seq (.region false [⟨(some 11), .bin .eql (.t 3) (.k (.d (.int .i64 6))), none, []⟩,
            ⟨(some 9), .mv (.t 11), none, [0]⟩])
           (.cond (.t 9) (.skip)
            (.seq (.region false [⟨(some 12), .bin .eql (.t 3) (.k (.d (.int .i64 7))), none, []⟩,
              ⟨(some 9), .mv (.t 12), none, [0]⟩])
             (.cond (.t 9) (.skip)
              (.seq (.region false [⟨(some 13), .bin .eql (.t 3) (.k (.d (.int .i64 8))), none, []⟩,
                ⟨(some 9), .mv (.t 13), none, [0]⟩])
               (.cond (.t 9) (.skip)
                (.region false [⟨(some 14), .bin .eql (.t 3) (.k (.d (.int .i64 14))), none, []⟩,
                 ⟨(some 9), .mv (.t 14), none, [0]⟩])))))))))
        (.cond (.t 9) (.seq (.region false [⟨(some 2), .mv (.k (.d (.int .i64 2))), none, []⟩])
          .ret)
         (.seq (.seq (.region false [⟨(some 16), .bin .eql (.t 3) (.k (.d (.int .i64 9))), none, []⟩,
            ⟨(some 15), .mv (.t 16), none, [0]⟩])
           (.cond (.t 15) (.skip)
            (.region false [⟨(some 17), .bin .eql (.t 3) (.k (.d (.int .i64 11))), none, []⟩,
             ⟨(some 15), .mv (.t 17), none, [0]⟩])))
          (.cond (.t 15) (.seq (.region false [⟨(some 2), .mv (.k (.d (.int .i64 4))), none, []⟩])
            .ret)
           (.seq (.region false [⟨(some 19), .bin .eql (.t 3) (.k (.d (.int .i64 12))), none, []⟩,
             ⟨(some 18), .mv (.t 19), none, [0]⟩])
            (.cond (.t 18) (.seq (.region false [⟨(some 2), .mv (.k (.d (.int .i64 12))), none, []⟩])
              .ret)
             (.seq (.region false [⟨(some 21), .bin .eql (.t 3) (.k (.d (.int .i64 13))), none, []⟩,
               ⟨(some 20), .mv (.t 21), none, [0]⟩])
              (.cond (.t 20) (.seq (.region false [⟨(some 2), .mv (.k (.d (.int .i64 5))), none, []⟩])
                .ret)
               (.skip)))))))))))))
   (.seq (.region false [⟨(some 2), .mv (.k (.d (.int .i64 0))), none, []⟩])
    .ret))) }
def HC463 (P : Program) (N : Nat → Nat) : Prop := HasF P (N 463) (C463 N)
def f463_j94 (k : Nat) (a0 : Int) (j94_1 : Bool) : Option Int := cond j94_1 (some (4 : Int)) (cond (decide (a0 = (12 : Int))) (some (12 : Int)) (cond (decide (a0 = (13 : Int))) (some (5 : Int)) (some (0 : Int))))
def f463_j76 (k : Nat) (a0 : Int) (j76_1 : Bool) : Option Int := cond j76_1 (some (2 : Int)) (cond (decide (a0 = (9 : Int))) (f463_j94 k a0 (decide (a0 = (9 : Int)))) (f463_j94 k a0 (decide (a0 = (11 : Int)))))
def f463_j37 (k : Nat) (a0 : Int) (j37_1 : Bool) : Option Int := cond j37_1 (some (1 : Int)) (cond (decide (a0 = (5 : Int))) (f463_j76 k a0 (decide (a0 = (5 : Int)))) (cond (decide (a0 = (6 : Int))) (f463_j76 k a0 (decide (a0 = (6 : Int)))) (cond (decide (a0 = (7 : Int))) (f463_j76 k a0 (decide (a0 = (7 : Int)))) (cond (decide (a0 = (8 : Int))) (f463_j76 k a0 (decide (a0 = (8 : Int)))) (f463_j76 k a0 (decide (a0 = (14 : Int))))))))
def f463 (k : Nat) (a0 : Int) : Option Int := cond (decide (a0 = (2 : Int))) (f463_j37 k a0 (decide (a0 = (2 : Int)))) (cond (decide (a0 = (3 : Int))) (f463_j37 k a0 (decide (a0 = (3 : Int)))) (cond (decide (a0 = (4 : Int))) (f463_j37 k a0 (decide (a0 = (4 : Int)))) (f463_j37 k a0 (decide (a0 = (10 : Int))))))
theorem F463 {P : Program} {N : Nat → Nat} (hmix : P.follows .mixedOrders = true) (hc : HC463 P N) {k : Nat} {a0 : Int} {r : Int} (h : f463 k a0 = some r) :
    ACalls P (N 463) [(.d (.int .i64 a0))] [] (.d (.int .i64 r)) [] := by
  refine acalls_canon (F := C463 N) hc 0 0 rfl ?_
  unfold f463 at h
  dsimp only [C463, startL]
  refine AWc.seq ?_
  refine AWc.rE hmix [] ?_
  refine AWc.seq ?_
  refine AWc.seq ?_
  refine AWc.rE hmix [] ?_
  refine AWc.block ?_
  refine AWc.seqS (N := 22) 0 (fun (z : Bool) => [(3, (.d (.int .i64 a0))), (4, (.d (.bool z)))]) (fun z => []) (fun z => f463_j37 k a0 z = some r) rfl_le ?_ ?_
  · refine AWc.seq ?_
    refine AWc.rE hmix [] ?_
    rcases cc h with ⟨c17, h⟩ | ⟨c17, h⟩
    · refine AWc.cT c17 ?_
      refine AWc.skip ?_
      exact ⟨(decide (a0 = (2 : Int))), h, (inT [] [])⟩
    · refine AWc.cF c17 ?_
      refine AWc.seq ?_
      refine AWc.rE hmix [] ?_
      rcases cc h with ⟨c24, h⟩ | ⟨c24, h⟩
      · refine AWc.cT c24 ?_
        refine AWc.skip ?_
        exact ⟨(decide (a0 = (3 : Int))), h, (inT [] [])⟩
      · refine AWc.cF c24 ?_
        refine AWc.seq ?_
        refine AWc.rE hmix [] ?_
        rcases cc h with ⟨c31, h⟩ | ⟨c31, h⟩
        · refine AWc.cT c31 ?_
          refine AWc.skip ?_
          exact ⟨(decide (a0 = (4 : Int))), h, (inT [] [])⟩
        · refine AWc.cF c31 ?_
          refine AWc.rE hmix [] ?_
          exact ⟨(decide (a0 = (10 : Int))), h, (inT [] [])⟩
  · intro j37_1 h
    unfold f463_j37 at h
    rcases cc h with ⟨c37, h⟩ | ⟨c37, h⟩
    · refine AWc.cT c37 ?_
      refine AWc.seq ?_
      refine AWc.rE hmix [] ?_
      have hr := Option.some.inj h
      subst hr
      exact AWc.ret (canQ (N := 22) (k := 0) (l' := [(2, (.d (.int .i64 (1 : Int))))]) (H' := []) rfl (inT [] []) (doneA (.inr rfl) rfl ⟨trivial, trivial⟩ (.refl _) hasNil))
    · refine AWc.cF c37 ?_
      refine AWc.seqS (N := 22) 0 (fun (z : Bool) => [(3, (.d (.int .i64 a0))), (9, (.d (.bool z)))]) (fun z => []) (fun z => f463_j76 k a0 z = some r) rfl_le ?_ ?_
      · refine AWc.seq ?_
        refine AWc.rE hmix [] ?_
        rcases cc h with ⟨c49, h⟩ | ⟨c49, h⟩
        · refine AWc.cT c49 ?_
          refine AWc.skip ?_
          exact ⟨(decide (a0 = (5 : Int))), h, (inT [] [])⟩
        · refine AWc.cF c49 ?_
          refine AWc.seq ?_
          refine AWc.rE hmix [] ?_
          rcases cc h with ⟨c56, h⟩ | ⟨c56, h⟩
          · refine AWc.cT c56 ?_
            refine AWc.skip ?_
            exact ⟨(decide (a0 = (6 : Int))), h, (inT [] [])⟩
          · refine AWc.cF c56 ?_
            refine AWc.seq ?_
            refine AWc.rE hmix [] ?_
            rcases cc h with ⟨c63, h⟩ | ⟨c63, h⟩
            · refine AWc.cT c63 ?_
              refine AWc.skip ?_
              exact ⟨(decide (a0 = (7 : Int))), h, (inT [] [])⟩
            · refine AWc.cF c63 ?_
              refine AWc.seq ?_
              refine AWc.rE hmix [] ?_
              rcases cc h with ⟨c70, h⟩ | ⟨c70, h⟩
              · refine AWc.cT c70 ?_
                refine AWc.skip ?_
                exact ⟨(decide (a0 = (8 : Int))), h, (inT [] [])⟩
              · refine AWc.cF c70 ?_
                refine AWc.rE hmix [] ?_
                exact ⟨(decide (a0 = (14 : Int))), h, (inT [] [])⟩
      · intro j76_1 h
        unfold f463_j76 at h
        rcases cc h with ⟨c76, h⟩ | ⟨c76, h⟩
        · refine AWc.cT c76 ?_
          refine AWc.seq ?_
          refine AWc.rE hmix [] ?_
          have hr := Option.some.inj h
          subst hr
          exact AWc.ret (canQ (N := 22) (k := 0) (l' := [(2, (.d (.int .i64 (2 : Int))))]) (H' := []) rfl (inT [] []) (doneA (.inr rfl) rfl ⟨trivial, trivial⟩ (.refl _) hasNil))
        · refine AWc.cF c76 ?_
          refine AWc.seqS (N := 22) 0 (fun (z : Bool) => [(3, (.d (.int .i64 a0))), (15, (.d (.bool z)))]) (fun z => []) (fun z => f463_j94 k a0 z = some r) rfl_le ?_ ?_
          · refine AWc.seq ?_
            refine AWc.rE hmix [] ?_
            rcases cc h with ⟨c88, h⟩ | ⟨c88, h⟩
            · refine AWc.cT c88 ?_
              refine AWc.skip ?_
              exact ⟨(decide (a0 = (9 : Int))), h, (inT [] [])⟩
            · refine AWc.cF c88 ?_
              refine AWc.rE hmix [] ?_
              exact ⟨(decide (a0 = (11 : Int))), h, (inT [] [])⟩
          · intro j94_1 h
            unfold f463_j94 at h
            rcases cc h with ⟨c94, h⟩ | ⟨c94, h⟩
            · refine AWc.cT c94 ?_
              refine AWc.seq ?_
              refine AWc.rE hmix [] ?_
              have hr := Option.some.inj h
              subst hr
              exact AWc.ret (canQ (N := 22) (k := 0) (l' := [(2, (.d (.int .i64 (4 : Int))))]) (H' := []) rfl (inT [] []) (doneA (.inr rfl) rfl ⟨trivial, trivial⟩ (.refl _) hasNil))
            · refine AWc.cF c94 ?_
              refine AWc.seq ?_
              refine AWc.rE hmix [] ?_
              rcases cc h with ⟨c105, h⟩ | ⟨c105, h⟩
              · refine AWc.cT c105 ?_
                refine AWc.seq ?_
                refine AWc.rE hmix [] ?_
                have hr := Option.some.inj h
                subst hr
                exact AWc.ret (canQ (N := 22) (k := 0) (l' := [(2, (.d (.int .i64 (12 : Int))))]) (H' := []) rfl (inT [] []) (doneA (.inr rfl) rfl ⟨trivial, trivial⟩ (.refl _) hasNil))
              · refine AWc.cF c105 ?_
                refine AWc.seq ?_
                refine AWc.rE hmix [] ?_
                rcases cc h with ⟨c116, h⟩ | ⟨c116, h⟩
                · refine AWc.cT c116 ?_
                  refine AWc.seq ?_
                  refine AWc.rE hmix [] ?_
                  have hr := Option.some.inj h
                  subst hr
                  exact AWc.ret (canQ (N := 22) (k := 0) (l' := [(2, (.d (.int .i64 (5 : Int))))]) (H' := []) rfl (inT [] []) (doneA (.inr rfl) rfl ⟨trivial, trivial⟩ (.refl _) hasNil))
                · refine AWc.cF c116 ?_
                  refine AWc.skip ?_
                  refine AWc.seq ?_
                  refine AWc.rE hmix [] ?_
                  have hr := Option.some.inj h
                  subst hr
                  exact AWc.ret (canQ (N := 22) (k := 0) (l' := [(2, (.d (.int .i64 (0 : Int))))]) (H' := []) rfl (inT [] []) (doneA (.inr rfl) rfl ⟨trivial, trivial⟩ (.refl _) hasNil))
/-- courant/value.zero -/
def C462 (N : Nat → Nat) : AFunc := { n := 48, params := 1, res := [.tmp 2], body :=
 (.seq (.region false [⟨(some 1), .box (.t 0), none, []⟩,
   ⟨(some 2), .mv (.k (.d (.bool false))), none, []⟩])
  (.seq (.region false [⟨(some 4), .faddr (.t 1) 0, none, []⟩,
    ⟨(some 5), .load (.t 4) 1 false, none, [0]⟩,
    ⟨(some 6), .call (.k (.d (.fn (N 463)))) [(.t 5)], none, [1]⟩,
    ⟨(some 3), .mv (.t 6), none, [2, 0, 1]⟩])
   (.seq (.region false [⟨(some 7), .mv (.t 3), none, []⟩,
     ⟨(some 8), .bin .and (.t 7) (.k (.d (.int .i64 1))), none, [0]⟩,
     ⟨(some 9), .bin .neq (.t 8) (.k (.d (.int .i64 0))), none, [1]⟩,
     ⟨(some 10), .mv (.t 9), none, [2]⟩,
     ⟨(some 11), .faddr (.t 1) 1, (some (10, false)), [3]⟩,
     ⟨(some 12), .load (.t 11) 1 false, (some (10, false)), [4, 3]⟩,
     ⟨(some 13), .bin .eql (.t 12) (.k (.d (.int .i64 0))), (some (10, false)), [5, 3]⟩,
     ⟨(some 14), .pick (.t 10) (.k (.d (.bool true))) (.t 13), none, [3, 6]⟩,
     ⟨(some 15), .mv (.t 14), none, [7, 3]⟩,
     ⟨(some 16), .mv (.t 3), (some (15, true)), [8]⟩,
     ⟨(some 17), .bin .and (.t 16) (.k (.d (.int .i64 2))), (some (15, true)), [9, 8]⟩,
     ⟨(some 18), .bin .neq (.t 17) (.k (.d (.int .i64 0))), (some (15, true)), [10, 8]⟩,
     ⟨(some 19), .mv (.t 18), (some (15, true)), [11, 8]⟩,
     ⟨(some 20), .faddr (.t 1) 2, (some (19, false)), [12]⟩,
     ⟨(some 21), .load (.t 20) 1 false, (some (19, false)), [13, 12]⟩,
     ⟨(some 22), .len (.t 21), (some (19, false)), [14, 12]⟩,
     ⟨(some 23), .bin .eql (.t 22) (.k (.d (.int .i64 0))), (some (19, false)), [15, 12]⟩,
     ⟨(some 24), .pick (.t 19) (.k (.d (.bool true))) (.t 23), (some (15, true)), [12, 16, 8]⟩,
     ⟨(some 25), .pick (.t 15) (.t 24) (.k (.d (.bool false))), none, [8, 17]⟩,
     ⟨(some 26), .mv (.t 25), none, [18, 12]⟩,
     ⟨(some 27), .mv (.t 3), (some (26, true)), [19]⟩,
     ⟨(some 28), .bin .and (.t 27) (.k (.d (.int .i64 4))), (some (26, true)), [20, 19]⟩,
     ⟨(some 29), .bin .neq (.t 28) (.k (.d (.int .i64 0))), (some (26, true)), [21, 19]⟩,
     ⟨(some 30), .mv (.t 29), (some (26, true)), [22, 19]⟩,
     ⟨(some 31), .faddr (.t 1) 3, (some (30, false)), [23]⟩,
     ⟨(some 32), .load (.t 31) 1 false, (some (30, false)), [24, 23]⟩,
     ⟨(some 33), .len (.t 32), (some (30, false)), [25, 23]⟩,
     ⟨(some 34), .bin .eql (.t 33) (.k (.d (.int .i64 0))), (some (30, false)), [26, 23]⟩,
     ⟨(some 35), .pick (.t 30) (.k (.d (.bool true))) (.t 34), (some (26, true)), [23, 27, 19]⟩,
     ⟨(some 36), .pick (.t 26) (.t 35) (.k (.d (.bool false))), none, [19, 28]⟩,
     ⟨(some 37), .mv (.t 36), none, [29, 23]⟩,
     ⟨(some 38), .mv (.t 3), (some (37, true)), [30]⟩,
     ⟨(some 39), .bin .and (.t 38) (.k (.d (.int .i64 8))), (some (37, true)), [31, 30]⟩,
     ⟨(some 40), .bin .neq (.t 39) (.k (.d (.int .i64 0))), (some (37, true)), [32, 30]⟩,
     ⟨(some 41), .mv (.t 40), (some (37, true)), [33, 30]⟩,
     ⟨(some 42), .faddr (.t 1) 4, (some (41, false)), [34]⟩,
     ⟨(some 43), .load (.t 42) 1 false, (some (41, false)), [35, 34]⟩,
     ⟨(some 44), .len (.t 43), (some (41, false)), [36, 34]⟩,
     ⟨(some 45), .bin .eql (.t 44) (.k (.d (.int .i64 0))), (some (41, false)), [37, 34]⟩,
     ⟨(some 46), .pick (.t 41) (.k (.d (.bool true))) (.t 45), (some (37, true)), [34, 38, 30]⟩,
     ⟨(some 47), .pick (.t 37) (.t 46) (.k (.d (.bool false))), none, [30, 39]⟩,
     ⟨(some 2), .mv (.t 47), none, [40, 34, 0, 1, 2, 3, 4, 5, 6, 7, 8, 9, 10, 11, 12, 13, 14, 15, 16, 17, 18, 19, 20, 21, 22, 23, 24, 25, 26, 27, 28, 29, 30, 31, 32, 33, 35, 36, 37, 38, 39]⟩])
    .ret))) }
def HC462 (P : Program) (N : Nat → Nat) : Prop := HasF P (N 462) (C462 N) ∧ HC463 P N
def f462 (k : Nat) (a0 : TValue) : Option Bool := (f463 k a0.fKind).bind fun r11 => cond (decide ((bitsA .and .i64 r11 (1 : Int)) ≠ (0 : Int))) (cond (decide ((bitsA .and .i64 r11 (2 : Int)) ≠ (0 : Int))) (cond (decide ((bitsA .and .i64 r11 (4 : Int)) ≠ (0 : Int))) (cond (decide ((bitsA .and .i64 r11 (8 : Int)) ≠ (0 : Int))) (some true) (some (decide (((a0.fKeys.length : Nat) : Int) = (0 : Int))))) (cond (decide (((a0.fL.length : Nat) : Int) = (0 : Int))) (cond (decide ((bitsA .and .i64 r11 (8 : Int)) ≠ (0 : Int))) (some true) (some (decide (((a0.fKeys.length : Nat) : Int) = (0 : Int))))) (some false))) (cond (decide (((a0.fB.length : Nat) : Int) = (0 : Int))) (cond (decide ((bitsA .and .i64 r11 (4 : Int)) ≠ (0 : Int))) (cond (decide ((bitsA .and .i64 r11 (8 : Int)) ≠ (0 : Int))) (some true) (some (decide (((a0.fKeys.length : Nat) : Int) = (0 : Int))))) (cond (decide (((a0.fL.length : Nat) : Int) = (0 : Int))) (cond (decide ((bitsA .and .i64 r11 (8 : Int)) ≠ (0 : Int))) (some true) (some (decide (((a0.fKeys.length : Nat) : Int) = (0 : Int))))) (some false))) (some false))) (cond (decide (a0.fN = (0 : Int))) (cond (decide ((bitsA .and .i64 r11 (2 : Int)) ≠ (0 : Int))) (cond (decide ((bitsA .and .i64 r11 (4 : Int)) ≠ (0 : Int))) (cond (decide ((bitsA .and .i64 r11 (8 : Int)) ≠ (0 : Int))) (some true) (some (decide (((a0.fKeys.length : Nat) : Int) = (0 : Int))))) (cond (decide (((a0.fL.length : Nat) : Int) = (0 : Int))) (cond (decide ((bitsA .and .i64 r11 (8 : Int)) ≠ (0 : Int))) (some true) (some (decide (((a0.fKeys.length : Nat) : Int) = (0 : Int))))) (some false))) (cond (decide (((a0.fB.length : Nat) : Int) = (0 : Int))) (cond (decide ((bitsA .and .i64 r11 (4 : Int)) ≠ (0 : Int))) (cond (decide ((bitsA .and .i64 r11 (8 : Int)) ≠ (0 : Int))) (some true) (some (decide (((a0.fKeys.length : Nat) : Int) = (0 : Int))))) (cond (decide (((a0.fL.length : Nat) : Int) = (0 : Int))) (cond (decide ((bitsA .and .i64 r11 (8 : Int)) ≠ (0 : Int))) (some true) (some (decide (((a0.fKeys.length : Nat) : Int) = (0 : Int))))) (some false))) (some false))) (some false))
theorem F462 {P : Program} {N : Nat → Nat} (hmix : P.follows .mixedOrders = true) (hc : HC462 P N) {k : Nat} {a0 : TValue} {r : Bool} (h : f462 k a0 = some r) :
    ACalls P (N 462) [(.d (TValue.enc a0))] [] (.d (.bool r)) [] := by
  refine acalls_canon (F := C462 N) hc.1 0 0 rfl ?_
  unfold f462 at h
  dsimp only [C462, startL]
  refine AWc.seq ?_
  refine AWc.rE hmix [] ?_
  refine AWc.seq ?_
  obtain ⟨r11, e11, h⟩ := bind_some h
  refine AWc.rE hmix [.call (F463 hmix hc.2 e11) [] 0] ?_
  refine AWc.seq ?_
  rcases cc h with ⟨c19, h⟩ | ⟨c19, h⟩
  · rcases cc h with ⟨c28, h⟩ | ⟨c28, h⟩
    · rcases cc h with ⟨c39, h⟩ | ⟨c39, h⟩
      · rcases cc h with ⟨c50, h⟩ | ⟨c50, h⟩
        · refine AWc.rE hmix [.br c19, .br (rfl : true = true), .br c28, .br (rfl : true = true), .br c39, .br (rfl : true = true), .br c50] ?_
          have hr := Option.some.inj h
          subst hr
          exact AWc.ret (canQ (N := 48) (k := 0) (l' := [(2, (.d (.bool true)))]) (H' := []) rfl (inT [] []) (doneA (.inr rfl) rfl ⟨trivial, trivial⟩ (.refl _) hasNil))
        · refine AWc.rE hmix [.br c19, .br (rfl : true = true), .br c28, .br (rfl : true = true), .br c39, .br (rfl : true = true), .br c50, .ln D.str a0.fKeys] ?_
          have hr := Option.some.inj h
          subst hr
          exact AWc.ret (canQ (N := 48) (k := 0) (l' := [(2, (.d (.bool (decide (((a0.fKeys.length : Nat) : Int) = (0 : Int))))))]) (H' := []) rfl (inT [] []) (doneA (.inr rfl) rfl ⟨trivial, trivial⟩ (.refl _) hasNil))
      · rcases cc h with ⟨c46, h⟩ | ⟨c46, h⟩
        · rcases cc h with ⟨c50, h⟩ | ⟨c50, h⟩
          · refine AWc.rE hmix [.br c19, .br (rfl : true = true), .br c28, .br (rfl : true = true), .br c39, .ln (rtE (z := 5)) a0.fL, .br c46, .br c50] ?_
            have hr := Option.some.inj h
            subst hr
            exact AWc.ret (canQ (N := 48) (k := 0) (l' := [(2, (.d (.bool true)))]) (H' := []) rfl (inT [] []) (doneA (.inr rfl) rfl ⟨trivial, trivial⟩ (.refl _) hasNil))
          · refine AWc.rE hmix [.br c19, .br (rfl : true = true), .br c28, .br (rfl : true = true), .br c39, .ln (rtE (z := 5)) a0.fL, .br c46, .br c50, .ln D.str a0.fKeys] ?_
            have hr := Option.some.inj h
            subst hr
            exact AWc.ret (canQ (N := 48) (k := 0) (l' := [(2, (.d (.bool (decide (((a0.fKeys.length : Nat) : Int) = (0 : Int))))))]) (H' := []) rfl (inT [] []) (doneA (.inr rfl) rfl ⟨trivial, trivial⟩ (.refl _) hasNil))
        · refine AWc.rE hmix [.br c19, .br (rfl : true = true), .br c28, .br (rfl : true = true), .br c39, .ln (rtE (z := 5)) a0.fL, .br c46] ?_
          have hr := Option.some.inj h
          subst hr
          exact AWc.ret (canQ (N := 48) (k := 0) (l' := [(2, (.d (.bool false)))]) (H' := []) rfl (inT [] []) (doneA (.inr rfl) rfl ⟨trivial, trivial⟩ (.refl _) hasNil))
    · rcases cc h with ⟨c35, h⟩ | ⟨c35, h⟩
      · rcases cc h with ⟨c39, h⟩ | ⟨c39, h⟩
        · rcases cc h with ⟨c50, h⟩ | ⟨c50, h⟩
          · refine AWc.rE hmix [.br c19, .br (rfl : true = true), .br c28, .ln byteD a0.fB, .br c35, .br c39, .br (rfl : true = true), .br c50] ?_
            have hr := Option.some.inj h
            subst hr
            exact AWc.ret (canQ (N := 48) (k := 0) (l' := [(2, (.d (.bool true)))]) (H' := []) rfl (inT [] []) (doneA (.inr rfl) rfl ⟨trivial, trivial⟩ (.refl _) hasNil))
          · refine AWc.rE hmix [.br c19, .br (rfl : true = true), .br c28, .ln byteD a0.fB, .br c35, .br c39, .br (rfl : true = true), .br c50, .ln D.str a0.fKeys] ?_
            have hr := Option.some.inj h
            subst hr
            exact AWc.ret (canQ (N := 48) (k := 0) (l' := [(2, (.d (.bool (decide (((a0.fKeys.length : Nat) : Int) = (0 : Int))))))]) (H' := []) rfl (inT [] []) (doneA (.inr rfl) rfl ⟨trivial, trivial⟩ (.refl _) hasNil))
        · rcases cc h with ⟨c46, h⟩ | ⟨c46, h⟩
          · rcases cc h with ⟨c50, h⟩ | ⟨c50, h⟩
            · refine AWc.rE hmix [.br c19, .br (rfl : true = true), .br c28, .ln byteD a0.fB, .br c35, .br c39, .ln (rtE (z := 5)) a0.fL, .br c46, .br c50] ?_
              have hr := Option.some.inj h
              subst hr
              exact AWc.ret (canQ (N := 48) (k := 0) (l' := [(2, (.d (.bool true)))]) (H' := []) rfl (inT [] []) (doneA (.inr rfl) rfl ⟨trivial, trivial⟩ (.refl _) hasNil))
            · refine AWc.rE hmix [.br c19, .br (rfl : true = true), .br c28, .ln byteD a0.fB, .br c35, .br c39, .ln (rtE (z := 5)) a0.fL, .br c46, .br c50, .ln D.str a0.fKeys] ?_
              have hr := Option.some.inj h
              subst hr
              exact AWc.ret (canQ (N := 48) (k := 0) (l' := [(2, (.d (.bool (decide (((a0.fKeys.length : Nat) : Int) = (0 : Int))))))]) (H' := []) rfl (inT [] []) (doneA (.inr rfl) rfl ⟨trivial, trivial⟩ (.refl _) hasNil))
          · refine AWc.rE hmix [.br c19, .br (rfl : true = true), .br c28, .ln byteD a0.fB, .br c35, .br c39, .ln (rtE (z := 5)) a0.fL, .br c46] ?_
            have hr := Option.some.inj h
            subst hr
            exact AWc.ret (canQ (N := 48) (k := 0) (l' := [(2, (.d (.bool false)))]) (H' := []) rfl (inT [] []) (doneA (.inr rfl) rfl ⟨trivial, trivial⟩ (.refl _) hasNil))
      · refine AWc.rE hmix [.br c19, .br (rfl : true = true), .br c28, .ln byteD a0.fB, .br c35, .br (rfl : false = false)] ?_
        have hr := Option.some.inj h
        subst hr
        exact AWc.ret (canQ (N := 48) (k := 0) (l' := [(2, (.d (.bool false)))]) (H' := []) rfl (inT [] []) (doneA (.inr rfl) rfl ⟨trivial, trivial⟩ (.refl _) hasNil))
  · rcases cc h with ⟨c24, h⟩ | ⟨c24, h⟩
    · rcases cc h with ⟨c28, h⟩ | ⟨c28, h⟩
      · rcases cc h with ⟨c39, h⟩ | ⟨c39, h⟩
        · rcases cc h with ⟨c50, h⟩ | ⟨c50, h⟩
          · refine AWc.rE hmix [.br c19, .br c24, .br c28, .br (rfl : true = true), .br c39, .br (rfl : true = true), .br c50] ?_
            have hr := Option.some.inj h
            subst hr
            exact AWc.ret (canQ (N := 48) (k := 0) (l' := [(2, (.d (.bool true)))]) (H' := []) rfl (inT [] []) (doneA (.inr rfl) rfl ⟨trivial, trivial⟩ (.refl _) hasNil))
          · refine AWc.rE hmix [.br c19, .br c24, .br c28, .br (rfl : true = true), .br c39, .br (rfl : true = true), .br c50, .ln D.str a0.fKeys] ?_
            have hr := Option.some.inj h
            subst hr
            exact AWc.ret (canQ (N := 48) (k := 0) (l' := [(2, (.d (.bool (decide (((a0.fKeys.length : Nat) : Int) = (0 : Int))))))]) (H' := []) rfl (inT [] []) (doneA (.inr rfl) rfl ⟨trivial, trivial⟩ (.refl _) hasNil))
        · rcases cc h with ⟨c46, h⟩ | ⟨c46, h⟩
          · rcases cc h with ⟨c50, h⟩ | ⟨c50, h⟩
            · refine AWc.rE hmix [.br c19, .br c24, .br c28, .br (rfl : true = true), .br c39, .ln (rtE (z := 5)) a0.fL, .br c46, .br c50] ?_
              have hr := Option.some.inj h
              subst hr
              exact AWc.ret (canQ (N := 48) (k := 0) (l' := [(2, (.d (.bool true)))]) (H' := []) rfl (inT [] []) (doneA (.inr rfl) rfl ⟨trivial, trivial⟩ (.refl _) hasNil))
            · refine AWc.rE hmix [.br c19, .br c24, .br c28, .br (rfl : true = true), .br c39, .ln (rtE (z := 5)) a0.fL, .br c46, .br c50, .ln D.str a0.fKeys] ?_
              have hr := Option.some.inj h
              subst hr
              exact AWc.ret (canQ (N := 48) (k := 0) (l' := [(2, (.d (.bool (decide (((a0.fKeys.length : Nat) : Int) = (0 : Int))))))]) (H' := []) rfl (inT [] []) (doneA (.inr rfl) rfl ⟨trivial, trivial⟩ (.refl _) hasNil))
          · refine AWc.rE hmix [.br c19, .br c24, .br c28, .br (rfl : true = true), .br c39, .ln (rtE (z := 5)) a0.fL, .br c46] ?_
            have hr := Option.some.inj h
            subst hr
            exact AWc.ret (canQ (N := 48) (k := 0) (l' := [(2, (.d (.bool false)))]) (H' := []) rfl (inT [] []) (doneA (.inr rfl) rfl ⟨trivial, trivial⟩ (.refl _) hasNil))
      · rcases cc h with ⟨c35, h⟩ | ⟨c35, h⟩
        · rcases cc h with ⟨c39, h⟩ | ⟨c39, h⟩
          · rcases cc h with ⟨c50, h⟩ | ⟨c50, h⟩
            · refine AWc.rE hmix [.br c19, .br c24, .br c28, .ln byteD a0.fB, .br c35, .br c39, .br (rfl : true = true), .br c50] ?_
              have hr := Option.some.inj h
              subst hr
              exact AWc.ret (canQ (N := 48) (k := 0) (l' := [(2, (.d (.bool true)))]) (H' := []) rfl (inT [] []) (doneA (.inr rfl) rfl ⟨trivial, trivial⟩ (.refl _) hasNil))
            · refine AWc.rE hmix [.br c19, .br c24, .br c28, .ln byteD a0.fB, .br c35, .br c39, .br (rfl : true = true), .br c50, .ln D.str a0.fKeys] ?_
              have hr := Option.some.inj h
              subst hr
              exact AWc.ret (canQ (N := 48) (k := 0) (l' := [(2, (.d (.bool (decide (((a0.fKeys.length : Nat) : Int) = (0 : Int))))))]) (H' := []) rfl (inT [] []) (doneA (.inr rfl) rfl ⟨trivial, trivial⟩ (.refl _) hasNil))
          · rcases cc h with ⟨c46, h⟩ | ⟨c46, h⟩
            · rcases cc h with ⟨c50, h⟩ | ⟨c50, h⟩
              · refine AWc.rE hmix [.br c19, .br c24, .br c28, .ln byteD a0.fB, .br c35, .br c39, .ln (rtE (z := 5)) a0.fL, .br c46, .br c50] ?_
                have hr := Option.some.inj h
                subst hr
                exact AWc.ret (canQ (N := 48) (k := 0) (l' := [(2, (.d (.bool true)))]) (H' := []) rfl (inT [] []) (doneA (.inr rfl) rfl ⟨trivial, trivial⟩ (.refl _) hasNil))
              · refine AWc.rE hmix [.br c19, .br c24, .br c28, .ln byteD a0.fB, .br c35, .br c39, .ln (rtE (z := 5)) a0.fL, .br c46, .br c50, .ln D.str a0.fKeys] ?_
                have hr := Option.some.inj h
                subst hr
                exact AWc.ret (canQ (N := 48) (k := 0) (l' := [(2, (.d (.bool (decide (((a0.fKeys.length : Nat) : Int) = (0 : Int))))))]) (H' := []) rfl (inT [] []) (doneA (.inr rfl) rfl ⟨trivial, trivial⟩ (.refl _) hasNil))
            · refine AWc.rE hmix [.br c19, .br c24, .br c28, .ln byteD a0.fB, .br c35, .br c39, .ln (rtE (z := 5)) a0.fL, .br c46] ?_
              have hr := Option.some.inj h
              subst hr
              exact AWc.ret (canQ (N := 48) (k := 0) (l' := [(2, (.d (.bool false)))]) (H' := []) rfl (inT [] []) (doneA (.inr rfl) rfl ⟨trivial, trivial⟩ (.refl _) hasNil))
        · refine AWc.rE hmix [.br c19, .br c24, .br c28, .ln byteD a0.fB, .br c35, .br (rfl : false = false)] ?_
          have hr := Option.some.inj h
          subst hr
          exact AWc.ret (canQ (N := 48) (k := 0) (l' := [(2, (.d (.bool false)))]) (H' := []) rfl (inT [] []) (doneA (.inr rfl) rfl ⟨trivial, trivial⟩ (.refl _) hasNil))
    · refine AWc.rE hmix [.br c19, .br c24, .br (rfl : false = false), .br (rfl : false = false)] ?_
      have hr := Option.some.inj h
      subst hr
      exact AWc.ret (canQ (N := 48) (k := 0) (l' := [(2, (.d (.bool false)))]) (H' := []) rfl (inT [] []) (doneA (.inr rfl) rfl ⟨trivial, trivial⟩ (.refl _) hasNil))
/-- courant/value.within -/
def C467 (N : Nat → Nat) : AFunc := { n := 44, params := 3, res := [.tmp 6], body :=
 (.seq (.region false [⟨(some 3), .box (.t 0), none, []⟩,
   ⟨(some 4), .box (.t 1), none, []⟩,
   ⟨(some 5), .box (.t 2), none, []⟩,
   ⟨(some 6), .mv (.k (.d (.bool false))), none, []⟩])
  (.seq (.seq (.region false [⟨(some 10), .faddr (.t 5) 3, none, []⟩,
     ⟨(some 11), .load (.t 10) 1 false, none, [0]⟩,
     ⟨(some 12), .len (.t 11), none, [1]⟩,
     ⟨(some 13), .mv (.k (.d (.int .i64 0))), none, []⟩])
    (.block 0 (.loop (.seq (.region false [⟨(some 14), .bin .lss (.t 13) (.t 12), none, []⟩])
       (.seq (.cond (.t 14) (.skip)
         (.exit 0))
        (.seq (.block 1 (.seq (.region false [⟨(some 15), .mv (.t 13), none, []⟩,
            ⟨(some 16), .iaddr (.t 11) (.t 13) 5, none, []⟩,
            ⟨(some 17), .load (.t 16) 5 true, none, [1]⟩,
            ⟨(some 8), .alloc [(.int .i64 0), (.int .i64 0), (.sl []), (.sl []), (.sl [])], none, []⟩,
            ⟨(some 7), .mv (.t 15), none, [0, 1, 2, 3]⟩,
            ⟨none, .store (.t 8) (.t 17) 5, none, [3, 2, 4, 0, 1]⟩])
           (.seq (.region false [⟨(some 18), .faddr (.t 4) 7, none, []⟩,
             ⟨(some 19), .load (.t 18) 1 false, none, [0]⟩,
             ⟨(some 9), .mv (.t 19), none, [1, 0]⟩])
            (.seq (.seq (.region false [⟨(some 20), .faddr (.t 4) 0, none, []⟩,
               ⟨(some 21), .load (.t 20) 1 false, none, [0]⟩])
              (.block 2 (.seq (.region false [⟨(some 23), .bin .eql (.t 21) (.k (.d (.int .i64 9))), none, []⟩,
                 ⟨(some 22), .mv (.t 23), none, [0]⟩])
                (.cond (.t 22) (.region false [⟨(some 24), .faddr (.t 4) 3, none, []⟩,
                  ⟨(some 25), .load (.t 24) 1 false, none, [0]⟩,
                  ⟨(some 26), .mv (.t 7), none, []⟩,
                  ⟨(some 27), .iaddr (.t 25) (.t 26) 5, none, [1, 2]⟩,
                  ⟨(some 28), .faddr (.t 27) 2, none, [3]⟩,
                  ⟨(some 29), .load (.t 28) 1 false, none, [4]⟩,
                  ⟨(some 9), .mv (.t 29), none, [5, 0, 1, 2, 3, 4]⟩])
                 (.seq (.region false [⟨(some 31), .bin .eql (.t 21) (.k (.d (.int .i64 13))), none, []⟩,
                   ⟨(some 30), .mv (.t 31), none, [0]⟩])
                  (.cond (.t 30) (.region false [⟨(some 32), .faddr (.t 4) 8, none, []⟩,
                    ⟨(some 33), .load (.t 32) 1 false, none, [0]⟩,
                    ⟨(some 34), .faddr (.t 5) 1, none, []⟩,
                    ⟨(some 35), .load (.t 34) 1 false, none, [2]⟩,
                    ⟨(some 36), .iaddr (.t 33) (.t 35) 1, none, [1, 3]⟩,
                    ⟨(some 37), .load (.t 36) 1 false, none, [4]⟩,
                    ⟨(some 9), .mv (.t 37), none, [5, 0, 1, 2, 3, 4]⟩])
                   (.skip)))))))
             (.seq (.region false [⟨(some 38), .load (.t 3) 1 true, none, []⟩,
               ⟨(some 39), .mv (.t 9), none, []⟩,
               ⟨(some 40), .load (.t 8) 5 true, none, []⟩,
               ⟨(some 41), .call (.k (.d (.fn (N 461)))) [(.t 38), (.t 39), (.t 40)], none, [0, 1, 2]⟩,
               ⟨(some 42), .un .not (.t 41), none, [3]⟩])
              (.cond (.t 42) (.seq (.region false [⟨(some 6), .mv (.k (.d (.bool false))), none, []⟩])
                .ret)
               (.skip)))))))
         (.region false [⟨(some 43), .bin .add (.t 13) (.k (.d (.int .i64 1))), none, []⟩,
          ⟨(some 13), .mv (.t 43), none, [0]⟩])))))))
   (.seq (.region false [⟨(some 6), .mv (.k (.d (.bool true))), none, []⟩])
    .ret))) }
def HC467 (P : Program) (N : Nat → Nat) : Prop := HasF P (N 467) (C467 N)
def f467_j81 (L : Int → Option (LR2 Unit Unit Bool)) (k : Nat) (rc461 : TSchema → Int → TValue → Option Bool) (a0 : TSchema) (rx32 : TValue) (y16_1 : Int) (j81_1 : Int) : Option (LR2 Unit Unit Bool) := (rc461 (TSchema.mk a0.fNodes) j81_1 (TValue.mk rx32.fKind rx32.fN rx32.fB rx32.fL rx32.fKeys)).bind fun r87 => cond (!r87) (some (.r false)) (L (IntKind.i64.wrap (y16_1 + (1 : Int))))
def f467_l16 (a2 : TValue) (a1 : TNode) (rc461 : TSchema → Int → TValue → Option Bool) (a0 : TSchema) : Nat → Int → Option (LR2 Unit Unit Bool)
  | 0, _ => none
  | k + 1, y16_1 => cond (decide (y16_1 < ((a2.fL.length : Nat) : Int))) (gd (0 ≤ y16_1 ∧ y16_1 < ((a2.fL.length : Nat) : Int)) ((TValue.dec (rtE (rd a2.fL y16_1))).bind fun rx32 => cond (decide (a1.fKind = (9 : Int))) (gd (0 ≤ y16_1 ∧ y16_1 < ((a1.fFields.length : Nat) : Int)) (f467_j81 (f467_l16 a2 a1 rc461 a0 k) k rc461 a0 rx32 y16_1 ((rd a1.fFields y16_1).fType))) (cond (decide (a1.fKind = (13 : Int))) (gd (0 ≤ a2.fN ∧ a2.fN < ((a1.fBranches.length : Nat) : Int)) (f467_j81 (f467_l16 a2 a1 rc461 a0 k) k rc461 a0 rx32 y16_1 (rd a1.fBranches a2.fN))) (f467_j81 (f467_l16 a2 a1 rc461 a0 k) k rc461 a0 rx32 y16_1 a1.fItems)))) (some (.b0 ()))
def f467 (rc461 : TSchema → Int → TValue → Option Bool) (k : Nat) (a0 : TSchema) (a1 : TNode) (a2 : TValue) : Option Bool := (f467_l16 a2 a1 rc461 a0 k (0 : Int)).bind fun o16 => (match o16 with | .b0 () => some true | .r x => some x | _ => none)
theorem F467 {P : Program} {N : Nat → Nat} (hmix : P.follows .mixedOrders = true) (hc : HC467 P N) {rc461 : TSchema → Int → TValue → Option Bool} (hrc461 : RH461 P N rc461) {k : Nat} {a0 : TSchema} {a1 : TNode} {a2 : TValue} {r : Bool} (h : f467 rc461 k a0 a1 a2 = some r) :
    ACalls P (N 467) [(.d (TSchema.enc a0)), (.d (TNode.enc a1)), (.d (TValue.enc a2))] [] (.d (.bool r)) [] := by
  refine acalls_canon (F := C467 N) hc 0 0 rfl ?_
  unfold f467 at h
  dsimp only [C467, startL]
  refine AWc.seq ?_
  refine AWc.rE hmix [] ?_
  refine AWc.seq ?_
  refine AWc.seq ?_
  refine AWc.rE hmix [.ln (rtE (z := 5)) a2.fL] ?_
  obtain ⟨o16, h16, h⟩ := bind_some h
  refine AWc.block ?_
  refine AWc.loopK (N := 44) 3 (fun (x : Int) => [(3, (.ptr 0 0)), (4, (.ptr 1 0)), (5, (.ptr 2 0)), (11, (.d (.sl (List.map (rtE (z := 5)) a2.fL)))), (12, (.d (.int .i64 ((a2.fL.length : Nat) : Int)))), (13, (.d (.int .i64 x)))]) (fun x => [(0, (.cells [(.d (.sl (List.map TNode.enc a0.fNodes)))])), (1, (.cells [(.d (.int .i64 a1.fKind)), (.d (.str a1.fName)), (.d (.sl (List.map D.str a1.fAliases))), (.d (.sl (List.map TField.enc a1.fFields))), (.d (.sl (List.map D.str a1.fSymbols))), (.d (.bool a1.fHas)), (.d (.str a1.fDefault)), (.d (.int .i64 a1.fItems)), (.d (.sl (List.map (D.int .i64) a1.fBranches))), (.d (.int .i64 a1.fSize))])), (2, (.cells [(.d (.int .i64 a2.fKind)), (.d (.int .i64 a2.fN)), (.d (.sl (List.map byteD a2.fB))), (.d (.sl (List.map (rtE (z := 5)) a2.fL))), (.d (.sl (List.map D.str a2.fKeys)))]))]) (fun k x => f467_l16 a2 a1 rc461 a0 k x = some o16) k (0 : Int) rfl_le (fun x hx => by cases hx) h16 (inT [] []) ?_
  clear h16
  intro k
  intro y16_1 h16
  rw [f467_l16] at h16
  refine AWc.seq ?_
  refine AWc.rE hmix [] ?_
  refine AWc.seq ?_
  rcases cc h16 with ⟨c23, h16⟩ | ⟨c23, h16⟩
  · refine AWc.cT c23 ?_
    refine AWc.skip ?_
    refine AWc.seq ?_
    refine AWc.block ?_
    refine AWc.seq ?_
    obtain ⟨b32, h16⟩ := gd_some h16
    obtain ⟨rx32, ex32, h16⟩ := bind_some h16
    refine AWc.rE hmix [.iadE (rtE (z := 5)) a2.fL 5 rtE_ok.len b32 (TValue.dec_eq ex32)] ?_
    refine AWc.seq ?_
    refine AWc.rE hmix [] ?_
    refine AWc.seqS (N := 44) 4 (fun (z : Int) => [(3, (.ptr 0 0)), (4, (.ptr 1 0)), (5, (.ptr 2 0)), (8, (.ptr 3 0)), (9, (.d (.int .i64 z))), (11, (.d (.sl (List.map (rtE (z := 5)) a2.fL)))), (12, (.d (.int .i64 ((a2.fL.length : Nat) : Int)))), (13, (.d (.int .i64 y16_1)))]) (fun z => [(0, (.cells [(.d (.sl (List.map TNode.enc a0.fNodes)))])), (1, (.cells [(.d (.int .i64 a1.fKind)), (.d (.str a1.fName)), (.d (.sl (List.map D.str a1.fAliases))), (.d (.sl (List.map TField.enc a1.fFields))), (.d (.sl (List.map D.str a1.fSymbols))), (.d (.bool a1.fHas)), (.d (.str a1.fDefault)), (.d (.int .i64 a1.fItems)), (.d (.sl (List.map (D.int .i64) a1.fBranches))), (.d (.int .i64 a1.fSize))])), (2, (.cells [(.d (.int .i64 a2.fKind)), (.d (.int .i64 a2.fN)), (.d (.sl (List.map byteD a2.fB))), (.d (.sl (List.map (rtE (z := 5)) a2.fL))), (.d (.sl (List.map D.str a2.fKeys)))])), (3, (.cells [(.d (.int .i64 rx32.fKind)), (.d (.int .i64 rx32.fN)), (.d (.sl (List.map byteD rx32.fB))), (.d (.sl (List.map (rtE (z := 5)) rx32.fL))), (.d (.sl (List.map D.str rx32.fKeys)))]))]) (fun z => f467_j81 (f467_l16 a2 a1 rc461 a0 k) k rc461 a0 rx32 y16_1 z = some o16) rfl_le ?_ ?_
    · refine AWc.seq ?_
      refine AWc.rE hmix [] ?_
      refine AWc.block ?_
      refine AWc.seq ?_
      refine AWc.rE hmix [] ?_
      rcases cc h16 with ⟨c55, h16⟩ | ⟨c55, h16⟩
      · refine AWc.cT c55 ?_
        obtain ⟨b61, h16⟩ := gd_some h16
        refine AWc.rE hmix [.iad TField.enc a1.fFields 5 (fun _ => rfl) b61] ?_
        exact ⟨(rd a1.fFields y16_1).fType, h16, (inT [] [])⟩
      · refine AWc.cF c55 ?_
        refine AWc.seq ?_
        refine AWc.rE hmix [] ?_
        rcases cc h16 with ⟨c70, h16⟩ | ⟨c70, h16⟩
        · refine AWc.cT c70 ?_
          obtain ⟨b77, h16⟩ := gd_some h16
          refine AWc.rE hmix [.iad (D.int .i64) a1.fBranches 1 (fun _ => rfl) b77] ?_
          exact ⟨(rd a1.fBranches a2.fN), h16, (inT [] [])⟩
        · refine AWc.cF c70 ?_
          refine AWc.skip ?_
          exact ⟨a1.fItems, h16, (inT [] [])⟩
    · intro j81_1 h16
      unfold f467_j81 at h16
      refine AWc.seq ?_
      obtain ⟨r87, e87, h16⟩ := bind_some h16
      refine AWc.rE hmix [.call (hrc461 _ _ _ _ e87) [] 0] ?_
      rcases cc h16 with ⟨c89, h16⟩ | ⟨c89, h16⟩
      · refine AWc.cT c89 ?_
        refine AWc.seq ?_
        refine AWc.rE hmix [] ?_
        cases h16
        dsimp only at h
        have hr := Option.some.inj h
        subst hr
        exact AWc.ret (canQ (N := 44) (k := 0) (l' := [(6, (.d (.bool false)))]) (H' := []) rfl (inT [] []) (doneA (.inr rfl) rfl ⟨trivial, trivial⟩ (.refl _) hasNil))
      · refine AWc.cF c89 ?_
        refine AWc.skip ?_
        refine AWc.rE hmix [] ?_
        exact ⟨(IntKind.i64.wrap (y16_1 + (1 : Int))), h16, (inT [] [])⟩
  · refine AWc.cF c23 ?_
    cases h16
    dsimp only at h
    refine AWc.exit ?_
    refine inBlk_eq ?_
    refine AWc.seq ?_
    refine AWc.rE hmix [] ?_
    have hr := Option.some.inj h
    subst hr
    exact AWc.ret (canQ (N := 44) (k := 0) (l' := [(6, (.d (.bool true)))]) (H' := []) rfl (inT [] []) (doneA (.inr rfl) rfl ⟨trivial, trivial⟩ (.refl _) hasNil))
/-- courant/value.Fits -/
def C461 (N : Nat → Nat) : AFunc := { n := 167, params := 3, res := [.tmp 6], body :=
 (.seq (.region false [⟨(some 3), .box (.t 0), none, []⟩,
   ⟨(some 5), .box (.t 2), none, []⟩,
   ⟨(some 6), .mv (.k (.d (.bool false))), none, []⟩])
  (.seq (.seq (.region true [⟨(some 8), .mv (.t 1), none, []⟩,
     ⟨(some 9), .bin .lss (.t 8) (.k (.d (.int .i64 0))), none, [0]⟩,
     ⟨(some 10), .mv (.t 9), none, [1]⟩,
     ⟨(some 11), .mv (.t 1), (some (10, false)), [2]⟩,
     ⟨(some 12), .faddr (.t 3) 0, (some (10, false)), [2]⟩,
     ⟨(some 13), .load (.t 12) 1 false, (some (10, false)), [4, 2]⟩,
     ⟨(some 14), .len (.t 13), (some (10, false)), [5, 2]⟩,
     ⟨(some 15), .bin .geq (.t 11) (.t 14), (some (10, false)), [3, 6, 2]⟩,
     ⟨(some 16), .pick (.t 10) (.k (.d (.bool true))) (.t 15), none, [2, 7]⟩,
     ⟨(some 17), .mv (.t 16), none, [8, 2]⟩,
     ⟨(some 18), .faddr (.t 3) 0, (some (17, false)), [9]⟩,
     ⟨(some 19), .load (.t 18) 1 false, (some (17, false)), [10, 9]⟩,
     ⟨(some 20), .mv (.t 1), (some (17, false)), [9]⟩,
     ⟨(some 21), .iaddr (.t 19) (.t 20) 10, (some (17, false)), [11, 12, 9]⟩,
     ⟨(some 22), .faddr (.t 21) 0, (some (17, false)), [13, 9]⟩,
     ⟨(some 23), .load (.t 22) 1 false, (some (17, false)), [14, 9]⟩,
     ⟨(some 24), .faddr (.t 5) 0, (some (17, false)), [9]⟩,
     ⟨(some 25), .load (.t 24) 1 false, (some (17, false)), [16, 9]⟩,
     ⟨(some 26), .bin .neq (.t 23) (.t 25), (some (17, false)), [15, 17, 9]⟩,
     ⟨(some 27), .pick (.t 17) (.k (.d (.bool true))) (.t 26), none, [9, 18]⟩,
     ⟨(some 28), .mv (.t 27), none, [19, 9]⟩,
     ⟨(some 29), .load (.t 5) 5 true, (some (28, false)), [20]⟩,
     ⟨(some 30), .call (.k (.d (.fn (N 462)))) [(.t 29)], (some (28, false)), [21, 20]⟩,
     ⟨(some 31), .un .not (.t 30), (some (28, false)), [22, 20]⟩,
     ⟨(some 32), .pick (.t 28) (.k (.d (.bool true))) (.t 31), none, [20, 23]⟩])
    (.cond (.t 32) (.seq (.region false [⟨(some 6), .mv (.k (.d (.bool false))), none, []⟩])
      .ret)
     (.skip)))
   (.seq (.region false [⟨(some 33), .faddr (.t 3) 0, none, []⟩,
     ⟨(some 34), .load (.t 33) 1 false, none, [0]⟩,
     ⟨(some 35), .mv (.t 1), none, []⟩,
     ⟨(some 36), .iaddr (.t 34) (.t 35) 10, none, [1, 2]⟩,
     ⟨(some 37), .load (.t 36) 10 true, none, [3]⟩,
     ⟨(some 7), .alloc [(.int .i64 0), (.str []), (.sl []), (.sl []), (.sl []), (.bool false), (.str []), (.int .i64 0), (.sl []), (.int .i64 0)], none, []⟩,
     ⟨none, .store (.t 7) (.t 37) 10, none, [5, 4, 0, 1, 2, 3]⟩])
    (.seq (.seq (.region false [⟨(some 38), .faddr (.t 7) 0, none, []⟩,
       ⟨(some 39), .load (.t 38) 1 false, none, [0]⟩])
      (.block 0 (.seq (.seq (.region false [⟨(some 41), .bin .eql (.t 39) (.k (.d (.int .i64 1))), none, []⟩,
          ⟨(some 40), .mv (.t 41), none, [0]⟩])
         (.cond (.t 40) (.skip)
          (.seq (.region false [⟨(some 42), .bin .eql (.t 39) (.k (.d (.int .i64 4))), none, []⟩,
            ⟨(some 40), .mv (.t 42), none, [0]⟩])
           (.cond (.t 40) (.skip)
            (.region false [⟨(some 43), .bin .eql (.t 39) (.k (.d (.int .i64 7))), none, []⟩,
             ⟨(some 40), .mv (.t 43), none, [0]⟩])))))
        (.cond (.t 40) (.seq (.region false [⟨(some 6), .mv (.k (.d (.bool true))), none, []⟩])
          .ret)
         (.seq (.region false [⟨(some 45), .bin .eql (.t 39) (.k (.d (.int .i64 2))), none, []⟩,
           ⟨(some 44), .mv (.t 45), none, [0]⟩])
          (.cond (.t 44) (.seq (.region false [⟨(some 46), .faddr (.t 5) 1, none, []⟩,
             ⟨(some 47), .load (.t 46) 1 false, none, [0]⟩,
             ⟨(some 48), .bin .eql (.t 47) (.k (.d (.int .i64 0))), none, [1]⟩,
             ⟨(some 49), .mv (.t 48), none, [2]⟩,
             ⟨(some 50), .faddr (.t 5) 1, (some (49, false)), [3]⟩,
             ⟨(some 51), .load (.t 50) 1 false, (some (49, false)), [4, 3]⟩,
             ⟨(some 52), .bin .eql (.t 51) (.k (.d (.int .i64 1))), (some (49, false)), [5, 3]⟩,
             ⟨(some 53), .pick (.t 49) (.k (.d (.bool true))) (.t 52), none, [3, 6]⟩,
             ⟨(some 6), .mv (.t 53), none, [7, 3, 0, 1, 2, 4, 5, 6]⟩])
            .ret)
           (.seq (.region false [⟨(some 55), .bin .eql (.t 39) (.k (.d (.int .i64 3))), none, []⟩,
             ⟨(some 54), .mv (.t 55), none, [0]⟩])
            (.cond (.t 54) (.seq (.region false [⟨(some 56), .faddr (.t 5) 1, none, []⟩,
               ⟨(some 57), .load (.t 56) 1 false, none, [0]⟩,
               ⟨(some 58), .faddr (.t 5) 1, none, []⟩,
               ⟨(some 59), .load (.t 58) 1 false, none, [2]⟩,
               ⟨(some 60), .cvi .i32 (.t 59), none, [3]⟩,
               ⟨(some 61), .cvi .i64 (.t 60), none, [4]⟩,
               ⟨(some 62), .bin .eql (.t 57) (.t 61), none, [1, 5]⟩,
               ⟨(some 6), .mv (.t 62), none, [6, 0, 1, 2, 3, 4, 5]⟩])
              .ret)
             (.seq (.region false [⟨(some 64), .bin .eql (.t 39) (.k (.d (.int .i64 5))), none, []⟩,
               ⟨(some 63), .mv (.t 64), none, [0]⟩])
              (.cond (.t 63) (.seq (.region false [⟨(some 65), .faddr (.t 5) 2, none, []⟩,
                 ⟨(some 66), .load (.t 65) 1 false, none, [0]⟩,
                 ⟨(some 67), .len (.t 66), none, [1]⟩,
                 ⟨(some 68), .bin .eql (.t 67) (.k (.d (.int .i64 4))), none, [2]⟩,
                 ⟨(some 6), .mv (.t 68), none, [3, 0, 1, 2]⟩])
                .ret)
               (.seq (.region false [⟨(some 70), .bin .eql (.t 39) (.k (.d (.int .i64 6))), none, []⟩,
                 ⟨(some 69), .mv (.t 70), none, [0]⟩])
                (.cond (.t 69) (.seq (.region false [⟨(some 71), .faddr (.t 5) 2, none, []⟩,
                   ⟨(some 72), .load (.t 71) 1 false, none, [0]⟩,
                   ⟨(some 73), .len (.t 72), none, [1]⟩,
                   ⟨(some 74), .bin .eql (.t 73) (.k (.d (.int .i64 8))), none, [2]⟩,
                   ⟨(some 6), .mv (.t 74), none, [3, 0, 1, 2]⟩])
                  .ret)
                 (.seq (.region false [⟨(some 76), .bin .eql (.t 39) (.k (.d (.int .i64 8))), none, []⟩,
                   ⟨(some 75), .mv (.t 76), none, [0]⟩])
                  (.cond (.t 75) (.seq (.region false [⟨(some 77), .faddr (.t 5) 2, none, []⟩,
                     ⟨(some 78), .load (.t 77) 1 false, none, [0]⟩,
                     ⟨(some 79), .call (.k (.d (.fn (N 457)))) [(.t 78)], none, [1]⟩,
                     ⟨(some 6), .mv (.t 79), none, [2, 0, 1]⟩])
                    .ret)
                   (.seq (.region false [⟨(some 81), .bin .eql (.t 39) (.k (.d (.int .i64 14))), none, []⟩,
                     ⟨(some 80), .mv (.t 81), none, [0]⟩])
                    (.cond (.t 80) (.seq (.region false [⟨(some 82), .faddr (.t 5) 2, none, []⟩,
                       ⟨(some 83), .load (.t 82) 1 false, none, [0]⟩,
                       ⟨(some 84), .len (.t 83), none, [1]⟩,
                       ⟨(some 85), .faddr (.t 7) 9, none, []⟩,
                       ⟨(some 86), .load (.t 85) 1 false, none, [3]⟩,
                       ⟨(some 87), .bin .eql (.t 84) (.t 86), none, [2, 4]⟩,
                       ⟨(some 6), .mv (.t 87), none, [5, 0, 1, 2, 3, 4]⟩])
                      .ret)
                     (.seq (.region false [⟨(some 89), .bin .eql (.t 39) (.k (.d (.int .i64 10))), none, []⟩,
                       ⟨(some 88), .mv (.t 89), none, [0]⟩])
                      (.cond (.t 88) (.seq (.region false [⟨(some 90), .faddr (.t 5) 1, none, []⟩,
                         ⟨(some 91), .load (.t 90) 1 false, none, [0]⟩,
                         ⟨(some 92), .bin .geq (.t 91) (.k (.d (.int .i64 0))), none, [1]⟩,
                         ⟨(some 93), .mv (.t 92), none, [2]⟩,
                         ⟨(some 94), .faddr (.t 5) 1, (some (93, true)), [3]⟩,
                         ⟨(some 95), .load (.t 94) 1 false, (some (93, true)), [4, 3]⟩,
                         ⟨(some 96), .faddr (.t 7) 4, (some (93, true)), [3]⟩,
                         ⟨(some 97), .load (.t 96) 1 false, (some (93, true)), [6, 3]⟩,
                         ⟨(some 98), .len (.t 97), (some (93, true)), [7, 3]⟩,
                         ⟨(some 99), .bin .lss (.t 95) (.t 98), (some (93, true)), [5, 8, 3]⟩,
                         ⟨(some 100), .pick (.t 93) (.t 99) (.k (.d (.bool false))), none, [3, 9]⟩,
                         ⟨(some 6), .mv (.t 100), none, [10, 3, 0, 1, 2, 4, 5, 6, 7, 8, 9]⟩])
                        .ret)
                       (.seq (.region false [⟨(some 102), .bin .eql (.t 39) (.k (.d (.int .i64 9))), none, []⟩,
                         ⟨(some 101), .mv (.t 102), none, [0]⟩])
                        (.cond (.t 101) (.seq (.region false [⟨(some 103), .faddr (.t 5) 3, none, []⟩,
                           ⟨(some 104), .load (.t 103) 1 false, none, [0]⟩,
                           ⟨(some 105), .len (.t 104), none, [1]⟩,
                           ⟨(some 106), .faddr (.t 7) 3, none, []⟩,
                           ⟨(some 107), .load (.t 106) 1 false, none, [3]⟩,
                           ⟨(some 108), .len (.t 107), none, [4]⟩,
                           ⟨(some 109), .bin .eql (.t 105) (.t 108), none, [2, 5]⟩,
                           ⟨(some 110), .mv (.t 109), none, [6]⟩,
                           ⟨(some 111), .load (.t 3) 1 true, (some (110, true)), [7]⟩,
                           ⟨(some 112), .load (.t 7) 10 true, (some (110, true)), [7]⟩,
                           ⟨(some 113), .load (.t 5) 5 true, (some (110, true)), [7]⟩,
                           ⟨(some 114), .call (.k (.d (.fn (N 467)))) [(.t 111), (.t 112), (.t 113)], (some (110, true)), [8, 9, 10, 7]⟩,
                           ⟨(some 115), .pick (.t 110) (.t 114) (.k (.d (.bool false))), none, [7, 11]⟩,
                           ⟨(some 6), .mv (.t 115), none, [12, 11, 0, 1, 2, 3, 4, 5, 6, 7, 8, 9, 10]⟩])
                          .ret)
                         (.seq (.region false [⟨(some 117), .bin .eql (.t 39) (.k (.d (.int .i64 11))), none, []⟩,
                           ⟨(some 116), .mv (.t 117), none, [0]⟩])
                          (.cond (.t 116) (.seq (.region false [⟨(some 118), .load (.t 3) 1 true, none, []⟩,
                             ⟨(some 119), .load (.t 7) 10 true, none, []⟩,
                             ⟨(some 120), .load (.t 5) 5 true, none, []⟩,
                             ⟨(some 121), .call (.k (.d (.fn (N 467)))) [(.t 118), (.t 119), (.t 120)], none, [0, 1, 2]⟩,
                             ⟨(some 6), .mv (.t 121), none, [3, 0, 1, 2]⟩])
                            .ret)
                           (.seq (.region false [⟨(some 123), .bin .eql (.t 39) (.k (.d (.int .i64 12))), none, []⟩,
                             ⟨(some 122), .mv (.t 123), none, [0]⟩])
                            (.cond (.t 122) (.seq (.region false [⟨(some 124), .faddr (.t 5) 4, none, []⟩,
                               ⟨(some 125), .load (.t 124) 1 false, none, [0]⟩,
                               ⟨(some 126), .len (.t 125), none, [1]⟩,
                               ⟨(some 127), .faddr (.t 5) 3, none, []⟩,
                               ⟨(some 128), .load (.t 127) 1 false, none, [3]⟩,
                               ⟨(some 129), .len (.t 128), none, [4]⟩,
                               ⟨(some 130), .bin .eql (.t 126) (.t 129), none, [2, 5]⟩,
                               ⟨(some 131), .mv (.t 130), none, [6]⟩,
                               ⟨(some 132), .faddr (.t 5) 4, (some (131, true)), [7]⟩,
                               ⟨(some 133), .load (.t 132) 1 false, (some (131, true)), [8, 7]⟩,
                               ⟨(some 134), .call (.k (.d (.fn (N 468)))) [(.t 133)], (some (131, true)), [9, 7]⟩,
                               ⟨(some 135), .pick (.t 131) (.t 134) (.k (.d (.bool false))), none, [7, 10]⟩,
                               ⟨(some 136), .mv (.t 135), none, [11, 10]⟩,
                               ⟨(some 137), .load (.t 3) 1 true, (some (136, true)), [12]⟩,
                               ⟨(some 138), .load (.t 7) 10 true, (some (136, true)), [12]⟩,
                               ⟨(some 139), .load (.t 5) 5 true, (some (136, true)), [12]⟩,
                               ⟨(some 140), .call (.k (.d (.fn (N 467)))) [(.t 137), (.t 138), (.t 139)], (some (136, true)), [13, 14, 15, 12]⟩,
                               ⟨(some 141), .pick (.t 136) (.t 140) (.k (.d (.bool false))), none, [12, 16]⟩,
                               ⟨(some 6), .mv (.t 141), none, [17, 16, 0, 1, 2, 3, 4, 5, 6, 7, 8, 9, 10, 11, 12, 13, 14, 15]⟩])
                              .ret)
                             (.seq (.region false [⟨(some 143), .bin .eql (.t 39) (.k (.d (.int .i64 13))), none, []⟩,
                               ⟨(some 142), .mv (.t 143), none, [0]⟩])
                              (.cond (.t 142) (.seq (.region false [⟨(some 144), .faddr (.t 5) 1, none, []⟩,
                                 ⟨(some 145), .load (.t 144) 1 false, none, [0]⟩,
                                 ⟨(some 146), .bin .geq (.t 145) (.k (.d (.int .i64 0))), none, [1]⟩,
                                 ⟨(some 147), .mv (.t 146), none, [2]⟩,
                                 ⟨(some 148), .faddr (.t 5) 1, (some (147, true)), [3]⟩,
                                 ⟨(some 149), .load (.t 148) 1 false, (some (147, true)), [4, 3]⟩,
                                 ⟨(some 150), .faddr (.t 7) 8, (some (147, true)), [3]⟩,
                                 ⟨(some 151), .load (.t 150) 1 false, (some (147, true)), [6, 3]⟩,
                                 ⟨(some 152), .len (.t 151), (some (147, true)), [7, 3]⟩,
                                 ⟨(some 153), .bin .lss (.t 149) (.t 152), (some (147, true)), [5, 8, 3]⟩,
                                 ⟨(some 154), .pick (.t 147) (.t 153) (.k (.d (.bool false))), none, [3, 9]⟩,
                                 ⟨(some 155), .mv (.t 154), none, [10, 3]⟩,
                                 ⟨(some 156), .faddr (.t 5) 3, (some (155, true)), [11]⟩,
                                 ⟨(some 157), .load (.t 156) 1 false, (some (155, true)), [12, 11]⟩,
                                 ⟨(some 158), .len (.t 157), (some (155, true)), [13, 11]⟩,
                                 ⟨(some 159), .bin .eql (.t 158) (.k (.d (.int .i64 1))), (some (155, true)), [14, 11]⟩,
                                 ⟨(some 160), .pick (.t 155) (.t 159) (.k (.d (.bool false))), none, [11, 15]⟩,
                                 ⟨(some 161), .mv (.t 160), none, [16, 11]⟩,
                                 ⟨(some 162), .load (.t 3) 1 true, (some (161, true)), [17]⟩,
                                 ⟨(some 163), .load (.t 7) 10 true, (some (161, true)), [17]⟩,
                                 ⟨(some 164), .load (.t 5) 5 true, (some (161, true)), [17]⟩,
                                 ⟨(some 165), .call (.k (.d (.fn (N 467)))) [(.t 162), (.t 163), (.t 164)], (some (161, true)), [18, 19, 20, 17]⟩,
                                 ⟨(some 166), .pick (.t 161) (.t 165) (.k (.d (.bool false))), none, [17, 21]⟩,
                                 ⟨(some 6), .mv (.t 166), none, [22, 21, 0, 1, 2, 3, 4, 5, 6, 7, 8, 9, 10, 11, 12, 13, 14, 15, 16, 17, 18, 19, 20]⟩])
                                .ret)
                               (.skip)))))))))))))))))))))))))))
     (.seq (.region false [⟨(some 6), .mv (.k (.d (.bool false))), none, []⟩])
      .ret))))) }
def HC461 (P : Program) (N : Nat → Nat) : Prop := HasF P (N 461) (C461 N) ∧ HC462 P N ∧ HC467 P N
def f461_j79 (k : Nat) (a0 : TSchema) (a1 : Int) (a2 : TValue) (rc461 : TSchema → Int → TValue → Option Bool) (j79_1 : Bool) : Option Bool := cond j79_1 (some true) (cond (decide ((rd a0.fNodes a1).fKind = (2 : Int))) (cond (decide (a2.fN = (0 : Int))) (some true) (some (decide (a2.fN = (1 : Int))))) (cond (decide ((rd a0.fNodes a1).fKind = (3 : Int))) (some (decide (a2.fN = (IntKind.i64.wrap (IntKind.i32.wrap a2.fN))))) (cond (decide ((rd a0.fNodes a1).fKind = (5 : Int))) (some (decide (((a2.fB.length : Nat) : Int) = (4 : Int)))) (cond (decide ((rd a0.fNodes a1).fKind = (6 : Int))) (some (decide (((a2.fB.length : Nat) : Int) = (8 : Int)))) (cond (decide ((rd a0.fNodes a1).fKind = (8 : Int))) (none) (cond (decide ((rd a0.fNodes a1).fKind = (14 : Int))) (some (decide (((a2.fB.length : Nat) : Int) = (rd a0.fNodes a1).fSize))) (cond (decide ((rd a0.fNodes a1).fKind = (10 : Int))) (cond (decide (a2.fN ≥ (0 : Int))) (some (decide (a2.fN < ((((rd a0.fNodes a1).fSymbols).length : Nat) : Int)))) (some false)) (cond (decide ((rd a0.fNodes a1).fKind = (9 : Int))) (cond (decide (((a2.fL.length : Nat) : Int) = ((((rd a0.fNodes a1).fFields).length : Nat) : Int))) ((f467 rc461 k (TSchema.mk a0.fNodes) (TNode.mk ((rd a0.fNodes a1).fKind) ((rd a0.fNodes a1).fName) ((rd a0.fNodes a1).fAliases) ((rd a0.fNodes a1).fFields) ((rd a0.fNodes a1).fSymbols) ((rd a0.fNodes a1).fHas) ((rd a0.fNodes a1).fDefault) ((rd a0.fNodes a1).fItems) ((rd a0.fNodes a1).fBranches) ((rd a0.fNodes a1).fSize)) (TValue.mk a2.fKind a2.fN a2.fB a2.fL a2.fKeys)).bind fun r225 => some r225) (some false)) (cond (decide ((rd a0.fNodes a1).fKind = (11 : Int))) ((f467 rc461 k (TSchema.mk a0.fNodes) (TNode.mk ((rd a0.fNodes a1).fKind) ((rd a0.fNodes a1).fName) ((rd a0.fNodes a1).fAliases) ((rd a0.fNodes a1).fFields) ((rd a0.fNodes a1).fSymbols) ((rd a0.fNodes a1).fHas) ((rd a0.fNodes a1).fDefault) ((rd a0.fNodes a1).fItems) ((rd a0.fNodes a1).fBranches) ((rd a0.fNodes a1).fSize)) (TValue.mk a2.fKind a2.fN a2.fB a2.fL a2.fKeys)).bind fun r241 => some r241) (cond (decide ((rd a0.fNodes a1).fKind = (12 : Int))) (cond (decide (((a2.fKeys.length : Nat) : Int) = ((a2.fL.length : Nat) : Int))) (none) (some false)) (cond (decide ((rd a0.fNodes a1).fKind = (13 : Int))) (cond (decide (a2.fN ≥ (0 : Int))) (cond (decide (a2.fN < ((((rd a0.fNodes a1).fBranches).length : Nat) : Int))) (cond (decide (((a2.fL.length : Nat) : Int) = (1 : Int))) ((f467 rc461 k (TSchema.mk a0.fNodes) (TNode.mk ((rd a0.fNodes a1).fKind) ((rd a0.fNodes a1).fName) ((rd a0.fNodes a1).fAliases) ((rd a0.fNodes a1).fFields) ((rd a0.fNodes a1).fSymbols) ((rd a0.fNodes a1).fHas) ((rd a0.fNodes a1).fDefault) ((rd a0.fNodes a1).fItems) ((rd a0.fNodes a1).fBranches) ((rd a0.fNodes a1).fSize)) (TValue.mk a2.fKind a2.fN a2.fB a2.fL a2.fKeys)).bind fun r303 => some r303) (some false)) (some false)) (some false)) (some false))))))))))))
def f461_s (rc461 : TSchema → Int → TValue → Option Bool) (k : Nat) (a0 : TSchema) (a1 : Int) (a2 : TValue) : Option Bool := cond (decide (a1 < (0 : Int))) (some false) (cond (decide (a1 ≥ ((a0.fNodes.length : Nat) : Int))) (some false) (gd (0 ≤ a1 ∧ a1 < ((a0.fNodes.length : Nat) : Int)) (cond (decide ((rd a0.fNodes a1).fKind ≠ a2.fKind)) (some false) ((f462 k (TValue.mk a2.fKind a2.fN a2.fB a2.fL a2.fKeys)).bind fun r33 => cond (!r33) (some false) (gd (0 ≤ a1 ∧ a1 < ((a0.fNodes.length : Nat) : Int)) (cond (decide ((rd a0.fNodes a1).fKind = (1 : Int))) (f461_j79 k a0 a1 a2 rc461 (decide ((rd a0.fNodes a1).fKind = (1 : Int)))) (cond (decide ((rd a0.fNodes a1).fKind = (4 : Int))) (f461_j79 k a0 a1 a2 rc461 (decide ((rd a0.fNodes a1).fKind = (4 : Int)))) (f461_j79 k a0 a1 a2 rc461 (decide ((rd a0.fNodes a1).fKind = (7 : Int)))))))))))
theorem F461_s {P : Program} {N : Nat → Nat} (hmix : P.follows .mixedOrders = true) (hc : HC461 P N) {rc461 : TSchema → Int → TValue → Option Bool} (hrc461 : RH461 P N rc461) {k : Nat} {a0 : TSchema} {a1 : Int} {a2 : TValue} {r : Bool} (h : f461_s rc461 k a0 a1 a2 = some r) :
    ACalls P (N 461) [(.d (TSchema.enc a0)), (.d (.int .i64 a1)), (.d (TValue.enc a2))] [] (.d (.bool r)) [] := by
  refine acalls_canon (F := C461 N) hc.1 0 0 rfl ?_
  unfold f461_s at h
  dsimp only [C461, startL]
  refine AWc.seq ?_
  refine AWc.rE hmix [] ?_
  refine AWc.seq ?_
  refine AWc.seq ?_
  rcases cc h with ⟨c13, h⟩ | ⟨c13, h⟩
  · refine AWc.rE hmix [.br c13, .br (rfl : true = true), .br (rfl : true = true)] ?_
    refine AWc.cT rfl ?_
    refine AWc.seq ?_
    refine AWc.rE hmix [] ?_
    have hr := Option.some.inj h
    subst hr
    exact AWc.ret (canQ (N := 167) (k := 0) (l' := [(6, (.d (.bool false)))]) (H' := []) rfl (inT [] []) (doneA (.inr rfl) rfl ⟨trivial, trivial⟩ (.refl _) hasNil))
  · rcases cc h with ⟨c20, h⟩ | ⟨c20, h⟩
    · refine AWc.rE hmix [.br c13, .ln TNode.enc a0.fNodes, .br c20, .br (rfl : true = true)] ?_
      refine AWc.cT rfl ?_
      refine AWc.seq ?_
      refine AWc.rE hmix [] ?_
      have hr := Option.some.inj h
      subst hr
      exact AWc.ret (canQ (N := 167) (k := 0) (l' := [(6, (.d (.bool false)))]) (H' := []) rfl (inT [] []) (doneA (.inr rfl) rfl ⟨trivial, trivial⟩ (.refl _) hasNil))
    · obtain ⟨b24, h⟩ := gd_some h
      rcases cc h with ⟨c31, h⟩ | ⟨c31, h⟩
      · refine AWc.rE hmix [.br c13, .ln TNode.enc a0.fNodes, .br c20, .iad TNode.enc a0.fNodes 10 (fun _ => rfl) b24, .br c31] ?_
        refine AWc.cT rfl ?_
        refine AWc.seq ?_
        refine AWc.rE hmix [] ?_
        have hr := Option.some.inj h
        subst hr
        exact AWc.ret (canQ (N := 167) (k := 0) (l' := [(6, (.d (.bool false)))]) (H' := []) rfl (inT [] []) (doneA (.inr rfl) rfl ⟨trivial, trivial⟩ (.refl _) hasNil))
      · obtain ⟨r33, e33, h⟩ := bind_some h
        refine AWc.rE hmix [.br c13, .ln TNode.enc a0.fNodes, .br c20, .iad TNode.enc a0.fNodes 10 (fun _ => rfl) b24, .br c31, .call (F462 hmix hc.2.1 e33) [] 0] ?_
        rcases cc h with ⟨c36, h⟩ | ⟨c36, h⟩
        · refine AWc.cT c36 ?_
          refine AWc.seq ?_
          refine AWc.rE hmix [] ?_
          have hr := Option.some.inj h
          subst hr
          exact AWc.ret (canQ (N := 167) (k := 0) (l' := [(6, (.d (.bool false)))]) (H' := []) rfl (inT [] []) (doneA (.inr rfl) rfl ⟨trivial, trivial⟩ (.refl _) hasNil))
        · refine AWc.cF c36 ?_
          refine AWc.skip ?_
          refine AWc.seq ?_
          obtain ⟨b49, h⟩ := gd_some h
          refine AWc.rE hmix [.iad TNode.enc a0.fNodes 10 (fun _ => rfl) b49] ?_
          refine AWc.seq ?_
          refine AWc.seq ?_
          refine AWc.rE hmix [] ?_
          refine AWc.block ?_
          refine AWc.seqS (N := 167) 3 (fun (z : Bool) => [(3, (.ptr 0 0)), (5, (.ptr 1 0)), (7, (.ptr 2 0)), (39, (.d (.int .i64 (rd a0.fNodes a1).fKind))), (40, (.d (.bool z)))]) (fun z => [(0, (.cells [(.d (.sl (List.map TNode.enc a0.fNodes)))])), (1, (.cells [(.d (.int .i64 a2.fKind)), (.d (.int .i64 a2.fN)), (.d (.sl (List.map byteD a2.fB))), (.d (.sl (List.map (rtE (z := 5)) a2.fL))), (.d (.sl (List.map D.str a2.fKeys)))])), (2, (.cells [(.d (.int .i64 (rd a0.fNodes a1).fKind)), (.d (.str (rd a0.fNodes a1).fName)), (.d (.sl (List.map D.str (rd a0.fNodes a1).fAliases))), (.d (.sl (List.map TField.enc (rd a0.fNodes a1).fFields))), (.d (.sl (List.map D.str (rd a0.fNodes a1).fSymbols))), (.d (.bool (rd a0.fNodes a1).fHas)), (.d (.str (rd a0.fNodes a1).fDefault)), (.d (.int .i64 (rd a0.fNodes a1).fItems)), (.d (.sl (List.map (D.int .i64) (rd a0.fNodes a1).fBranches))), (.d (.int .i64 (rd a0.fNodes a1).fSize))]))]) (fun z => f461_j79 k a0 a1 a2 rc461 z = some r) rfl_le ?_ ?_
          · refine AWc.seq ?_
            refine AWc.rE hmix [] ?_
            rcases cc h with ⟨c66, h⟩ | ⟨c66, h⟩
            · refine AWc.cT c66 ?_
              refine AWc.skip ?_
              exact ⟨(decide ((rd a0.fNodes a1).fKind = (1 : Int))), h, (inT [] [])⟩
            · refine AWc.cF c66 ?_
              refine AWc.seq ?_
              refine AWc.rE hmix [] ?_
              rcases cc h with ⟨c73, h⟩ | ⟨c73, h⟩
              · refine AWc.cT c73 ?_
                refine AWc.skip ?_
                exact ⟨(decide ((rd a0.fNodes a1).fKind = (4 : Int))), h, (inT [] [])⟩
              · refine AWc.cF c73 ?_
                refine AWc.rE hmix [] ?_
                exact ⟨(decide ((rd a0.fNodes a1).fKind = (7 : Int))), h, (inT [] [])⟩
          · intro j79_1 h
            unfold f461_j79 at h
            rcases cc h with ⟨c79, h⟩ | ⟨c79, h⟩
            · refine AWc.cT c79 ?_
              refine AWc.seq ?_
              refine AWc.rE hmix [] ?_
              have hr := Option.some.inj h
              subst hr
              exact AWc.ret (canQ (N := 167) (k := 0) (l' := [(6, (.d (.bool true)))]) (H' := []) rfl (inT [] []) (doneA (.inr rfl) rfl ⟨trivial, trivial⟩ (.refl _) hasNil))
            · refine AWc.cF c79 ?_
              refine AWc.seq ?_
              refine AWc.rE hmix [] ?_
              rcases cc h with ⟨c90, h⟩ | ⟨c90, h⟩
              · refine AWc.cT c90 ?_
                refine AWc.seq ?_
                rcases cc h with ⟨c97, h⟩ | ⟨c97, h⟩
                · refine AWc.rE hmix [.br c97] ?_
                  have hr := Option.some.inj h
                  subst hr
                  exact AWc.ret (canQ (N := 167) (k := 0) (l' := [(6, (.d (.bool true)))]) (H' := []) rfl (inT [] []) (doneA (.inr rfl) rfl ⟨trivial, trivial⟩ (.refl _) hasNil))
                · refine AWc.rE hmix [.br c97] ?_
                  have hr := Option.some.inj h
                  subst hr
                  exact AWc.ret (canQ (N := 167) (k := 0) (l' := [(6, (.d (.bool (decide (a2.fN = (1 : Int))))))]) (H' := []) rfl (inT [] []) (doneA (.inr rfl) rfl ⟨trivial, trivial⟩ (.refl _) hasNil))
              · refine AWc.cF c90 ?_
                refine AWc.seq ?_
                refine AWc.rE hmix [] ?_
                rcases cc h with ⟨c109, h⟩ | ⟨c109, h⟩
                · refine AWc.cT c109 ?_
                  refine AWc.seq ?_
                  refine AWc.rE hmix [] ?_
                  have hr := Option.some.inj h
                  subst hr
                  exact AWc.ret (canQ (N := 167) (k := 0) (l' := [(6, (.d (.bool (decide (a2.fN = (IntKind.i64.wrap (IntKind.i32.wrap a2.fN)))))))]) (H' := []) rfl (inT [] []) (doneA (.inr rfl) rfl ⟨trivial, trivial⟩ (.refl _) hasNil))
                · refine AWc.cF c109 ?_
                  refine AWc.seq ?_
                  refine AWc.rE hmix [] ?_
                  rcases cc h with ⟨c127, h⟩ | ⟨c127, h⟩
                  · refine AWc.cT c127 ?_
                    refine AWc.seq ?_
                    refine AWc.rE hmix [.ln byteD a2.fB] ?_
                    have hr := Option.some.inj h
                    subst hr
                    exact AWc.ret (canQ (N := 167) (k := 0) (l' := [(6, (.d (.bool (decide (((a2.fB.length : Nat) : Int) = (4 : Int))))))]) (H' := []) rfl (inT [] []) (doneA (.inr rfl) rfl ⟨trivial, trivial⟩ (.refl _) hasNil))
                  · refine AWc.cF c127 ?_
                    refine AWc.seq ?_
                    refine AWc.rE hmix [] ?_
                    rcases cc h with ⟨c142, h⟩ | ⟨c142, h⟩
                    · refine AWc.cT c142 ?_
                      refine AWc.seq ?_
                      refine AWc.rE hmix [.ln byteD a2.fB] ?_
                      have hr := Option.some.inj h
                      subst hr
                      exact AWc.ret (canQ (N := 167) (k := 0) (l' := [(6, (.d (.bool (decide (((a2.fB.length : Nat) : Int) = (8 : Int))))))]) (H' := []) rfl (inT [] []) (doneA (.inr rfl) rfl ⟨trivial, trivial⟩ (.refl _) hasNil))
                    · refine AWc.cF c142 ?_
                      refine AWc.seq ?_
                      refine AWc.rE hmix [] ?_
                      rcases cc h with ⟨c157, h⟩ | ⟨c157, h⟩
                      · refine AWc.cT c157 ?_
                        refine AWc.seq ?_
                        cases h
                      · refine AWc.cF c157 ?_
                        refine AWc.seq ?_
                        refine AWc.rE hmix [] ?_
                        rcases cc h with ⟨c171, h⟩ | ⟨c171, h⟩
                        · refine AWc.cT c171 ?_
                          refine AWc.seq ?_
                          refine AWc.rE hmix [.ln byteD a2.fB] ?_
                          have hr := Option.some.inj h
                          subst hr
                          exact AWc.ret (canQ (N := 167) (k := 0) (l' := [(6, (.d (.bool (decide (((a2.fB.length : Nat) : Int) = (rd a0.fNodes a1).fSize)))))]) (H' := []) rfl (inT [] []) (doneA (.inr rfl) rfl ⟨trivial, trivial⟩ (.refl _) hasNil))
                        · refine AWc.cF c171 ?_
                          refine AWc.seq ?_
                          refine AWc.rE hmix [] ?_
                          rcases cc h with ⟨c188, h⟩ | ⟨c188, h⟩
                          · refine AWc.cT c188 ?_
                            refine AWc.seq ?_
                            rcases cc h with ⟨c195, h⟩ | ⟨c195, h⟩
                            · refine AWc.rE hmix [.br c195, .ln D.str ((rd a0.fNodes a1).fSymbols)] ?_
                              have hr := Option.some.inj h
                              subst hr
                              exact AWc.ret (canQ (N := 167) (k := 0) (l' := [(6, (.d (.bool (decide (a2.fN < ((((rd a0.fNodes a1).fSymbols).length : Nat) : Int))))))]) (H' := []) rfl (inT [] []) (doneA (.inr rfl) rfl ⟨trivial, trivial⟩ (.refl _) hasNil))
                            · refine AWc.rE hmix [.br c195] ?_
                              have hr := Option.some.inj h
                              subst hr
                              exact AWc.ret (canQ (N := 167) (k := 0) (l' := [(6, (.d (.bool false)))]) (H' := []) rfl (inT [] []) (doneA (.inr rfl) rfl ⟨trivial, trivial⟩ (.refl _) hasNil))
                          · refine AWc.cF c188 ?_
                            refine AWc.seq ?_
                            refine AWc.rE hmix [] ?_
                            rcases cc h with ⟨c210, h⟩ | ⟨c210, h⟩
                            · refine AWc.cT c210 ?_
                              refine AWc.seq ?_
                              rcases cc h with ⟨c221, h⟩ | ⟨c221, h⟩
                              · obtain ⟨r225, e225, h⟩ := bind_some h
                                refine AWc.rE hmix [.ln (rtE (z := 5)) a2.fL, .ln TField.enc ((rd a0.fNodes a1).fFields), .br c221, .call (F467 hmix hc.2.2 hrc461 e225) [] 0] ?_
                                have hr := Option.some.inj h
                                subst hr
                                exact AWc.ret (canQ (N := 167) (k := 0) (l' := [(6, (.d (.bool r225)))]) (H' := []) rfl (inT [] []) (doneA (.inr rfl) rfl ⟨trivial, trivial⟩ (.refl _) hasNil))
                              · refine AWc.rE hmix [.ln (rtE (z := 5)) a2.fL, .ln TField.enc ((rd a0.fNodes a1).fFields), .br c221] ?_
                                have hr := Option.some.inj h
                                subst hr
                                exact AWc.ret (canQ (N := 167) (k := 0) (l' := [(6, (.d (.bool false)))]) (H' := []) rfl (inT [] []) (doneA (.inr rfl) rfl ⟨trivial, trivial⟩ (.refl _) hasNil))
                            · refine AWc.cF c210 ?_
                              refine AWc.seq ?_
                              refine AWc.rE hmix [] ?_
                              rcases cc h with ⟨c234, h⟩ | ⟨c234, h⟩
                              · refine AWc.cT c234 ?_
                                refine AWc.seq ?_
                                obtain ⟨r241, e241, h⟩ := bind_some h
                                refine AWc.rE hmix [.call (F467 hmix hc.2.2 hrc461 e241) [] 0] ?_
                                have hr := Option.some.inj h
                                subst hr
                                exact AWc.ret (canQ (N := 167) (k := 0) (l' := [(6, (.d (.bool r241)))]) (H' := []) rfl (inT [] []) (doneA (.inr rfl) rfl ⟨trivial, trivial⟩ (.refl _) hasNil))
                              · refine AWc.cF c234 ?_
                                refine AWc.seq ?_
                                refine AWc.rE hmix [] ?_
                                rcases cc h with ⟨c249, h⟩ | ⟨c249, h⟩
                                · refine AWc.cT c249 ?_
                                  refine AWc.seq ?_
                                  rcases cc h with ⟨c260, h⟩ | ⟨c260, h⟩
                                  · cases h
                                  · refine AWc.rE hmix [.ln D.str a2.fKeys, .ln (rtE (z := 5)) a2.fL, .br c260, .br (rfl : false = false)] ?_
                                    have hr := Option.some.inj h
                                    subst hr
                                    exact AWc.ret (canQ (N := 167) (k := 0) (l' := [(6, (.d (.bool false)))]) (H' := []) rfl (inT [] []) (doneA (.inr rfl) rfl ⟨trivial, trivial⟩ (.refl _) hasNil))
                                · refine AWc.cF c249 ?_
                                  refine AWc.seq ?_
                                  refine AWc.rE hmix [] ?_
                                  rcases cc h with ⟨c278, h⟩ | ⟨c278, h⟩
                                  · refine AWc.cT c278 ?_
                                    refine AWc.seq ?_
                                    rcases cc h with ⟨c285, h⟩ | ⟨c285, h⟩
                                    · rcases cc h with ⟨c293, h⟩ | ⟨c293, h⟩
                                      · rcases cc h with ⟨c299, h⟩ | ⟨c299, h⟩
                                        · obtain ⟨r303, e303, h⟩ := bind_some h
                                          refine AWc.rE hmix [.br c285, .ln (D.int .i64) ((rd a0.fNodes a1).fBranches), .br c293, .ln (rtE (z := 5)) a2.fL, .br c299, .call (F467 hmix hc.2.2 hrc461 e303) [] 0] ?_
                                          have hr := Option.some.inj h
                                          subst hr
                                          exact AWc.ret (canQ (N := 167) (k := 0) (l' := [(6, (.d (.bool r303)))]) (H' := []) rfl (inT [] []) (doneA (.inr rfl) rfl ⟨trivial, trivial⟩ (.refl _) hasNil))
                                        · refine AWc.rE hmix [.br c285, .ln (D.int .i64) ((rd a0.fNodes a1).fBranches), .br c293, .ln (rtE (z := 5)) a2.fL, .br c299] ?_
                                          have hr := Option.some.inj h
                                          subst hr
                                          exact AWc.ret (canQ (N := 167) (k := 0) (l' := [(6, (.d (.bool false)))]) (H' := []) rfl (inT [] []) (doneA (.inr rfl) rfl ⟨trivial, trivial⟩ (.refl _) hasNil))
                                      · refine AWc.rE hmix [.br c285, .ln (D.int .i64) ((rd a0.fNodes a1).fBranches), .br c293, .br (rfl : false = false)] ?_
                                        have hr := Option.some.inj h
                                        subst hr
                                        exact AWc.ret (canQ (N := 167) (k := 0) (l' := [(6, (.d (.bool false)))]) (H' := []) rfl (inT [] []) (doneA (.inr rfl) rfl ⟨trivial, trivial⟩ (.refl _) hasNil))
                                    · refine AWc.rE hmix [.br c285, .br (rfl : false = false), .br (rfl : false = false)] ?_
                                      have hr := Option.some.inj h
                                      subst hr
                                      exact AWc.ret (canQ (N := 167) (k := 0) (l' := [(6, (.d (.bool false)))]) (H' := []) rfl (inT [] []) (doneA (.inr rfl) rfl ⟨trivial, trivial⟩ (.refl _) hasNil))
                                  · refine AWc.cF c278 ?_
                                    refine AWc.skip ?_
                                    refine AWc.seq ?_
                                    refine AWc.rE hmix [] ?_
                                    have hr := Option.some.inj h
                                    subst hr
                                    exact AWc.ret (canQ (N := 167) (k := 0) (l' := [(6, (.d (.bool false)))]) (H' := []) rfl (inT [] []) (doneA (.inr rfl) rfl ⟨trivial, trivial⟩ (.refl _) hasNil))
def f461 : Nat → TSchema → Int → TValue → Option Bool
  | 0, _, _, _ => none
  | k + 1, a0, a1, a2 => f461_s (f461 k) k a0 a1 a2
theorem F461 {P : Program} {N : Nat → Nat} (hmix : P.follows .mixedOrders = true) (hc : HC461 P N) {k : Nat} {a0 : TSchema} {a1 : Int} {a2 : TValue} {r : Bool} (h : f461 k a0 a1 a2 = some r) :
    ACalls P (N 461) [(.d (TSchema.enc a0)), (.d (.int .i64 a1)), (.d (TValue.enc a2))] [] (.d (.bool r)) [] := by
  induction k generalizing a0 a1 a2 r with
  | zero => exact absurd (show (none : Option _) = some r from h) (fun h2 => by cases h2)
  | succ k ih => exact F461_s hmix hc (fun _ _ _ _ h => ih h) h
/-- courant/value.Walk -/
def C470 (N : Nat → Nat) : AFunc := { n := 4, params := 1, res := [.tmp 2], body :=
 (.seq (.region false [⟨(some 1), .box (.t 0), none, []⟩,
   ⟨(some 2), .mv (.k (.d .nilf)), none, []⟩])
  (.seq (.region false [⟨(some 3), .mkfn (N 471) [(.t 1)], none, []⟩,
    ⟨(some 2), .mv (.t 3), none, [0]⟩])
   .ret)) }
def HC470 (P : Program) (N : Nat → Nat) : Prop := HasF P (N 470) (C470 N)
def f470 (k : Nat) (a0 : TValue) : Option Unit := some ()
theorem F470 {P : Program} {N : Nat → Nat} (hmix : P.follows .mixedOrders = true) (hc : HC470 P N) {k : Nat} {a0 : TValue} {r : Unit} (h : f470 k a0 = some r) :
    ACalls P (N 470) [(.d (TValue.enc a0))] [] (.fn (N 471) [(.ptr 0 0)]) [(0, (.cells [(.d (.int .i64 a0.fKind)), (.d (.int .i64 a0.fN)), (.d (.sl (List.map byteD a0.fB))), (.d (.sl (List.map (rtE (z := 5)) a0.fL))), (.d (.sl (List.map D.str a0.fKeys)))]))] := by
  refine acalls_canon (F := C470 N) hc 0 1 rfl ?_
  unfold f470 at h
  dsimp only [C470, startL]
  refine AWc.seq ?_
  refine AWc.rE hmix [] ?_
  refine AWc.seq ?_
  refine AWc.rE hmix [] ?_
  have hr := Option.some.inj h
  subst hr
  exact AWc.ret (canQ (N := 4) (k := 1) (l' := [(2, (.fn (N 471) [(.ptr 0 0)]))]) (H' := [(0, (.cells [(.d (.int .i64 a0.fKind)), (.d (.int .i64 a0.fN)), (.d (.sl (List.map byteD a0.fB))), (.d (.sl (List.map (rtE (z := 5)) a0.fL))), (.d (.sl (List.map D.str a0.fKeys)))]))]) rfl (inT [] []) (doneA (.inr rfl) rfl ⟨trivial, trivial⟩ (.refl _) (hasCons rfl hasNil)))
def L469_0a (N : Nat → Nat) : ACode :=
 (.region false [⟨(some 4), .mv (.t 7), none, []⟩])
def L469_0b (N : Nat → Nat) : ACode :=
 (.block 1 (.seq (.region false [⟨(some 9), .load (.t 3) 1 false, none, []⟩,
    ⟨(some 10), .bin .add (.t 9) (.k (.d (.int .i64 1))), none, [0]⟩,
    ⟨none, .store (.t 3) (.t 10) 1, none, [1, 0]⟩])
   (.seq (.region false [⟨(some 11), .load (.t 3) 1 false, none, []⟩,
     ⟨(some 12), .bin .gtr (.t 11) (.k (.d (.int .i64 10000))), none, [0]⟩,
     ⟨(some 13), .mv (.t 12), none, [1]⟩,
     ⟨(some 14), .mv (.t 4), (some (13, false)), [2]⟩,
     ⟨(some 15), .bin .gtr (.t 14) (.k (.d (.int .i64 64))), (some (13, false)), [3, 2]⟩,
     ⟨(some 16), .pick (.t 13) (.k (.d (.bool true))) (.t 15), none, [2, 4]⟩])
    (.cond (.t 16) (.seq (.region false [⟨none, .store (.t 2) (.k (.d (.bool true))) 1, none, []⟩])
      .ret)
     (.skip)))))
/-- courant/codec.much -/
def C469 (N : Nat → Nat) : AFunc := { n := 17, params := 1, res := [.cell 2 1 false], body :=
 (.seq (.region false [⟨(some 1), .box (.t 0), none, []⟩,
   ⟨(some 2), .alloc [(.bool false)], none, []⟩])
  (.seq (.region false [⟨(some 3), .alloc [(.int .i64 0)], none, []⟩,
    ⟨none, .store (.t 3) (.k (.d (.int .i64 0))) 1, none, [0]⟩])
   (.seq (.seq (.region false [⟨(some 5), .load (.t 1) 5 true, none, []⟩,
      ⟨(some 6), .call (.k (.d (.fn (N 470)))) [(.t 5)], none, [0]⟩])
     (.block 0 (.rangeFunc (.t 6) [7, 8] (L469_0a N) (L469_0b N))))
    (.seq (.region false [⟨none, .store (.t 2) (.k (.d (.bool false))) 1, none, []⟩])
     .ret)))) }
def RH472 (P : Program) (N : Nat → Nat) (rc472 : TValue → Int → Bool → Int → Option (Int ⊕ Int)) : Prop := (∀ (asg0 bd0 : Code) (ha0 : compCode P asg0 = L469_0a N) (hb0 : compCode P bd0 = L469_0b N) (a0 : TValue) (a1 : Int) (a2 : Bool) (a3 : Int) (r : Int), rc472 a0 a1 a2 a3 = some (.inl r) → ACalls P (N 472) [(.d (TValue.enc a0)), (.d (.int .i64 a1)), (.lf 0)] [(0, (.lp 17 [(2, (.ptr 1 0)), (3, (.ptr 2 0))] [7, 8] asg0 bd0 .ready none)), (1, (.cells [(.d (.bool a2))])), (2, (.cells [(.d (.int .i64 a3))]))] (.d (.bool false)) [(0, (.lp 17 [(2, (.ptr 1 0)), (3, (.ptr 2 0))] [7, 8] asg0 bd0 .done (some .ret))), (1, (.cells [(.d (.bool true))])), (2, (.cells [(.d (.int .i64 r))]))]) ∧ (∀ (asg0 bd0 : Code) (ha0 : compCode P asg0 = L469_0a N) (hb0 : compCode P bd0 = L469_0b N) (a0 : TValue) (a1 : Int) (a2 : Bool) (a3 : Int) (r : Int), rc472 a0 a1 a2 a3 = some (.inr r) → ACalls P (N 472) [(.d (TValue.enc a0)), (.d (.int .i64 a1)), (.lf 0)] [(0, (.lp 17 [(2, (.ptr 1 0)), (3, (.ptr 2 0))] [7, 8] asg0 bd0 .ready none)), (1, (.cells [(.d (.bool a2))])), (2, (.cells [(.d (.int .i64 a3))]))] (.d (.bool true)) [(0, (.lp 17 [(2, (.ptr 1 0)), (3, (.ptr 2 0))] [7, 8] asg0 bd0 .ready none)), (1, (.cells [(.d (.bool a2))])), (2, (.cells [(.d (.int .i64 r))]))])
def RH473 (P : Program) (N : Nat → Nat) (rc473 : TValue → Option ((List UInt8) × (List (RT 5)) × (List (List UInt8)))) : Prop := ∀ (a0 : TValue) (r : ((List UInt8) × (List (RT 5)) × (List (List UInt8)))), rc473 a0 = some r → ACalls P (N 473) [(.d (TValue.enc a0))] [] (.d (.agg [(.int .i64 a0.fKind), (.int .i64 a0.fN), (.sl (List.map byteD r.1)), (.sl (List.map (rtE (z := 5)) r.2.1)), (.sl (List.map D.str r.2.2))])) []
/-- slices.Clone[[]byte,byte] -/
def C87 (N : Nat → Nat) : AFunc := { n := 8, params := 1, res := [.tmp 2], body :=
 (.seq (.region false [⟨(some 2), .mv (.k .nils), none, []⟩])
  (.seq (.seq (.region false [⟨(some 3), .mv (.t 0), none, []⟩,
     ⟨(some 4), .nileq 0 false (.t 3) (.k .nils), none, [0]⟩])
    (.cond (.t 4) (.seq (.region false [⟨(some 2), .mv (.k .nils), none, []⟩])
      .ret)
     (.skip)))
   (.seq (.region false [⟨(some 5), .bslice 0 1 [(.int .u8 0)] [], none, []⟩,
     ⟨(some 6), .mv (.t 0), none, []⟩,
     ⟨(some 7), .app (.t 5) (.t 6) 1 1 [(.int .u8 0)], none, [0, 1]⟩,
     ⟨(some 2), .mv (.t 7), none, [2, 0, 1]⟩])
    .ret))) }
def HC87 (P : Program) (N : Nat → Nat) : Prop := HasF P (N 87) (C87 N)
def f87 (k : Nat) (a0 : List UInt8) : Option (List UInt8) := gd (a0.length * 2 * 1 ≤ 281474976710656) (some a0)
theorem F87 {P : Program} {N : Nat → Nat} (hmix : P.follows .mixedOrders = true) (hc : HC87 P N) {k : Nat} {a0 r : List UInt8} (h : f87 k a0 = some r) :
    ACalls P (N 87) [(.d (.sl (List.map byteD a0)))] [] (.ap 0 1 (List.map byteD r)) [(0, (.tok ((List.map byteD r).length * 1)))] := by
  unfold f87 at h
  obtain ⟨b, h⟩ := gd_some h
  cases h
  exact clone_gen hmix byteD_ok hc rfl rfl b
/-- slices.Clone[[]string,string] -/
def C442 (N : Nat → Nat) : AFunc := { n := 8, params := 1, res := [.tmp 2], body :=
 (.seq (.region false [⟨(some 2), .mv (.k .nils), none, []⟩])
  (.seq (.seq (.region false [⟨(some 3), .mv (.t 0), none, []⟩,
     ⟨(some 4), .nileq 0 false (.t 3) (.k .nils), none, [0]⟩])
    (.cond (.t 4) (.seq (.region false [⟨(some 2), .mv (.k .nils), none, []⟩])
      .ret)
     (.skip)))
   (.seq (.region false [⟨(some 5), .bslice 0 1 [(.str [])] [], none, []⟩,
     ⟨(some 6), .mv (.t 0), none, []⟩,
     ⟨(some 7), .app (.t 5) (.t 6) 1 16 [(.str [])], none, [0, 1]⟩,
     ⟨(some 2), .mv (.t 7), none, [2, 0, 1]⟩])
    .ret))) }
def HC442 (P : Program) (N : Nat → Nat) : Prop := HasF P (N 442) (C442 N)
def f442 (k : Nat) (a0 : List (List UInt8)) : Option (List (List UInt8)) := gd (a0.length * 2 * 16 ≤ 281474976710656) (some a0)
theorem F442 {P : Program} {N : Nat → Nat} (hmix : P.follows .mixedOrders = true) (hc : HC442 P N) {k : Nat} {a0 r : List (List UInt8)} (h : f442 k a0 = some r) :
    ACalls P (N 442) [(.d (.sl (List.map D.str a0)))] [] (.ap 0 1 (List.map D.str r)) [(0, (.tok ((List.map D.str r).length * 1)))] := by
  unfold f442 at h
  obtain ⟨b, h⟩ := gd_some h
  cases h
  exact clone_gen hmix str_ok hc rfl rfl b
/-- courant/value.own -/
def C473 (N : Nat → Nat) : AFunc := { n := 30, params := 1, res := [.cell 2 5 true], body :=
 (.seq (.region false [⟨(some 1), .box (.t 0), none, []⟩,
   ⟨(some 2), .alloc [(.int .i64 0), (.int .i64 0), (.sl []), (.sl []), (.sl [])], none, []⟩])
  (.seq (.region true [⟨(some 6), .faddr (.t 1) 2, none, []⟩,
    ⟨(some 7), .load (.t 6) 1 false, none, [0]⟩,
    ⟨(some 8), .call (.k (.d (.fn (N 87)))) [(.t 7)], none, [1]⟩,
    ⟨(some 9), .faddr (.t 1) 4, none, []⟩,
    ⟨(some 10), .load (.t 9) 1 false, none, [3]⟩,
    ⟨(some 11), .call (.k (.d (.fn (N 442)))) [(.t 10)], none, [4, 2]⟩,
    ⟨(some 12), .faddr (.t 1) 2, none, [0, 1, 2, 3, 4]⟩,
    ⟨none, .store (.t 12) (.t 8) 1, none, [6, 2, 5, 0, 1, 3, 4]⟩,
    ⟨(some 13), .faddr (.t 1) 4, none, [0, 1, 2, 3, 4, 5, 6, 7]⟩,
    ⟨none, .store (.t 13) (.t 11) 1, none, [8, 5, 7, 0, 1, 2, 3, 4, 6]⟩])
   (.seq (.region false [⟨(some 3), .mv (.k .nils), none, []⟩])
    (.seq (.seq (.region false [⟨(some 14), .faddr (.t 1) 3, none, []⟩,
       ⟨(some 15), .load (.t 14) 1 false, none, [0]⟩,
       ⟨(some 16), .len (.t 15), none, [1]⟩,
       ⟨(some 17), .mv (.k (.d (.int .i64 0))), none, []⟩])
      (.block 0 (.loop (.seq (.region false [⟨(some 18), .bin .lss (.t 17) (.t 16), none, []⟩])
         (.seq (.cond (.t 18) (.skip)
           (.exit 0))
          (.seq (.block 1 (.seq (.region false [⟨(some 19), .iaddr (.t 15) (.t 17) 5, none, []⟩,
              ⟨(some 20), .load (.t 19) 5 true, none, [0]⟩,
              ⟨(some 5), .alloc [(.int .i64 0), (.int .i64 0), (.sl []), (.sl []), (.sl [])], none, []⟩,
              ⟨none, .store (.t 5) (.t 20) 5, none, [2, 1, 0]⟩])
             (.region false [⟨(some 21), .mv (.t 3), none, []⟩,
              ⟨(some 22), .load (.t 5) 5 true, none, []⟩,
              ⟨(some 23), .call (.k (.d (.fn (N 473)))) [(.t 22)], none, [1]⟩,
              ⟨(some 24), .bslice 1 5 [(.int .i64 0), (.int .i64 0), (.sl []), (.sl []), (.sl [])] [(0, (.t 23))], none, [2]⟩,
              ⟨(some 25), .app (.t 21) (.t 24) 5 88 [(.int .i64 0), (.int .i64 0), (.sl []), (.sl []), (.sl [])], none, [0, 3, 2]⟩,
              ⟨(some 3), .mv (.t 25), none, [4, 0, 1, 2, 3]⟩])))
           (.region false [⟨(some 26), .bin .add (.t 17) (.k (.d (.int .i64 1))), none, []⟩,
            ⟨(some 17), .mv (.t 26), none, [0]⟩])))))))
     (.seq (.region false [⟨(some 27), .mv (.t 3), none, []⟩,
       ⟨(some 28), .faddr (.t 1) 3, none, [0]⟩,
       ⟨none, .store (.t 28) (.t 27) 1, none, [1, 0]⟩])
      (.seq (.region false [⟨(some 29), .load (.t 1) 5 true, none, []⟩,
        ⟨none, .store (.t 2) (.t 29) 5, none, [0]⟩])
       .ret)))))) }
def HC473 (P : Program) (N : Nat → Nat) : Prop := HasF P (N 473) (C473 N) ∧ HC87 P N ∧ HC442 P N
def f473_j62 (k : Nat) (r11 : (List UInt8)) (r14 : (List (List UInt8))) (j62_1 : (List (RT 5))) : Option ((List UInt8) × (List (RT 5)) × (List (List UInt8))) := some (r11, j62_1, r14)
def f473_l31 (a0 : TValue) (rc473 : TValue → Option ((List UInt8) × (List (RT 5)) × (List (List UInt8)))) : Nat → (List (RT 5)) → Int → Option (LR2 (List (RT 5)) Unit ((List UInt8) × (List (RT 5)) × (List (List UInt8))))
  | 0, _, _ => none
  | k + 1, y31_1, y31_2 => cond (decide (y31_2 < ((a0.fL.length : Nat) : Int))) (gd (0 ≤ y31_2 ∧ y31_2 < ((a0.fL.length : Nat) : Int)) ((TValue.dec (rtE (rd a0.fL y31_2))).bind fun rx46 => (rc473 (TValue.mk rx46.fKind rx46.fN rx46.fB rx46.fL rx46.fKeys)).bind fun r54 => gd ((y31_1.length + ([(RT.of TValue.ok (TValue.mk ((TValue.mk rx46.fKind rx46.fN rx46.fB rx46.fL rx46.fKeys).fKind) ((TValue.mk rx46.fKind rx46.fN rx46.fB rx46.fL rx46.fKeys).fN) r54.1 r54.2.1 r54.2.2))] : List (RT 5)).length) * 2 * 88 ≤ 281474976710656) (f473_l31 a0 rc473 k (y31_1 ++ ([(RT.of TValue.ok (TValue.mk ((TValue.mk rx46.fKind rx46.fN rx46.fB rx46.fL rx46.fKeys).fKind) ((TValue.mk rx46.fKind rx46.fN rx46.fB rx46.fL rx46.fKeys).fN) r54.1 r54.2.1 r54.2.2))] : List (RT 5))) (IntKind.i64.wrap (y31_2 + (1 : Int)))))) (some (.b0 y31_1))
def f473_s (rc473 : TValue → Option ((List UInt8) × (List (RT 5)) × (List (List UInt8)))) (k : Nat) (a0 : TValue) : Option ((List UInt8) × (List (RT 5)) × (List (List UInt8))) := (f87 k a0.fB).bind fun r11 => (f442 k a0.fKeys).bind fun r14 => (f473_l31 a0 rc473 k ([] : List (RT 5)) (0 : Int)).bind fun o31 => (match o31 with | .b0 x31_1 => f473_j62 k r11 r14 x31_1 | _ => none)
theorem F473_s {P : Program} {N : Nat → Nat} (hmix : P.follows .mixedOrders = true) (hc : HC473 P N) {rc473 : TValue → Option ((List UInt8) × (List (RT 5)) × (List (List UInt8)))} (hrc473 : RH473 P N rc473) {k : Nat} {a0 : TValue} {r : ((List UInt8) × (List (RT 5)) × (List (List UInt8)))} (h : f473_s rc473 k a0 = some r) :
    ACalls P (N 473) [(.d (TValue.enc a0))] [] (.d (.agg [(.int .i64 a0.fKind), (.int .i64 a0.fN), (.sl (List.map byteD r.1)), (.sl (List.map (rtE (z := 5)) r.2.1)), (.sl (List.map D.str r.2.2))])) [] := by
  refine acalls_canon (F := C473 N) hc.1 0 0 rfl ?_
  unfold f473_s at h
  dsimp only [C473, startL]
  refine AWc.seq ?_
  refine AWc.rE hmix [] ?_
  refine AWc.seq ?_
  obtain ⟨r11, e11, h⟩ := bind_some h
  obtain ⟨r14, e14, h⟩ := bind_some h
  refine AWc.rE hmix [.call (F87 hmix hc.2.1 e11) [(0, 2)] 1, .call (F442 hmix hc.2.2 e14) [(0, 3)] 1] ?_
  refine AWc.seq ?_
  refine AWc.rE hmix [] ?_
  refine AWc.seqS (N := 30) 5 (fun (z : (List (RT 5))) => [(1, (.ptr 0 0)), (2, (.ptr 1 0)), (3, (.ap 2 5 (List.map (rtE (z := 5)) z)))]) (fun z => [(0, (.cells [(.d (.int .i64 a0.fKind)), (.d (.int .i64 a0.fN)), (.ap 3 1 (List.map byteD r11)), (.d (.sl (List.map (rtE (z := 5)) a0.fL))), (.ap 4 1 (List.map D.str r14))])), (1, (.cells [(.d (.int .i64 (0 : Int))), (.d (.int .i64 (0 : Int))), .nils, .nils, .nils])), (2, (.tok ((List.map (rtE (z := 5)) z).length * 5))), (3, (.tok ((List.map byteD r11).length * 1))), (4, (.tok ((List.map D.str r14).length * 1)))]) (fun z => f473_j62 k r11 r14 z = some r) rfl_le ?_ ?_
  · refine AWc.seq ?_
    refine AWc.rE hmix [.ln (rtE (z := 5)) a0.fL] ?_
    obtain ⟨o31, h31, h⟩ := bind_some h
    refine AWc.block ?_
    refine AWc.loopK (N := 30) 5 (fun (x : ((List (RT 5)) × Int)) => [(1, (.ptr 0 0)), (2, (.ptr 1 0)), (3, (.ap 2 5 (List.map (rtE (z := 5)) x.1))), (15, (.d (.sl (List.map (rtE (z := 5)) a0.fL)))), (16, (.d (.int .i64 ((a0.fL.length : Nat) : Int)))), (17, (.d (.int .i64 x.2)))]) (fun x => [(0, (.cells [(.d (.int .i64 a0.fKind)), (.d (.int .i64 a0.fN)), (.ap 3 1 (List.map byteD r11)), (.d (.sl (List.map (rtE (z := 5)) a0.fL))), (.ap 4 1 (List.map D.str r14))])), (1, (.cells [(.d (.int .i64 (0 : Int))), (.d (.int .i64 (0 : Int))), .nils, .nils, .nils])), (2, (.tok ((List.map (rtE (z := 5)) x.1).length * 5))), (3, (.tok ((List.map byteD r11).length * 1))), (4, (.tok ((List.map D.str r14).length * 1)))]) (fun k x => f473_l31 a0 rc473 k x.1 x.2 = some o31) k (([] : List (RT 5)), (0 : Int)) rfl_le (fun x hx => by cases hx) h31 (inT [(3, 2), (4, 3), (2, 4)] [.tok 0]) ?_
    clear h31
    intro k
    rintro ⟨y31_1, y31_2⟩ h31
    dsimp only at h31 ⊢
    rw [f473_l31] at h31
    refine AWc.seq ?_
    refine AWc.rE hmix [] ?_
    refine AWc.seq ?_
    rcases cc h31 with ⟨c38, h31⟩ | ⟨c38, h31⟩
    · refine AWc.cT c38 ?_
      refine AWc.skip ?_
      refine AWc.seq ?_
      refine AWc.block ?_
      refine AWc.seq ?_
      obtain ⟨b46, h31⟩ := gd_some h31
      obtain ⟨rx46, ex46, h31⟩ := bind_some h31
      refine AWc.rE hmix [.iadE (rtE (z := 5)) a0.fL 5 rtE_ok.len b46 (TValue.dec_eq ex46)] ?_
      obtain ⟨r54, e54, h31⟩ := bind_some h31
      obtain ⟨b56, h31⟩ := gd_some h31
      refine AWc.rE hmix [.call (hrc473 _ _ e54) [] 0, .apA (rtE (z := 5)) y31_1 ([(RT.of TValue.ok (TValue.mk ((TValue.mk rx46.fKind rx46.fN rx46.fB rx46.fL rx46.fKeys).fKind) ((TValue.mk rx46.fKind rx46.fN rx46.fB rx46.fL rx46.fKeys).fN) r54.1 r54.2.1 r54.2.2))] : List (RT 5)) 5 rtE_ok.len b56] ?_
      refine AWc.rE hmix [] ?_
      exact ⟨((y31_1 ++ ([(RT.of TValue.ok (TValue.mk ((TValue.mk rx46.fKind rx46.fN rx46.fB rx46.fL rx46.fKeys).fKind) ((TValue.mk rx46.fKind rx46.fN rx46.fB rx46.fL rx46.fKeys).fN) r54.1 r54.2.1 r54.2.2))] : List (RT 5))), (IntKind.i64.wrap (y31_2 + (1 : Int)))), h31, (inT [(2, 6)] [])⟩
    · refine AWc.cF c38 ?_
      cases h31
      dsimp only at h
      refine AWc.exit ?_
      refine inBlk_eq ?_
      exact ⟨y31_1, h, (inT [] [])⟩
  · intro j62_1 h
    unfold f473_j62 at h
    refine AWc.seq ?_
    refine AWc.rE hmix [] ?_
    refine AWc.seq ?_
    refine AWc.rE hmix [] ?_
    have hr := Option.some.inj h
    subst hr
    exact AWc.ret (canQ (N := 30) (k := 1) (l' := [(2, (.ptr 0 0))]) (H' := [(0, (.cells [(.d (.int .i64 a0.fKind)), (.d (.int .i64 a0.fN)), (.d (.sl (List.map byteD r11))), (.d (.sl (List.map (rtE (z := 5)) j62_1))), (.d (.sl (List.map D.str r14)))]))]) rfl (inT [(0, 1)] []) (doneA (.inr rfl) rfl ⟨(Nat.le_of_ble_eq_true rfl), trivial⟩ (.refl _) hasNil))
def f473 : Nat → TValue → Option ((List UInt8) × (List (RT 5)) × (List (List UInt8)))
  | 0, _ => none
  | k + 1, a0 => f473_s (f473 k) k a0
theorem F473 {P : Program} {N : Nat → Nat} (hmix : P.follows .mixedOrders = true) (hc : HC473 P N) {k : Nat} {a0 : TValue} {r : ((List UInt8) × (List (RT 5)) × (List (List UInt8)))} (h : f473 k a0 = some r) :
    ACalls P (N 473) [(.d (TValue.enc a0))] [] (.d (.agg [(.int .i64 a0.fKind), (.int .i64 a0.fN), (.sl (List.map byteD r.1)), (.sl (List.map (rtE (z := 5)) r.2.1)), (.sl (List.map D.str r.2.2))])) [] := by
  induction k generalizing a0 r with
  | zero => exact absurd (show (none : Option _) = some r from h) (fun h2 => by cases h2)
  | succ k ih => exact F473_s hmix hc (fun _ _ h => ih h) h
def HCb469_18 (P : Program) (N : Nat → Nat) : Prop := True
def b469_18 (k : Nat) (a0 : Bool) (a1 : Int) (a2 : Int) (a3 : TValue) : Option (Unit ⊕ Unit) := cond (decide ((IntKind.i64.wrap (a1 + (1 : Int))) > (10000 : Int))) (some (.inl ())) (cond (decide (a2 > (64 : Int))) (some (.inl ())) (some (.inr ())))
theorem B469_18_0 {P : Program} {N : Nat → Nat} (hmix : P.follows .mixedOrders = true) (hc : HCb469_18 P N) {asg0 bd0 : Code} (ha0 : compCode P asg0 = L469_0a N) (hb0 : compCode P bd0 = L469_0b N) {k : Nat} {a0 : Bool} {a1 : Int} {a2 : Int} {a3 : TValue} {r : Unit} (h : b469_18 k a0 a1 a2 a3 = some (.inl r)) :
    ARound P 0 [(.d (.int .i64 a2)), (.d (TValue.enc a3))] [(0, (.lp 17 [(2, (.ptr 1 0)), (3, (.ptr 2 0))] [7, 8] asg0 bd0 .ready none)), (1, (.cells [(.d (.bool a0))])), (2, (.cells [(.d (.int .i64 a1))]))] (.d (.bool false)) [(0, (.lp 17 [(2, (.ptr 1 0)), (3, (.ptr 2 0))] [7, 8] asg0 bd0 .done (some .ret))), (1, (.cells [(.d (.bool true))])), (2, (.cells [(.d (.int .i64 (IntKind.i64.wrap (a1 + (1 : Int)))))]))] := by
  refine around_gen 3 3 ha0 hb0 rfl rfl (fun ro => ?_)
  unfold b469_18 at h
  dsimp only [L469_0a, L469_0b, putArgs]
  refine AWc.rg hmix rfl rfl ?_
  refine RegV.p0 rfl rfl rfl ?_
  refine RegV.nil0 ?_
  refine asgDone rfl rfl ?_
  refine AWc.block ?_
  refine AWc.seq ?_
  refine AWc.rg hmix rfl rfl ?_
  refine RegV.ld (v := (.d (.int .i64 a1))) (H' := [(2, (.cells [(.d (.int .i64 a1))])), (0, (.lp 17 [(2, (.ptr 1 0)), (3, (.ptr 2 0))] [7, 8] asg0 bd0 .busy none)), (1, (.cells [(.d (.bool a0))]))]) rfl rfl trivial rfl rfl rfl rfl rfl ?_
  refine RegV.p0 (v := (.d (.int .i64 (IntKind.i64.wrap (a1 + (1 : Int)))))) rfl rfl rfl ?_
  refine RegV.evN (own := false) (H' := [(2, (.cells [(.d (.int .i64 (IntKind.i64.wrap (a1 + (1 : Int)))))])), (0, (.lp 17 [(2, (.ptr 1 0)), (3, (.ptr 2 0))] [7, 8] asg0 bd0 .busy none)), (1, (.cells [(.d (.bool a0))]))]) (c' := 3) rfl rfl (by exact ⟨rfl, Nat.le_of_ble_eq_true rfl, rfl⟩) rfl rfl rfl rfl ?_
  refine RegV.nil0 ?_
  refine AWc.seq ?_
  refine AWc.rg hmix rfl rfl ?_
  refine RegV.ld (v := (.d (.int .i64 (IntKind.i64.wrap (a1 + (1 : Int)))))) (H' := [(2, (.cells [(.d (.int .i64 (IntKind.i64.wrap (a1 + (1 : Int)))))])), (0, (.lp 17 [(2, (.ptr 1 0)), (3, (.ptr 2 0))] [7, 8] asg0 bd0 .busy none)), (1, (.cells [(.d (.bool a0))]))]) rfl rfl trivial rfl rfl rfl rfl rfl ?_
  refine RegV.p0 (v := (.d (.bool (decide ((IntKind.i64.wrap (a1 + (1 : Int))) > (10000 : Int)))))) rfl rfl rfl ?_
  refine RegV.p0 rfl rfl rfl ?_
  refine RegV.split (fun c35 => ?_) (fun c35 => ?_)
  · have h := cond_pos c35 h
    refine RegV.noS rfl rfl ?_
    refine RegV.noS rfl rfl ?_
    refine RegV.p0 rfl rfl rfl ?_
    refine RegV.nil0 ?_
    refine AWc.cond rfl (fun _ => ?_) (fun hc => by cases hc)
    refine AWc.seq ?_
    refine AWc.rg hmix rfl rfl ?_
    refine RegV.evN (own := false) (H' := [(1, (.cells [(.d (.bool true))])), (2, (.cells [(.d (.int .i64 (IntKind.i64.wrap (a1 + (1 : Int)))))])), (0, (.lp 17 [(2, (.ptr 1 0)), (3, (.ptr 2 0))] [7, 8] asg0 bd0 .busy none))]) (c' := 3) rfl rfl (by exact ⟨rfl, Nat.le_of_ble_eq_true rfl, rfl⟩) rfl rfl rfl rfl ?_
    refine RegV.nil0 ?_
    have hr := Option.some.inj h
    have hr := Sum.inl.inj hr
    subst hr
    exact AWc.ret (canQ (N := 17) (k := 3) (l' := []) (H' := [(0, (.lp 17 [(2, (.ptr 1 0)), (3, (.ptr 2 0))] [7, 8] asg0 bd0 .busy none)), (1, (.cells [(.d (.bool true))])), (2, (.cells [(.d (.int .i64 (IntKind.i64.wrap (a1 + (1 : Int)))))]))]) rfl ⟨rfl, [], [], rfl, rfl,  trivial, ⟨⟨_, rfl, (.refl _)⟩, rfl, rfl, ⟨⟨_, rfl, (.refl _)⟩, rfl, rfl, ⟨⟨_, rfl, (.refl _)⟩, rfl, rfl, trivial⟩⟩⟩⟩ (roundD rfl rfl rfl rfl (hasCons rfl (hasCons rfl (hasCons rfl hasNil)))))
  · have h := cond_neg c35 h
    refine RegV.p0 rfl rfl rfl ?_
    refine RegV.p0 (v := (.d (.bool (decide (a2 > (64 : Int)))))) rfl rfl rfl ?_
    refine RegV.p0 rfl rfl rfl ?_
    refine RegV.nil0 ?_
    refine AWc.cond rfl (fun c39 => ?_) (fun c39 => ?_)
    · have h := cond_pos c39 h
      refine AWc.seq ?_
      refine AWc.rg hmix rfl rfl ?_
      refine RegV.evN (own := false) (H' := [(1, (.cells [(.d (.bool true))])), (2, (.cells [(.d (.int .i64 (IntKind.i64.wrap (a1 + (1 : Int)))))])), (0, (.lp 17 [(2, (.ptr 1 0)), (3, (.ptr 2 0))] [7, 8] asg0 bd0 .busy none))]) (c' := 3) rfl rfl (by exact ⟨rfl, Nat.le_of_ble_eq_true rfl, rfl⟩) rfl rfl rfl rfl ?_
      refine RegV.nil0 ?_
      have hr := Option.some.inj h
      have hr := Sum.inl.inj hr
      subst hr
      exact AWc.ret (canQ (N := 17) (k := 3) (l' := []) (H' := [(0, (.lp 17 [(2, (.ptr 1 0)), (3, (.ptr 2 0))] [7, 8] asg0 bd0 .busy none)), (1, (.cells [(.d (.bool true))])), (2, (.cells [(.d (.int .i64 (IntKind.i64.wrap (a1 + (1 : Int)))))]))]) rfl ⟨rfl, [], [], rfl, rfl,  trivial, ⟨⟨_, rfl, (.refl _)⟩, rfl, rfl, ⟨⟨_, rfl, (.refl _)⟩, rfl, rfl, ⟨⟨_, rfl, (.refl _)⟩, rfl, rfl, trivial⟩⟩⟩⟩ (roundD rfl rfl rfl rfl (hasCons rfl (hasCons rfl (hasCons rfl hasNil)))))
    · have h := cond_neg c39 h
      refine AWc.skip ?_
      cases h
theorem B469_18_1 {P : Program} {N : Nat → Nat} (hmix : P.follows .mixedOrders = true) (hc : HCb469_18 P N) {asg0 bd0 : Code} (ha0 : compCode P asg0 = L469_0a N) (hb0 : compCode P bd0 = L469_0b N) {k : Nat} {a0 : Bool} {a1 : Int} {a2 : Int} {a3 : TValue} {r : Unit} (h : b469_18 k a0 a1 a2 a3 = some (.inr r)) :
    ARound P 0 [(.d (.int .i64 a2)), (.d (TValue.enc a3))] [(0, (.lp 17 [(2, (.ptr 1 0)), (3, (.ptr 2 0))] [7, 8] asg0 bd0 .ready none)), (1, (.cells [(.d (.bool a0))])), (2, (.cells [(.d (.int .i64 a1))]))] (.d (.bool true)) [(0, (.lp 17 [(2, (.ptr 1 0)), (3, (.ptr 2 0))] [7, 8] asg0 bd0 .ready none)), (1, (.cells [(.d (.bool a0))])), (2, (.cells [(.d (.int .i64 (IntKind.i64.wrap (a1 + (1 : Int)))))]))] := by
  refine around_gen 3 3 ha0 hb0 rfl rfl (fun ro => ?_)
  unfold b469_18 at h
  dsimp only [L469_0a, L469_0b, putArgs]
  refine AWc.rg hmix rfl rfl ?_
  refine RegV.p0 rfl rfl rfl ?_
  refine RegV.nil0 ?_
  refine asgDone rfl rfl ?_
  refine AWc.block ?_
  refine AWc.seq ?_
  refine AWc.rg hmix rfl rfl ?_
  refine RegV.ld (v := (.d (.int .i64 a1))) (H' := [(2, (.cells [(.d (.int .i64 a1))])), (0, (.lp 17 [(2, (.ptr 1 0)), (3, (.ptr 2 0))] [7, 8] asg0 bd0 .busy none)), (1, (.cells [(.d (.bool a0))]))]) rfl rfl trivial rfl rfl rfl rfl rfl ?_
  refine RegV.p0 (v := (.d (.int .i64 (IntKind.i64.wrap (a1 + (1 : Int)))))) rfl rfl rfl ?_
  refine RegV.evN (own := false) (H' := [(2, (.cells [(.d (.int .i64 (IntKind.i64.wrap (a1 + (1 : Int)))))])), (0, (.lp 17 [(2, (.ptr 1 0)), (3, (.ptr 2 0))] [7, 8] asg0 bd0 .busy none)), (1, (.cells [(.d (.bool a0))]))]) (c' := 3) rfl rfl (by exact ⟨rfl, Nat.le_of_ble_eq_true rfl, rfl⟩) rfl rfl rfl rfl ?_
  refine RegV.nil0 ?_
  refine AWc.seq ?_
  refine AWc.rg hmix rfl rfl ?_
  refine RegV.ld (v := (.d (.int .i64 (IntKind.i64.wrap (a1 + (1 : Int)))))) (H' := [(2, (.cells [(.d (.int .i64 (IntKind.i64.wrap (a1 + (1 : Int)))))])), (0, (.lp 17 [(2, (.ptr 1 0)), (3, (.ptr 2 0))] [7, 8] asg0 bd0 .busy none)), (1, (.cells [(.d (.bool a0))]))]) rfl rfl trivial rfl rfl rfl rfl rfl ?_
  refine RegV.p0 (v := (.d (.bool (decide ((IntKind.i64.wrap (a1 + (1 : Int))) > (10000 : Int)))))) rfl rfl rfl ?_
  refine RegV.p0 rfl rfl rfl ?_
  refine RegV.split (fun c35 => ?_) (fun c35 => ?_)
  · have h := cond_pos c35 h
    refine RegV.noS rfl rfl ?_
    refine RegV.noS rfl rfl ?_
    refine RegV.p0 rfl rfl rfl ?_
    refine RegV.nil0 ?_
    refine AWc.cond rfl (fun _ => ?_) (fun hc => by cases hc)
    refine AWc.seq ?_
    refine AWc.rg hmix rfl rfl ?_
    refine RegV.evN (own := false) (H' := [(1, (.cells [(.d (.bool true))])), (2, (.cells [(.d (.int .i64 (IntKind.i64.wrap (a1 + (1 : Int)))))])), (0, (.lp 17 [(2, (.ptr 1 0)), (3, (.ptr 2 0))] [7, 8] asg0 bd0 .busy none))]) (c' := 3) rfl rfl (by exact ⟨rfl, Nat.le_of_ble_eq_true rfl, rfl⟩) rfl rfl rfl rfl ?_
    refine RegV.nil0 ?_
    cases h
  · have h := cond_neg c35 h
    refine RegV.p0 rfl rfl rfl ?_
    refine RegV.p0 (v := (.d (.bool (decide (a2 > (64 : Int)))))) rfl rfl rfl ?_
    refine RegV.p0 rfl rfl rfl ?_
    refine RegV.nil0 ?_
    refine AWc.cond rfl (fun c39 => ?_) (fun c39 => ?_)
    · have h := cond_pos c39 h
      refine AWc.seq ?_
      refine AWc.rg hmix rfl rfl ?_
      refine RegV.evN (own := false) (H' := [(1, (.cells [(.d (.bool true))])), (2, (.cells [(.d (.int .i64 (IntKind.i64.wrap (a1 + (1 : Int)))))])), (0, (.lp 17 [(2, (.ptr 1 0)), (3, (.ptr 2 0))] [7, 8] asg0 bd0 .busy none))]) (c' := 3) rfl rfl (by exact ⟨rfl, Nat.le_of_ble_eq_true rfl, rfl⟩) rfl rfl rfl rfl ?_
      refine RegV.nil0 ?_
      cases h
    · have h := cond_neg c39 h
      refine AWc.skip ?_
      have hr := Option.some.inj h
      have hr := Sum.inr.inj hr
      subst hr
      exact (canQ (N := 17) (k := 3) (l' := []) (H' := [(0, (.lp 17 [(2, (.ptr 1 0)), (3, (.ptr 2 0))] [7, 8] asg0 bd0 .busy none)), (1, (.cells [(.d (.bool a0))])), (2, (.cells [(.d (.int .i64 (IntKind.i64.wrap (a1 + (1 : Int)))))]))]) rfl ⟨rfl, [], [], rfl, rfl,  trivial, ⟨⟨_, rfl, (.refl _)⟩, rfl, rfl, ⟨⟨_, rfl, (.refl _)⟩, rfl, rfl, ⟨⟨_, rfl, (.refl _)⟩, rfl, rfl, trivial⟩⟩⟩⟩ (roundD rfl rfl rfl rfl (hasCons rfl (hasCons rfl (hasCons rfl hasNil)))))
/-- courant/value.walk -/
def C472 (N : Nat → Nat) : AFunc := { n := 29, params := 3, res := [.tmp 6], body :=
 (.seq (.region false [⟨(some 3), .box (.t 0), none, []⟩,
   ⟨(some 6), .mv (.k (.d (.bool false))), none, []⟩])
  (.seq (.seq (.region false [⟨(some 9), .mv (.t 2), none, []⟩,
     ⟨(some 10), .mv (.t 1), none, []⟩,
     ⟨(some 11), .load (.t 3) 5 true, none, []⟩,
     ⟨(some 12), .call (.k (.d (.fn (N 473)))) [(.t 11)], none, [2]⟩,
     ⟨(some 13), .call (.t 9) [(.t 10), (.t 12)], none, [0, 1, 3]⟩,
     ⟨(some 14), .un .not (.t 13), none, [4]⟩])
    (.cond (.t 14) (.seq (.region false [⟨(some 6), .mv (.k (.d (.bool false))), none, []⟩])
      .ret)
     (.skip)))
   (.seq (.seq (.region false [⟨(some 15), .faddr (.t 3) 3, none, []⟩,
      ⟨(some 16), .load (.t 15) 1 false, none, [0]⟩,
      ⟨(some 17), .len (.t 16), none, [1]⟩,
      ⟨(some 18), .mv (.k (.d (.int .i64 0))), none, []⟩])
     (.block 0 (.loop (.seq (.region false [⟨(some 19), .bin .lss (.t 18) (.t 17), none, []⟩])
        (.seq (.cond (.t 19) (.skip)
          (.exit 0))
         (.seq (.block 1 (.seq (.region false [⟨(some 20), .iaddr (.t 16) (.t 18) 5, none, []⟩,
             ⟨(some 21), .load (.t 20) 5 true, none, [0]⟩,
             ⟨(some 8), .alloc [(.int .i64 0), (.int .i64 0), (.sl []), (.sl []), (.sl [])], none, []⟩,
             ⟨none, .store (.t 8) (.t 21) 5, none, [2, 1, 0]⟩])
            (.seq (.region false [⟨(some 22), .load (.t 8) 5 true, none, []⟩,
              ⟨(some 23), .mv (.t 1), none, []⟩,
              ⟨(some 24), .bin .add (.t 23) (.k (.d (.int .i64 1))), none, [1]⟩,
              ⟨(some 25), .mv (.t 2), none, []⟩,
              ⟨(some 26), .call (.k (.d (.fn (N 472)))) [(.t 22), (.t 24), (.t 25)], none, [0, 2, 3]⟩,
              ⟨(some 27), .un .not (.t 26), none, [4]⟩])
             (.cond (.t 27) (.seq (.region false [⟨(some 6), .mv (.k (.d (.bool false))), none, []⟩])
               .ret)
              (.skip)))))
          (.region false [⟨(some 28), .bin .add (.t 18) (.k (.d (.int .i64 1))), none, []⟩,
           ⟨(some 18), .mv (.t 28), none, [0]⟩])))))))
    (.seq (.region false [⟨(some 6), .mv (.k (.d (.bool true))), none, []⟩])
     .ret)))) }
def HC472 (P : Program) (N : Nat → Nat) : Prop := HasF P (N 472) (C472 N) ∧ HC473 P N ∧ HCb469_18 P N
def f472_l31 (a0 : TValue) (rc472 : TValue → Int → Bool → Int → Option (Int ⊕ Int)) (a1 : Int) (a2 : Bool) : Nat → Int → Int → Option (LR2 Int Unit (Int ⊕ Int))
  | 0, _, _ => none
  | k + 1, y31_1, y31_2 => cond (decide (y31_1 < ((a0.fL.length : Nat) : Int))) (gd (0 ≤ y31_1 ∧ y31_1 < ((a0.fL.length : Nat) : Int)) ((TValue.dec (rtE (rd a0.fL y31_1))).bind fun rx46 => (rc472 (TValue.mk rx46.fKind rx46.fN rx46.fB rx46.fL rx46.fKeys) (IntKind.i64.wrap (a1 + (1 : Int))) a2 y31_2).bind fun or57 => (match or57 with | .inl r57 => some (.r (.inl r57)) | .inr r57 => f472_l31 a0 rc472 a1 a2 k (IntKind.i64.wrap (y31_1 + (1 : Int))) r57))) (some (.b0 y31_2))
def f472_s (rc472 : TValue → Int → Bool → Int → Option (Int ⊕ Int)) (k : Nat) (a0 : TValue) (a1 : Int) (a2 : Bool) (a3 : Int) : Option (Int ⊕ Int) := (f473 k (TValue.mk a0.fKind a0.fN a0.fB a0.fL a0.fKeys)).bind fun r13 => (b469_18 k a2 a3 a1 (TValue.mk ((TValue.mk a0.fKind a0.fN a0.fB a0.fL a0.fKeys).fKind) ((TValue.mk a0.fKind a0.fN a0.fB a0.fL a0.fKeys).fN) r13.1 r13.2.1 r13.2.2)).bind fun or14 => (match or14 with | .inl r14 => some (.inl (IntKind.i64.wrap (a3 + (1 : Int)))) | .inr r14 => (f472_l31 a0 rc472 a1 a2 k (0 : Int) (IntKind.i64.wrap (a3 + (1 : Int)))).bind fun o31 => (match o31 with | .b0 x31_1 => some (.inr x31_1) | .r x => some x | _ => none))
theorem F472_0_s {P : Program} {N : Nat → Nat} (hmix : P.follows .mixedOrders = true) (hc : HC472 P N) {rc472 : TValue → Int → Bool → Int → Option (Int ⊕ Int)} (hrc472 : RH472 P N rc472) {asg0 bd0 : Code} (ha0 : compCode P asg0 = L469_0a N) (hb0 : compCode P bd0 = L469_0b N) {k : Nat} {a0 : TValue} {a1 : Int} {a2 : Bool} {a3 : Int} {r : Int} (h : f472_s rc472 k a0 a1 a2 a3 = some (.inl r)) :
    ACalls P (N 472) [(.d (TValue.enc a0)), (.d (.int .i64 a1)), (.lf 0)] [(0, (.lp 17 [(2, (.ptr 1 0)), (3, (.ptr 2 0))] [7, 8] asg0 bd0 .ready none)), (1, (.cells [(.d (.bool a2))])), (2, (.cells [(.d (.int .i64 a3))]))] (.d (.bool false)) [(0, (.lp 17 [(2, (.ptr 1 0)), (3, (.ptr 2 0))] [7, 8] asg0 bd0 .done (some .ret))), (1, (.cells [(.d (.bool true))])), (2, (.cells [(.d (.int .i64 r))]))] := by
  refine acalls_canon (F := C472 N) hc.1 3 3 rfl ?_
  unfold f472_s at h
  dsimp only [C472, startL]
  refine AWc.seq ?_
  refine AWc.rg hmix rfl rfl ?_
  refine RegV.evS (own := false) (v := (.ptr 3 0)) (H' := [(3, (.cells [(.d (.int .i64 a0.fKind)), (.d (.int .i64 a0.fN)), (.d (.sl (List.map byteD a0.fB))), (.d (.sl (List.map (rtE (z := 5)) a0.fL))), (.d (.sl (List.map D.str a0.fKeys)))])), (0, (.lp 17 [(2, (.ptr 1 0)), (3, (.ptr 2 0))] [7, 8] asg0 bd0 .ready none)), (1, (.cells [(.d (.bool a2))])), (2, (.cells [(.d (.int .i64 a3))]))]) (c' := 4) rfl rfl trivial rfl rfl rfl rfl rfl rfl ?_
  refine RegV.p0 rfl rfl rfl ?_
  refine RegV.nil0 ?_
  refine AWc.seq ?_
  refine AWc.seq ?_
  refine AWc.rg hmix rfl rfl ?_
  refine RegV.p0 rfl rfl rfl ?_
  refine RegV.p0 rfl rfl rfl ?_
  refine RegV.ld (v := (.d (.agg [(.int .i64 a0.fKind), (.int .i64 a0.fN), (.sl (List.map byteD a0.fB)), (.sl (List.map (rtE (z := 5)) a0.fL)), (.sl (List.map D.str a0.fKeys))]))) (H' := [(3, (.cells [(.d (.int .i64 a0.fKind)), (.d (.int .i64 a0.fN)), (.d (.sl (List.map byteD a0.fB))), (.d (.sl (List.map (rtE (z := 5)) a0.fL))), (.d (.sl (List.map D.str a0.fKeys)))])), (0, (.lp 17 [(2, (.ptr 1 0)), (3, (.ptr 2 0))] [7, 8] asg0 bd0 .ready none)), (1, (.cells [(.d (.bool a2))])), (2, (.cells [(.d (.int .i64 a3))]))]) rfl rfl (Nat.le_of_ble_eq_true rfl) rfl rfl rfl rfl rfl ?_
  obtain ⟨r13, e13, h⟩ := bind_some h
  refine RegV.call0 (F473 hmix hc.2.1 e13) rfl rfl rfl rfl (.cons (.refl _) .nil) rfl ?_
  obtain ⟨or14, e14, h⟩ := bind_some h
  rcases or14 with r14 | r14
  · dsimp only at h
    refine RegV.yield (H' := [(0, (.lp 17 [(2, (.ptr 1 0)), (3, (.ptr 2 0))] [7, 8] asg0 bd0 .done (some .ret))), (1, (.cells [(.d (.bool true))])), (2, (.cells [(.d (.int .i64 (IntKind.i64.wrap (a3 + (1 : Int)))))])), (3, (.cells [(.d (.int .i64 a0.fKind)), (.d (.int .i64 a0.fN)), (.d (.sl (List.map byteD a0.fB))), (.d (.sl (List.map (rtE (z := 5)) a0.fL))), (.d (.sl (List.map D.str a0.fKeys)))]))]) (c' := 4) (show ARound P 0 [(.d (.int .i64 a1)), (.d (TValue.enc (TValue.mk ((TValue.mk a0.fKind a0.fN a0.fB a0.fL a0.fKeys).fKind) ((TValue.mk a0.fKind a0.fN a0.fB a0.fL a0.fKeys).fN) r13.1 r13.2.1 r13.2.2)))] [(0, (.lp 17 [(2, (.ptr 1 0)), (3, (.ptr 2 0))] [7, 8] asg0 bd0 .ready none)), (1, (.cells [(.d (.bool a2))])), (2, (.cells [(.d (.int .i64 a3))]))] (.d (.bool false)) [(0, (.lp 17 [(2, (.ptr 1 0)), (3, (.ptr 2 0))] [7, 8] asg0 bd0 .done (some .ret))), (1, (.cells [(.d (.bool true))])), (2, (.cells [(.d (.int .i64 (IntKind.i64.wrap (a3 + (1 : Int)))))]))] from ARound.use (B469_18_0 hmix hc.2.2 ha0 hb0 e14) [(0, 0), (1, 1), (2, 2)] 3 rfl) rfl rfl rfl (.cons (.refl _) (.cons (.refl _) .nil)) rfl (hasCons rfl (hasCons rfl (hasCons rfl hasNil))) rfl rfl rfl rfl ?_
    refine RegV.p0 (v := (.d (.bool true))) rfl rfl rfl ?_
    refine RegV.nil0 ?_
    refine AWc.cond rfl (fun _ => ?_) (fun hc => by cases hc)
    refine AWc.seq ?_
    refine AWc.rg hmix rfl rfl ?_
    refine RegV.p0 rfl rfl rfl ?_
    refine RegV.nil0 ?_
    have hr := Option.some.inj h
    have hr := Sum.inl.inj hr
    subst hr
    exact AWc.ret (canQ (N := 29) (k := 3) (l' := [(6, (.d (.bool false)))]) (H' := [(0, (.lp 17 [(2, (.ptr 1 0)), (3, (.ptr 2 0))] [7, 8] asg0 bd0 .done (some .ret))), (1, (.cells [(.d (.bool true))])), (2, (.cells [(.d (.int .i64 (IntKind.i64.wrap (a3 + (1 : Int)))))]))]) rfl ⟨rfl, [], [], rfl, rfl, ⟨⟨_, rfl, (.refl _)⟩, rfl, trivial⟩, ⟨⟨_, rfl, (.refl _)⟩, rfl, rfl, ⟨⟨_, rfl, (.refl _)⟩, rfl, rfl, ⟨⟨_, rfl, (.refl _)⟩, rfl, rfl, trivial⟩⟩⟩⟩ (doneA (.inr rfl) rfl ⟨trivial, trivial⟩ (.refl _) (hasCons rfl (hasCons rfl (hasCons rfl hasNil)))))
  · dsimp only at h
    refine RegV.yield (H' := [(0, (.lp 17 [(2, (.ptr 1 0)), (3, (.ptr 2 0))] [7, 8] asg0 bd0 .ready none)), (1, (.cells [(.d (.bool a2))])), (2, (.cells [(.d (.int .i64 (IntKind.i64.wrap (a3 + (1 : Int)))))])), (3, (.cells [(.d (.int .i64 a0.fKind)), (.d (.int .i64 a0.fN)), (.d (.sl (List.map byteD a0.fB))), (.d (.sl (List.map (rtE (z := 5)) a0.fL))), (.d (.sl (List.map D.str a0.fKeys)))]))]) (c' := 4) (show ARound P 0 [(.d (.int .i64 a1)), (.d (TValue.enc (TValue.mk ((TValue.mk a0.fKind a0.fN a0.fB a0.fL a0.fKeys).fKind) ((TValue.mk a0.fKind a0.fN a0.fB a0.fL a0.fKeys).fN) r13.1 r13.2.1 r13.2.2)))] [(0, (.lp 17 [(2, (.ptr 1 0)), (3, (.ptr 2 0))] [7, 8] asg0 bd0 .ready none)), (1, (.cells [(.d (.bool a2))])), (2, (.cells [(.d (.int .i64 a3))]))] (.d (.bool true)) [(0, (.lp 17 [(2, (.ptr 1 0)), (3, (.ptr 2 0))] [7, 8] asg0 bd0 .ready none)), (1, (.cells [(.d (.bool a2))])), (2, (.cells [(.d (.int .i64 (IntKind.i64.wrap (a3 + (1 : Int)))))]))] from ARound.use (B469_18_1 hmix hc.2.2 ha0 hb0 e14) [(0, 0), (1, 1), (2, 2)] 3 rfl) rfl rfl rfl (.cons (.refl _) (.cons (.refl _) .nil)) rfl (hasCons rfl (hasCons rfl (hasCons rfl hasNil))) rfl rfl rfl rfl ?_
    refine RegV.p0 (v := (.d (.bool false))) rfl rfl rfl ?_
    refine RegV.nil0 ?_
    refine AWc.cond rfl (fun hc => by cases hc) (fun _ => ?_)
    refine AWc.skip ?_
    refine AWc.seq ?_
    refine AWc.seq ?_
    refine AWc.rg hmix rfl rfl ?_
    refine RegV.p0 (v := (.ptr 3 3)) rfl rfl rfl ?_
    refine RegV.ld (v := (.d (.sl (List.map (rtE (z := 5)) a0.fL)))) (H' := [(3, (.cells [(.d (.int .i64 a0.fKind)), (.d (.int .i64 a0.fN)), (.d (.sl (List.map byteD a0.fB))), (.d (.sl (List.map (rtE (z := 5)) a0.fL))), (.d (.sl (List.map D.str a0.fKeys)))])), (0, (.lp 17 [(2, (.ptr 1 0)), (3, (.ptr 2 0))] [7, 8] asg0 bd0 .ready none)), (1, (.cells [(.d (.bool a2))])), (2, (.cells [(.d (.int .i64 (IntKind.i64.wrap (a3 + (1 : Int)))))]))]) rfl rfl trivial rfl rfl rfl rfl rfl ?_
    refine RegV.len (xs := a0.fL) (e := (rtE (z := 5))) rfl rfl rfl rfl ?_
    refine RegV.p0 rfl rfl rfl ?_
    refine RegV.nil0 ?_
    obtain ⟨o31, h31, h⟩ := bind_some h
    refine AWc.block ?_
    refine AWc.loopK (N := 29) 3 (fun (x : (Int × Int)) => [(1, (.d (.int .i64 a1))), (2, (.lf 0)), (16, (.d (.sl (List.map (rtE (z := 5)) a0.fL)))), (17, (.d (.int .i64 ((a0.fL.length : Nat) : Int)))), (18, (.d (.int .i64 x.1)))]) (fun x => [(0, (.lp 17 [(2, (.ptr 1 0)), (3, (.ptr 2 0))] [7, 8] asg0 bd0 .ready none)), (1, (.cells [(.d (.bool a2))])), (2, (.cells [(.d (.int .i64 x.2))]))]) (fun k x => f472_l31 a0 rc472 a1 a2 k x.1 x.2 = some o31) k ((0 : Int), (IntKind.i64.wrap (a3 + (1 : Int)))) rfl_le (fun x hx => by cases hx) h31 ⟨rfl, [], [], rfl, rfl, ⟨⟨_, rfl, (.refl _)⟩, rfl, ⟨⟨_, rfl, (.refl _)⟩, rfl, ⟨⟨_, rfl, (.refl _)⟩, rfl, ⟨⟨_, rfl, (.refl _)⟩, rfl, ⟨⟨_, rfl, (.refl _)⟩, rfl, trivial⟩⟩⟩⟩⟩, ⟨⟨_, rfl, (.refl _)⟩, rfl, rfl, ⟨⟨_, rfl, (.refl _)⟩, rfl, rfl, ⟨⟨_, rfl, (.refl _)⟩, rfl, rfl, trivial⟩⟩⟩⟩ ?_
    clear h31
    intro k
    rintro ⟨y31_1, y31_2⟩ h31
    dsimp only at h31 ⊢
    rw [f472_l31] at h31
    refine AWc.seq ?_
    refine AWc.rg hmix rfl rfl ?_
    refine RegV.p0 (v := (.d (.bool (decide (y31_1 < ((a0.fL.length : Nat) : Int)))))) rfl rfl rfl ?_
    refine RegV.nil0 ?_
    refine AWc.seq ?_
    refine AWc.cond rfl (fun c38 => ?_) (fun c38 => ?_)
    · have h31 := cond_pos c38 h31
      refine AWc.skip ?_
      refine AWc.seq ?_
      refine AWc.block ?_
      refine AWc.seq ?_
      refine AWc.rg hmix rfl rfl ?_
      obtain ⟨b46, h31⟩ := gd_some h31
      obtain ⟨rx46, ex46, h31⟩ := bind_some h31
      refine RegV.iadE (xs := a0.fL) (e := (rtE (z := 5))) (w := TValue.enc rx46) rfl rfl rfl rfl rtE_ok.len b46 (TValue.dec_eq ex46) rfl ?_
      refine RegV.p1 (v := (.d (TValue.enc rx46))) rfl rfl rfl rfl rfl ?_
      refine RegV.evS (own := false) (v := (.ptr 3 0)) (H' := [(3, (.cells [(.d (.int .i64 (0 : Int))), (.d (.int .i64 (0 : Int))), .nils, .nils, .nils])), (0, (.lp 17 [(2, (.ptr 1 0)), (3, (.ptr 2 0))] [7, 8] asg0 bd0 .ready none)), (1, (.cells [(.d (.bool a2))])), (2, (.cells [(.d (.int .i64 y31_2))]))]) (c' := 4) rfl rfl trivial rfl rfl rfl rfl rfl rfl ?_
      refine RegV.evN (own := false) (H' := [(3, (.cells [(.d (.int .i64 rx46.fKind)), (.d (.int .i64 rx46.fN)), (.d (.sl (List.map byteD rx46.fB))), (.d (.sl (List.map (rtE (z := 5)) rx46.fL))), (.d (.sl (List.map D.str rx46.fKeys)))])), (0, (.lp 17 [(2, (.ptr 1 0)), (3, (.ptr 2 0))] [7, 8] asg0 bd0 .ready none)), (1, (.cells [(.d (.bool a2))])), (2, (.cells [(.d (.int .i64 y31_2))]))]) (c' := 4) rfl rfl (by exact ⟨rfl, Nat.le_of_ble_eq_true rfl, rfl⟩) rfl rfl rfl rfl ?_
      refine RegV.nil0 ?_
      refine AWc.seq ?_
      refine AWc.rg hmix rfl rfl ?_
      refine RegV.ld (v := (.d (.agg [(.int .i64 rx46.fKind), (.int .i64 rx46.fN), (.sl (List.map byteD rx46.fB)), (.sl (List.map (rtE (z := 5)) rx46.fL)), (.sl (List.map D.str rx46.fKeys))]))) (H' := [(3, (.cells [(.d (.int .i64 rx46.fKind)), (.d (.int .i64 rx46.fN)), (.d (.sl (List.map byteD rx46.fB))), (.d (.sl (List.map (rtE (z := 5)) rx46.fL))), (.d (.sl (List.map D.str rx46.fKeys)))])), (0, (.lp 17 [(2, (.ptr 1 0)), (3, (.ptr 2 0))] [7, 8] asg0 bd0 .ready none)), (1, (.cells [(.d (.bool a2))])), (2, (.cells [(.d (.int .i64 y31_2))]))]) rfl rfl (Nat.le_of_ble_eq_true rfl) rfl rfl rfl rfl rfl ?_
      refine RegV.p0 rfl rfl rfl ?_
      refine RegV.p0 (v := (.d (.int .i64 (IntKind.i64.wrap (a1 + (1 : Int)))))) rfl rfl rfl ?_
      refine RegV.p0 rfl rfl rfl ?_
      obtain ⟨or57, e57, h31⟩ := bind_some h31
      rcases or57 with r57 | r57
      · dsimp only at h31
        refine RegV.callS (q := false) (H' := [(0, (.lp 17 [(2, (.ptr 1 0)), (3, (.ptr 2 0))] [7, 8] asg0 bd0 .done (some .ret))), (1, (.cells [(.d (.bool true))])), (2, (.cells [(.d (.int .i64 r57))])), (3, (.cells [(.d (.int .i64 rx46.fKind)), (.d (.int .i64 rx46.fN)), (.d (.sl (List.map byteD rx46.fB))), (.d (.sl (List.map (rtE (z := 5)) rx46.fL))), (.d (.sl (List.map D.str rx46.fKeys)))]))]) (c' := 4) (show ACalls P (N 472) [(.d (TValue.enc (TValue.mk rx46.fKind rx46.fN rx46.fB rx46.fL rx46.fKeys))), (.d (.int .i64 (IntKind.i64.wrap (a1 + (1 : Int))))), (.lf 0)] [(0, (.lp 17 [(2, (.ptr 1 0)), (3, (.ptr 2 0))] [7, 8] asg0 bd0 .ready none)), (1, (.cells [(.d (.bool a2))])), (2, (.cells [(.d (.int .i64 y31_2))]))] (.d (.bool false)) [(0, (.lp 17 [(2, (.ptr 1 0)), (3, (.ptr 2 0))] [7, 8] asg0 bd0 .done (some .ret))), (1, (.cells [(.d (.bool true))])), (2, (.cells [(.d (.int .i64 r57))]))] from ACalls.use (hrc472.1 _ _ ha0 hb0 _ _ _ _ _ e57) [(0, 0), (1, 1), (2, 2)] 3 rfl) rfl rfl rfl rfl (.cons (.refl _) (.cons (.refl _) (.cons (.refl _) .nil))) (.refl _) (fun h => by cases h) rfl (hasCons rfl (hasCons rfl (hasCons rfl hasNil))) rfl rfl rfl rfl ?_
        refine RegV.p0 (v := (.d (.bool true))) rfl rfl rfl ?_
        refine RegV.nil0 ?_
        refine AWc.cond rfl (fun _ => ?_) (fun hc => by cases hc)
        refine AWc.seq ?_
        refine AWc.rg hmix rfl rfl ?_
        refine RegV.p0 rfl rfl rfl ?_
        refine RegV.nil0 ?_
        cases h31
        dsimp only at h
        have hr := Option.some.inj h
        have hr := Sum.inl.inj hr
        subst hr
        exact AWc.ret (canQ (N := 29) (k := 3) (l' := [(6, (.d (.bool false)))]) (H' := [(0, (.lp 17 [(2, (.ptr 1 0)), (3, (.ptr 2 0))] [7, 8] asg0 bd0 .done (some .ret))), (1, (.cells [(.d (.bool true))])), (2, (.cells [(.d (.int .i64 r57))]))]) rfl ⟨rfl, [], [], rfl, rfl, ⟨⟨_, rfl, (.refl _)⟩, rfl, trivial⟩, ⟨⟨_, rfl, (.refl _)⟩, rfl, rfl, ⟨⟨_, rfl, (.refl _)⟩, rfl, rfl, ⟨⟨_, rfl, (.refl _)⟩, rfl, rfl, trivial⟩⟩⟩⟩ (doneA (.inr rfl) rfl ⟨trivial, trivial⟩ (.refl _) (hasCons rfl (hasCons rfl (hasCons rfl hasNil)))))
      · dsimp only at h31
        refine RegV.callS (q := false) (H' := [(0, (.lp 17 [(2, (.ptr 1 0)), (3, (.ptr 2 0))] [7, 8] asg0 bd0 .ready none)), (1, (.cells [(.d (.bool a2))])), (2, (.cells [(.d (.int .i64 r57))])), (3, (.cells [(.d (.int .i64 rx46.fKind)), (.d (.int .i64 rx46.fN)), (.d (.sl (List.map byteD rx46.fB))), (.d (.sl (List.map (rtE (z := 5)) rx46.fL))), (.d (.sl (List.map D.str rx46.fKeys)))]))]) (c' := 4) (show ACalls P (N 472) [(.d (TValue.enc (TValue.mk rx46.fKind rx46.fN rx46.fB rx46.fL rx46.fKeys))), (.d (.int .i64 (IntKind.i64.wrap (a1 + (1 : Int))))), (.lf 0)] [(0, (.lp 17 [(2, (.ptr 1 0)), (3, (.ptr 2 0))] [7, 8] asg0 bd0 .ready none)), (1, (.cells [(.d (.bool a2))])), (2, (.cells [(.d (.int .i64 y31_2))]))] (.d (.bool true)) [(0, (.lp 17 [(2, (.ptr 1 0)), (3, (.ptr 2 0))] [7, 8] asg0 bd0 .ready none)), (1, (.cells [(.d (.bool a2))])), (2, (.cells [(.d (.int .i64 r57))]))] from ACalls.use (hrc472.2 _ _ ha0 hb0 _ _ _ _ _ e57) [(0, 0), (1, 1), (2, 2)] 3 rfl) rfl rfl rfl rfl (.cons (.refl _) (.cons (.refl _) (.cons (.refl _) .nil))) (.refl _) (fun h => by cases h) rfl (hasCons rfl (hasCons rfl (hasCons rfl hasNil))) rfl rfl rfl rfl ?_
        refine RegV.p0 (v := (.d (.bool false))) rfl rfl rfl ?_
        refine RegV.nil0 ?_
        refine AWc.cond rfl (fun hc => by cases hc) (fun _ => ?_)
        refine AWc.skip ?_
        refine AWc.rg hmix rfl rfl ?_
        refine RegV.p0 (v := (.d (.int .i64 (IntKind.i64.wrap (y31_1 + (1 : Int)))))) rfl rfl rfl ?_
        refine RegV.p0 rfl rfl rfl ?_
        refine RegV.nil0 ?_
        exact ⟨((IntKind.i64.wrap (y31_1 + (1 : Int))), r57), h31, ⟨rfl, [], [], rfl, rfl, ⟨⟨_, rfl, (.refl _)⟩, rfl, ⟨⟨_, rfl, (.refl _)⟩, rfl, ⟨⟨_, rfl, (.refl _)⟩, rfl, ⟨⟨_, rfl, (.refl _)⟩, rfl, ⟨⟨_, rfl, (.refl _)⟩, rfl, trivial⟩⟩⟩⟩⟩, ⟨⟨_, rfl, (.refl _)⟩, rfl, rfl, ⟨⟨_, rfl, (.refl _)⟩, rfl, rfl, ⟨⟨_, rfl, (.refl _)⟩, rfl, rfl, trivial⟩⟩⟩⟩⟩
    · have h31 := cond_neg c38 h31
      cases h31
      dsimp only at h
      refine AWc.exit ?_
      refine inBlk_eq ?_
      refine AWc.seq ?_
      refine AWc.rg hmix rfl rfl ?_
      refine RegV.p0 rfl rfl rfl ?_
      refine RegV.nil0 ?_
      cases h
theorem F472_1_s {P : Program} {N : Nat → Nat} (hmix : P.follows .mixedOrders = true) (hc : HC472 P N) {rc472 : TValue → Int → Bool → Int → Option (Int ⊕ Int)} (hrc472 : RH472 P N rc472) {asg0 bd0 : Code} (ha0 : compCode P asg0 = L469_0a N) (hb0 : compCode P bd0 = L469_0b N) {k : Nat} {a0 : TValue} {a1 : Int} {a2 : Bool} {a3 : Int} {r : Int} (h : f472_s rc472 k a0 a1 a2 a3 = some (.inr r)) :
    ACalls P (N 472) [(.d (TValue.enc a0)), (.d (.int .i64 a1)), (.lf 0)] [(0, (.lp 17 [(2, (.ptr 1 0)), (3, (.ptr 2 0))] [7, 8] asg0 bd0 .ready none)), (1, (.cells [(.d (.bool a2))])), (2, (.cells [(.d (.int .i64 a3))]))] (.d (.bool true)) [(0, (.lp 17 [(2, (.ptr 1 0)), (3, (.ptr 2 0))] [7, 8] asg0 bd0 .ready none)), (1, (.cells [(.d (.bool a2))])), (2, (.cells [(.d (.int .i64 r))]))] := by
  refine acalls_canon (F := C472 N) hc.1 3 3 rfl ?_
  unfold f472_s at h
  dsimp only [C472, startL]
  refine AWc.seq ?_
  refine AWc.rg hmix rfl rfl ?_
  refine RegV.evS (own := false) (v := (.ptr 3 0)) (H' := [(3, (.cells [(.d (.int .i64 a0.fKind)), (.d (.int .i64 a0.fN)), (.d (.sl (List.map byteD a0.fB))), (.d (.sl (List.map (rtE (z := 5)) a0.fL))), (.d (.sl (List.map D.str a0.fKeys)))])), (0, (.lp 17 [(2, (.ptr 1 0)), (3, (.ptr 2 0))] [7, 8] asg0 bd0 .ready none)), (1, (.cells [(.d (.bool a2))])), (2, (.cells [(.d (.int .i64 a3))]))]) (c' := 4) rfl rfl trivial rfl rfl rfl rfl rfl rfl ?_
  refine RegV.p0 rfl rfl rfl ?_
  refine RegV.nil0 ?_
  refine AWc.seq ?_
  refine AWc.seq ?_
  refine AWc.rg hmix rfl rfl ?_
  refine RegV.p0 rfl rfl rfl ?_
  refine RegV.p0 rfl rfl rfl ?_
  refine RegV.ld (v := (.d (.agg [(.int .i64 a0.fKind), (.int .i64 a0.fN), (.sl (List.map byteD a0.fB)), (.sl (List.map (rtE (z := 5)) a0.fL)), (.sl (List.map D.str a0.fKeys))]))) (H' := [(3, (.cells [(.d (.int .i64 a0.fKind)), (.d (.int .i64 a0.fN)), (.d (.sl (List.map byteD a0.fB))), (.d (.sl (List.map (rtE (z := 5)) a0.fL))), (.d (.sl (List.map D.str a0.fKeys)))])), (0, (.lp 17 [(2, (.ptr 1 0)), (3, (.ptr 2 0))] [7, 8] asg0 bd0 .ready none)), (1, (.cells [(.d (.bool a2))])), (2, (.cells [(.d (.int .i64 a3))]))]) rfl rfl (Nat.le_of_ble_eq_true rfl) rfl rfl rfl rfl rfl ?_
  obtain ⟨r13, e13, h⟩ := bind_some h
  refine RegV.call0 (F473 hmix hc.2.1 e13) rfl rfl rfl rfl (.cons (.refl _) .nil) rfl ?_
  obtain ⟨or14, e14, h⟩ := bind_some h
  rcases or14 with r14 | r14
  · dsimp only at h
    refine RegV.yield (H' := [(0, (.lp 17 [(2, (.ptr 1 0)), (3, (.ptr 2 0))] [7, 8] asg0 bd0 .done (some .ret))), (1, (.cells [(.d (.bool true))])), (2, (.cells [(.d (.int .i64 (IntKind.i64.wrap (a3 + (1 : Int)))))])), (3, (.cells [(.d (.int .i64 a0.fKind)), (.d (.int .i64 a0.fN)), (.d (.sl (List.map byteD a0.fB))), (.d (.sl (List.map (rtE (z := 5)) a0.fL))), (.d (.sl (List.map D.str a0.fKeys)))]))]) (c' := 4) (show ARound P 0 [(.d (.int .i64 a1)), (.d (TValue.enc (TValue.mk ((TValue.mk a0.fKind a0.fN a0.fB a0.fL a0.fKeys).fKind) ((TValue.mk a0.fKind a0.fN a0.fB a0.fL a0.fKeys).fN) r13.1 r13.2.1 r13.2.2)))] [(0, (.lp 17 [(2, (.ptr 1 0)), (3, (.ptr 2 0))] [7, 8] asg0 bd0 .ready none)), (1, (.cells [(.d (.bool a2))])), (2, (.cells [(.d (.int .i64 a3))]))] (.d (.bool false)) [(0, (.lp 17 [(2, (.ptr 1 0)), (3, (.ptr 2 0))] [7, 8] asg0 bd0 .done (some .ret))), (1, (.cells [(.d (.bool true))])), (2, (.cells [(.d (.int .i64 (IntKind.i64.wrap (a3 + (1 : Int)))))]))] from ARound.use (B469_18_0 hmix hc.2.2 ha0 hb0 e14) [(0, 0), (1, 1), (2, 2)] 3 rfl) rfl rfl rfl (.cons (.refl _) (.cons (.refl _) .nil)) rfl (hasCons rfl (hasCons rfl (hasCons rfl hasNil))) rfl rfl rfl rfl ?_
    refine RegV.p0 (v := (.d (.bool true))) rfl rfl rfl ?_
    refine RegV.nil0 ?_
    refine AWc.cond rfl (fun _ => ?_) (fun hc => by cases hc)
    refine AWc.seq ?_
    refine AWc.rg hmix rfl rfl ?_
    refine RegV.p0 rfl rfl rfl ?_
    refine RegV.nil0 ?_
    cases h
  · dsimp only at h
    refine RegV.yield (H' := [(0, (.lp 17 [(2, (.ptr 1 0)), (3, (.ptr 2 0))] [7, 8] asg0 bd0 .ready none)), (1, (.cells [(.d (.bool a2))])), (2, (.cells [(.d (.int .i64 (IntKind.i64.wrap (a3 + (1 : Int)))))])), (3, (.cells [(.d (.int .i64 a0.fKind)), (.d (.int .i64 a0.fN)), (.d (.sl (List.map byteD a0.fB))), (.d (.sl (List.map (rtE (z := 5)) a0.fL))), (.d (.sl (List.map D.str a0.fKeys)))]))]) (c' := 4) (show ARound P 0 [(.d (.int .i64 a1)), (.d (TValue.enc (TValue.mk ((TValue.mk a0.fKind a0.fN a0.fB a0.fL a0.fKeys).fKind) ((TValue.mk a0.fKind a0.fN a0.fB a0.fL a0.fKeys).fN) r13.1 r13.2.1 r13.2.2)))] [(0, (.lp 17 [(2, (.ptr 1 0)), (3, (.ptr 2 0))] [7, 8] asg0 bd0 .ready none)), (1, (.cells [(.d (.bool a2))])), (2, (.cells [(.d (.int .i64 a3))]))] (.d (.bool true)) [(0, (.lp 17 [(2, (.ptr 1 0)), (3, (.ptr 2 0))] [7, 8] asg0 bd0 .ready none)), (1, (.cells [(.d (.bool a2))])), (2, (.cells [(.d (.int .i64 (IntKind.i64.wrap (a3 + (1 : Int)))))]))] from ARound.use (B469_18_1 hmix hc.2.2 ha0 hb0 e14) [(0, 0), (1, 1), (2, 2)] 3 rfl) rfl rfl rfl (.cons (.refl _) (.cons (.refl _) .nil)) rfl (hasCons rfl (hasCons rfl (hasCons rfl hasNil))) rfl rfl rfl rfl ?_
    refine RegV.p0 (v := (.d (.bool false))) rfl rfl rfl ?_
    refine RegV.nil0 ?_
    refine AWc.cond rfl (fun hc => by cases hc) (fun _ => ?_)
    refine AWc.skip ?_
    refine AWc.seq ?_
    refine AWc.seq ?_
    refine AWc.rg hmix rfl rfl ?_
    refine RegV.p0 (v := (.ptr 3 3)) rfl rfl rfl ?_
    refine RegV.ld (v := (.d (.sl (List.map (rtE (z := 5)) a0.fL)))) (H' := [(3, (.cells [(.d (.int .i64 a0.fKind)), (.d (.int .i64 a0.fN)), (.d (.sl (List.map byteD a0.fB))), (.d (.sl (List.map (rtE (z := 5)) a0.fL))), (.d (.sl (List.map D.str a0.fKeys)))])), (0, (.lp 17 [(2, (.ptr 1 0)), (3, (.ptr 2 0))] [7, 8] asg0 bd0 .ready none)), (1, (.cells [(.d (.bool a2))])), (2, (.cells [(.d (.int .i64 (IntKind.i64.wrap (a3 + (1 : Int)))))]))]) rfl rfl trivial rfl rfl rfl rfl rfl ?_
    refine RegV.len (xs := a0.fL) (e := (rtE (z := 5))) rfl rfl rfl rfl ?_
    refine RegV.p0 rfl rfl rfl ?_
    refine RegV.nil0 ?_
    obtain ⟨o31, h31, h⟩ := bind_some h
    refine AWc.block ?_
    refine AWc.loopK (N := 29) 3 (fun (x : (Int × Int)) => [(1, (.d (.int .i64 a1))), (2, (.lf 0)), (16, (.d (.sl (List.map (rtE (z := 5)) a0.fL)))), (17, (.d (.int .i64 ((a0.fL.length : Nat) : Int)))), (18, (.d (.int .i64 x.1)))]) (fun x => [(0, (.lp 17 [(2, (.ptr 1 0)), (3, (.ptr 2 0))] [7, 8] asg0 bd0 .ready none)), (1, (.cells [(.d (.bool a2))])), (2, (.cells [(.d (.int .i64 x.2))]))]) (fun k x => f472_l31 a0 rc472 a1 a2 k x.1 x.2 = some o31) k ((0 : Int), (IntKind.i64.wrap (a3 + (1 : Int)))) rfl_le (fun x hx => by cases hx) h31 ⟨rfl, [], [], rfl, rfl, ⟨⟨_, rfl, (.refl _)⟩, rfl, ⟨⟨_, rfl, (.refl _)⟩, rfl, ⟨⟨_, rfl, (.refl _)⟩, rfl, ⟨⟨_, rfl, (.refl _)⟩, rfl, ⟨⟨_, rfl, (.refl _)⟩, rfl, trivial⟩⟩⟩⟩⟩, ⟨⟨_, rfl, (.refl _)⟩, rfl, rfl, ⟨⟨_, rfl, (.refl _)⟩, rfl, rfl, ⟨⟨_, rfl, (.refl _)⟩, rfl, rfl, trivial⟩⟩⟩⟩ ?_
    clear h31
    intro k
    rintro ⟨y31_1, y31_2⟩ h31
    dsimp only at h31 ⊢
    rw [f472_l31] at h31
    refine AWc.seq ?_
    refine AWc.rg hmix rfl rfl ?_
    refine RegV.p0 (v := (.d (.bool (decide (y31_1 < ((a0.fL.length : Nat) : Int)))))) rfl rfl rfl ?_
    refine RegV.nil0 ?_
    refine AWc.seq ?_
    refine AWc.cond rfl (fun c38 => ?_) (fun c38 => ?_)
    · have h31 := cond_pos c38 h31
      refine AWc.skip ?_
      refine AWc.seq ?_
      refine AWc.block ?_
      refine AWc.seq ?_
      refine AWc.rg hmix rfl rfl ?_
      obtain ⟨b46, h31⟩ := gd_some h31
      obtain ⟨rx46, ex46, h31⟩ := bind_some h31
      refine RegV.iadE (xs := a0.fL) (e := (rtE (z := 5))) (w := TValue.enc rx46) rfl rfl rfl rfl rtE_ok.len b46 (TValue.dec_eq ex46) rfl ?_
      refine RegV.p1 (v := (.d (TValue.enc rx46))) rfl rfl rfl rfl rfl ?_
      refine RegV.evS (own := false) (v := (.ptr 3 0)) (H' := [(3, (.cells [(.d (.int .i64 (0 : Int))), (.d (.int .i64 (0 : Int))), .nils, .nils, .nils])), (0, (.lp 17 [(2, (.ptr 1 0)), (3, (.ptr 2 0))] [7, 8] asg0 bd0 .ready none)), (1, (.cells [(.d (.bool a2))])), (2, (.cells [(.d (.int .i64 y31_2))]))]) (c' := 4) rfl rfl trivial rfl rfl rfl rfl rfl rfl ?_
      refine RegV.evN (own := false) (H' := [(3, (.cells [(.d (.int .i64 rx46.fKind)), (.d (.int .i64 rx46.fN)), (.d (.sl (List.map byteD rx46.fB))), (.d (.sl (List.map (rtE (z := 5)) rx46.fL))), (.d (.sl (List.map D.str rx46.fKeys)))])), (0, (.lp 17 [(2, (.ptr 1 0)), (3, (.ptr 2 0))] [7, 8] asg0 bd0 .ready none)), (1, (.cells [(.d (.bool a2))])), (2, (.cells [(.d (.int .i64 y31_2))]))]) (c' := 4) rfl rfl (by exact ⟨rfl, Nat.le_of_ble_eq_true rfl, rfl⟩) rfl rfl rfl rfl ?_
      refine RegV.nil0 ?_
      refine AWc.seq ?_
      refine AWc.rg hmix rfl rfl ?_
      refine RegV.ld (v := (.d (.agg [(.int .i64 rx46.fKind), (.int .i64 rx46.fN), (.sl (List.map byteD rx46.fB)), (.sl (List.map (rtE (z := 5)) rx46.fL)), (.sl (List.map D.str rx46.fKeys))]))) (H' := [(3, (.cells [(.d (.int .i64 rx46.fKind)), (.d (.int .i64 rx46.fN)), (.d (.sl (List.map byteD rx46.fB))), (.d (.sl (List.map (rtE (z := 5)) rx46.fL))), (.d (.sl (List.map D.str rx46.fKeys)))])), (0, (.lp 17 [(2, (.ptr 1 0)), (3, (.ptr 2 0))] [7, 8] asg0 bd0 .ready none)), (1, (.cells [(.d (.bool a2))])), (2, (.cells [(.d (.int .i64 y31_2))]))]) rfl rfl (Nat.le_of_ble_eq_true rfl) rfl rfl rfl rfl rfl ?_
      refine RegV.p0 rfl rfl rfl ?_
      refine RegV.p0 (v := (.d (.int .i64 (IntKind.i64.wrap (a1 + (1 : Int)))))) rfl rfl rfl ?_
      refine RegV.p0 rfl rfl rfl ?_
      obtain ⟨or57, e57, h31⟩ := bind_some h31
      rcases or57 with r57 | r57
      · dsimp only at h31
        refine RegV.callS (q := false) (H' := [(0, (.lp 17 [(2, (.ptr 1 0)), (3, (.ptr 2 0))] [7, 8] asg0 bd0 .done (some .ret))), (1, (.cells [(.d (.bool true))])), (2, (.cells [(.d (.int .i64 r57))])), (3, (.cells [(.d (.int .i64 rx46.fKind)), (.d (.int .i64 rx46.fN)), (.d (.sl (List.map byteD rx46.fB))), (.d (.sl (List.map (rtE (z := 5)) rx46.fL))), (.d (.sl (List.map D.str rx46.fKeys)))]))]) (c' := 4) (show ACalls P (N 472) [(.d (TValue.enc (TValue.mk rx46.fKind rx46.fN rx46.fB rx46.fL rx46.fKeys))), (.d (.int .i64 (IntKind.i64.wrap (a1 + (1 : Int))))), (.lf 0)] [(0, (.lp 17 [(2, (.ptr 1 0)), (3, (.ptr 2 0))] [7, 8] asg0 bd0 .ready none)), (1, (.cells [(.d (.bool a2))])), (2, (.cells [(.d (.int .i64 y31_2))]))] (.d (.bool false)) [(0, (.lp 17 [(2, (.ptr 1 0)), (3, (.ptr 2 0))] [7, 8] asg0 bd0 .done (some .ret))), (1, (.cells [(.d (.bool true))])), (2, (.cells [(.d (.int .i64 r57))]))] from ACalls.use (hrc472.1 _ _ ha0 hb0 _ _ _ _ _ e57) [(0, 0), (1, 1), (2, 2)] 3 rfl) rfl rfl rfl rfl (.cons (.refl _) (.cons (.refl _) (.cons (.refl _) .nil))) (.refl _) (fun h => by cases h) rfl (hasCons rfl (hasCons rfl (hasCons rfl hasNil))) rfl rfl rfl rfl ?_
        refine RegV.p0 (v := (.d (.bool true))) rfl rfl rfl ?_
        refine RegV.nil0 ?_
        refine AWc.cond rfl (fun _ => ?_) (fun hc => by cases hc)
        refine AWc.seq ?_
        refine AWc.rg hmix rfl rfl ?_
        refine RegV.p0 rfl rfl rfl ?_
        refine RegV.nil0 ?_
        cases h31
        dsimp only at h
        cases h
      · dsimp only at h31
        refine RegV.callS (q := false) (H' := [(0, (.lp 17 [(2, (.ptr 1 0)), (3, (.ptr 2 0))] [7, 8] asg0 bd0 .ready none)), (1, (.cells [(.d (.bool a2))])), (2, (.cells [(.d (.int .i64 r57))])), (3, (.cells [(.d (.int .i64 rx46.fKind)), (.d (.int .i64 rx46.fN)), (.d (.sl (List.map byteD rx46.fB))), (.d (.sl (List.map (rtE (z := 5)) rx46.fL))), (.d (.sl (List.map D.str rx46.fKeys)))]))]) (c' := 4) (show ACalls P (N 472) [(.d (TValue.enc (TValue.mk rx46.fKind rx46.fN rx46.fB rx46.fL rx46.fKeys))), (.d (.int .i64 (IntKind.i64.wrap (a1 + (1 : Int))))), (.lf 0)] [(0, (.lp 17 [(2, (.ptr 1 0)), (3, (.ptr 2 0))] [7, 8] asg0 bd0 .ready none)), (1, (.cells [(.d (.bool a2))])), (2, (.cells [(.d (.int .i64 y31_2))]))] (.d (.bool true)) [(0, (.lp 17 [(2, (.ptr 1 0)), (3, (.ptr 2 0))] [7, 8] asg0 bd0 .ready none)), (1, (.cells [(.d (.bool a2))])), (2, (.cells [(.d (.int .i64 r57))]))] from ACalls.use (hrc472.2 _ _ ha0 hb0 _ _ _ _ _ e57) [(0, 0), (1, 1), (2, 2)] 3 rfl) rfl rfl rfl rfl (.cons (.refl _) (.cons (.refl _) (.cons (.refl _) .nil))) (.refl _) (fun h => by cases h) rfl (hasCons rfl (hasCons rfl (hasCons rfl hasNil))) rfl rfl rfl rfl ?_
        refine RegV.p0 (v := (.d (.bool false))) rfl rfl rfl ?_
        refine RegV.nil0 ?_
        refine AWc.cond rfl (fun hc => by cases hc) (fun _ => ?_)
        refine AWc.skip ?_
        refine AWc.rg hmix rfl rfl ?_
        refine RegV.p0 (v := (.d (.int .i64 (IntKind.i64.wrap (y31_1 + (1 : Int)))))) rfl rfl rfl ?_
        refine RegV.p0 rfl rfl rfl ?_
        refine RegV.nil0 ?_
        exact ⟨((IntKind.i64.wrap (y31_1 + (1 : Int))), r57), h31, ⟨rfl, [], [], rfl, rfl, ⟨⟨_, rfl, (.refl _)⟩, rfl, ⟨⟨_, rfl, (.refl _)⟩, rfl, ⟨⟨_, rfl, (.refl _)⟩, rfl, ⟨⟨_, rfl, (.refl _)⟩, rfl, ⟨⟨_, rfl, (.refl _)⟩, rfl, trivial⟩⟩⟩⟩⟩, ⟨⟨_, rfl, (.refl _)⟩, rfl, rfl, ⟨⟨_, rfl, (.refl _)⟩, rfl, rfl, ⟨⟨_, rfl, (.refl _)⟩, rfl, rfl, trivial⟩⟩⟩⟩⟩
    · have h31 := cond_neg c38 h31
      cases h31
      dsimp only at h
      refine AWc.exit ?_
      refine inBlk_eq ?_
      refine AWc.seq ?_
      refine AWc.rg hmix rfl rfl ?_
      refine RegV.p0 rfl rfl rfl ?_
      refine RegV.nil0 ?_
      have hr := Option.some.inj h
      have hr := Sum.inr.inj hr
      subst hr
      exact AWc.ret (canQ (N := 29) (k := 3) (l' := [(6, (.d (.bool true)))]) (H' := [(0, (.lp 17 [(2, (.ptr 1 0)), (3, (.ptr 2 0))] [7, 8] asg0 bd0 .ready none)), (1, (.cells [(.d (.bool a2))])), (2, (.cells [(.d (.int .i64 y31_2))]))]) rfl ⟨rfl, [], [], rfl, rfl, ⟨⟨_, rfl, (.refl _)⟩, rfl, trivial⟩, ⟨⟨_, rfl, (.refl _)⟩, rfl, rfl, ⟨⟨_, rfl, (.refl _)⟩, rfl, rfl, ⟨⟨_, rfl, (.refl _)⟩, rfl, rfl, trivial⟩⟩⟩⟩ (doneA (.inr rfl) rfl ⟨trivial, trivial⟩ (.refl _) (hasCons rfl (hasCons rfl (hasCons rfl hasNil)))))
def f472 : Nat → TValue → Int → Bool → Int → Option (Int ⊕ Int)
  | 0, _, _, _, _ => none
  | k + 1, a0, a1, a2, a3 => f472_s (f472 k) k a0 a1 a2 a3
theorem F472all {P : Program} {N : Nat → Nat} (hmix : P.follows .mixedOrders = true) (hc : HC472 P N) (k : Nat) : RH472 P N (f472 k) := by
  induction k with
  | zero => refine ⟨?_, ?_⟩ <;> (intros; rename_i h; exact absurd (show (none : Option _) = some _ from h) (fun h2 => by cases h2))
  | succ k ih => exact ⟨fun asg0 bd0 ha0 hb0 a0 a1 a2 a3 r h => F472_0_s hmix hc ih ha0 hb0 h, fun asg0 bd0 ha0 hb0 a0 a1 a2 a3 r h => F472_1_s hmix hc ih ha0 hb0 h⟩
theorem F472_0 {P : Program} {N : Nat → Nat} (hmix : P.follows .mixedOrders = true) (hc : HC472 P N) {asg0 bd0 : Code} (ha0 : compCode P asg0 = L469_0a N) (hb0 : compCode P bd0 = L469_0b N) {k : Nat} {a0 : TValue} {a1 : Int} {a2 : Bool} {a3 : Int} {r : Int} (h : f472 k a0 a1 a2 a3 = some (.inl r)) :
    ACalls P (N 472) [(.d (TValue.enc a0)), (.d (.int .i64 a1)), (.lf 0)] [(0, (.lp 17 [(2, (.ptr 1 0)), (3, (.ptr 2 0))] [7, 8] asg0 bd0 .ready none)), (1, (.cells [(.d (.bool a2))])), (2, (.cells [(.d (.int .i64 a3))]))] (.d (.bool false)) [(0, (.lp 17 [(2, (.ptr 1 0)), (3, (.ptr 2 0))] [7, 8] asg0 bd0 .done (some .ret))), (1, (.cells [(.d (.bool true))])), (2, (.cells [(.d (.int .i64 r))]))] := (F472all hmix hc k).1 _ _ ha0 hb0 _ _ _ _ _ h
theorem F472_1 {P : Program} {N : Nat → Nat} (hmix : P.follows .mixedOrders = true) (hc : HC472 P N) {asg0 bd0 : Code} (ha0 : compCode P asg0 = L469_0a N) (hb0 : compCode P bd0 = L469_0b N) {k : Nat} {a0 : TValue} {a1 : Int} {a2 : Bool} {a3 : Int} {r : Int} (h : f472 k a0 a1 a2 a3 = some (.inr r)) :
    ACalls P (N 472) [(.d (TValue.enc a0)), (.d (.int .i64 a1)), (.lf 0)] [(0, (.lp 17 [(2, (.ptr 1 0)), (3, (.ptr 2 0))] [7, 8] asg0 bd0 .ready none)), (1, (.cells [(.d (.bool a2))])), (2, (.cells [(.d (.int .i64 a3))]))] (.d (.bool true)) [(0, (.lp 17 [(2, (.ptr 1 0)), (3, (.ptr 2 0))] [7, 8] asg0 bd0 .ready none)), (1, (.cells [(.d (.bool a2))])), (2, (.cells [(.d (.int .i64 r))]))] := (F472all hmix hc k).2 _ _ ha0 hb0 _ _ _ _ _ h
/-- courant/value.Walk$1 -/
def C471 (N : Nat → Nat) : AFunc := { n := 6, params := 2, res := [], body :=
 (.region false [⟨(some 3), .load (.t 1) 5 true, none, []⟩,
  ⟨(some 4), .mv (.t 0), none, []⟩,
  ⟨(some 5), .call (.k (.d (.fn (N 472)))) [(.t 3), (.k (.d (.int .i64 1))), (.t 4)], none, [0, 1]⟩]) }
def HC471 (P : Program) (N : Nat → Nat) : Prop := HasF P (N 471) (C471 N) ∧ HC472 P N
def f471 (k : Nat) (a0 : Bool) (a1 : Int) (a2 : Int) (a3 : Int) (a4 : (List UInt8)) (a5 : (List (RT 5))) (a6 : (List (List UInt8))) : Option (Int ⊕ Int) := (f472 k (TValue.mk a2 a3 a4 a5 a6) (1 : Int) a0 a1).bind fun or5 => (match or5 with | .inl r5 => some (.inl r5) | .inr r5 => some (.inr r5))
theorem F471_0 {P : Program} {N : Nat → Nat} (hmix : P.follows .mixedOrders = true) (hc : HC471 P N) {asg0 bd0 : Code} (ha0 : compCode P asg0 = L469_0a N) (hb0 : compCode P bd0 = L469_0b N) {k : Nat} {a0 : Bool} {a1 : Int} {a2 : Int} {a3 : Int} {a4 : (List UInt8)} {a5 : (List (RT 5))} {a6 : (List (List UInt8))} {r : Int} (h : f471 k a0 a1 a2 a3 a4 a5 a6 = some (.inl r)) :
    ACalls P (N 471) [(.lf 0), (.ptr 3 0)] [(0, (.lp 17 [(2, (.ptr 1 0)), (3, (.ptr 2 0))] [7, 8] asg0 bd0 .ready none)), (1, (.cells [(.d (.bool a0))])), (2, (.cells [(.d (.int .i64 a1))])), (3, (.cells [(.d (.int .i64 a2)), (.d (.int .i64 a3)), (.d (.sl (List.map byteD a4))), (.d (.sl (List.map (rtE (z := 5)) a5))), (.d (.sl (List.map D.str a6)))]))] (.tup []) [(0, (.lp 17 [(2, (.ptr 1 0)), (3, (.ptr 2 0))] [7, 8] asg0 bd0 .done (some .ret))), (1, (.cells [(.d (.bool true))])), (2, (.cells [(.d (.int .i64 r))])), (3, (.cells [(.d (.int .i64 a2)), (.d (.int .i64 a3)), (.d (.sl (List.map byteD a4))), (.d (.sl (List.map (rtE (z := 5)) a5))), (.d (.sl (List.map D.str a6)))]))] := by
  refine acalls_canon (F := C471 N) hc.1 4 4 rfl ?_
  unfold f471 at h
  dsimp only [C471, startL]
  obtain ⟨or5, e5, h⟩ := bind_some h
  rcases or5 with r5 | r5
  · dsimp only at h
    refine AWc.rE hmix [.call (F472_0 hmix hc.2 ha0 hb0 e5) [] 3] ?_
    have hr := Option.some.inj h
    have hr := Sum.inl.inj hr
    subst hr
    exact canQ (N := 6) (k := 4) (l' := []) (H' := [(0, (.lp 17 [(2, (.ptr 1 0)), (3, (.ptr 2 0))] [7, 8] asg0 bd0 .done (some .ret))), (1, (.cells [(.d (.bool true))])), (2, (.cells [(.d (.int .i64 r5))])), (3, (.cells [(.d (.int .i64 a2)), (.d (.int .i64 a3)), (.d (.sl (List.map byteD a4))), (.d (.sl (List.map (rtE (z := 5)) a5))), (.d (.sl (List.map D.str a6)))]))]) rfl (inT [] []) (doneA (.inl rfl) rfl trivial (.refl _) (hasCons rfl (hasCons rfl (hasCons rfl (hasCons rfl hasNil)))))
  · dsimp only at h
    refine AWc.rE hmix [.call (F472_1 hmix hc.2 ha0 hb0 e5) [] 3] ?_
    cases h
theorem F471_1 {P : Program} {N : Nat → Nat} (hmix : P.follows .mixedOrders = true) (hc : HC471 P N) {asg0 bd0 : Code} (ha0 : compCode P asg0 = L469_0a N) (hb0 : compCode P bd0 = L469_0b N) {k : Nat} {a0 : Bool} {a1 : Int} {a2 : Int} {a3 : Int} {a4 : (List UInt8)} {a5 : (List (RT 5))} {a6 : (List (List UInt8))} {r : Int} (h : f471 k a0 a1 a2 a3 a4 a5 a6 = some (.inr r)) :
    ACalls P (N 471) [(.lf 0), (.ptr 3 0)] [(0, (.lp 17 [(2, (.ptr 1 0)), (3, (.ptr 2 0))] [7, 8] asg0 bd0 .ready none)), (1, (.cells [(.d (.bool a0))])), (2, (.cells [(.d (.int .i64 a1))])), (3, (.cells [(.d (.int .i64 a2)), (.d (.int .i64 a3)), (.d (.sl (List.map byteD a4))), (.d (.sl (List.map (rtE (z := 5)) a5))), (.d (.sl (List.map D.str a6)))]))] (.tup []) [(0, (.lp 17 [(2, (.ptr 1 0)), (3, (.ptr 2 0))] [7, 8] asg0 bd0 .ready none)), (1, (.cells [(.d (.bool a0))])), (2, (.cells [(.d (.int .i64 r))])), (3, (.cells [(.d (.int .i64 a2)), (.d (.int .i64 a3)), (.d (.sl (List.map byteD a4))), (.d (.sl (List.map (rtE (z := 5)) a5))), (.d (.sl (List.map D.str a6)))]))] := by
  refine acalls_canon (F := C471 N) hc.1 4 4 rfl ?_
  unfold f471 at h
  dsimp only [C471, startL]
  obtain ⟨or5, e5, h⟩ := bind_some h
  rcases or5 with r5 | r5
  · dsimp only at h
    refine AWc.rE hmix [.call (F472_0 hmix hc.2 ha0 hb0 e5) [] 3] ?_
    cases h
  · dsimp only at h
    refine AWc.rE hmix [.call (F472_1 hmix hc.2 ha0 hb0 e5) [] 3] ?_
    have hr := Option.some.inj h
    have hr := Sum.inr.inj hr
    subst hr
    exact canQ (N := 6) (k := 4) (l' := []) (H' := [(0, (.lp 17 [(2, (.ptr 1 0)), (3, (.ptr 2 0))] [7, 8] asg0 bd0 .ready none)), (1, (.cells [(.d (.bool a0))])), (2, (.cells [(.d (.int .i64 r5))])), (3, (.cells [(.d (.int .i64 a2)), (.d (.int .i64 a3)), (.d (.sl (List.map byteD a4))), (.d (.sl (List.map (rtE (z := 5)) a5))), (.d (.sl (List.map D.str a6)))]))]) rfl (inT [] []) (doneA (.inl rfl) rfl trivial (.refl _) (hasCons rfl (hasCons rfl (hasCons rfl (hasCons rfl hasNil)))))
def HC469 (P : Program) (N : Nat → Nat) : Prop := HasF P (N 469) (C469 N) ∧ HC470 P N ∧ HC471 P N
def f469 (k : Nat) (a0 : TValue) : Option Bool := (f470 k (TValue.mk a0.fKind a0.fN a0.fB a0.fL a0.fKeys)).bind fun r16 => (f471 k false (0 : Int) ((TValue.mk a0.fKind a0.fN a0.fB a0.fL a0.fKeys).fKind) ((TValue.mk a0.fKind a0.fN a0.fB a0.fL a0.fKeys).fN) ((TValue.mk a0.fKind a0.fN a0.fB a0.fL a0.fKeys).fB) ((TValue.mk a0.fKind a0.fN a0.fB a0.fL a0.fKeys).fL) ((TValue.mk a0.fKind a0.fN a0.fB a0.fL a0.fKeys).fKeys)).bind fun orf18 => (match orf18 with | .inl rf18 => some true | .inr rf18 => some false)
theorem F469 {P : Program} {N : Nat → Nat} (hmix : P.follows .mixedOrders = true) (hc : HC469 P N) {k : Nat} {a0 : TValue} {r : Bool} (h : f469 k a0 = some r) :
    ACalls P (N 469) [(.d (TValue.enc a0))] [] (.d (.bool r)) [] := by
  refine acalls_canon (F := C469 N) hc.1 0 0 rfl ?_
  unfold f469 at h
  dsimp only [C469, startL]
  refine AWc.seq ?_
  refine AWc.rg hmix rfl rfl ?_
  refine RegV.evS (own := false) (v := (.ptr 0 0)) (H' := [(0, (.cells [(.d (.int .i64 a0.fKind)), (.d (.int .i64 a0.fN)), (.d (.sl (List.map byteD a0.fB))), (.d (.sl (List.map (rtE (z := 5)) a0.fL))), (.d (.sl (List.map D.str a0.fKeys)))]))]) (c' := 1) rfl rfl trivial rfl rfl rfl rfl rfl rfl ?_
  refine RegV.evS (own := false) (v := (.ptr 1 0)) (H' := [(1, (.cells [(.d (.bool false))])), (0, (.cells [(.d (.int .i64 a0.fKind)), (.d (.int .i64 a0.fN)), (.d (.sl (List.map byteD a0.fB))), (.d (.sl (List.map (rtE (z := 5)) a0.fL))), (.d (.sl (List.map D.str a0.fKeys)))]))]) (c' := 2) rfl rfl trivial rfl rfl rfl rfl rfl rfl ?_
  refine RegV.nil0 ?_
  refine AWc.seq ?_
  refine AWc.rg hmix rfl rfl ?_
  refine RegV.evS (own := false) (v := (.ptr 2 0)) (H' := [(2, (.cells [(.d (.int .i64 (0 : Int)))])), (1, (.cells [(.d (.bool false))])), (0, (.cells [(.d (.int .i64 a0.fKind)), (.d (.int .i64 a0.fN)), (.d (.sl (List.map byteD a0.fB))), (.d (.sl (List.map (rtE (z := 5)) a0.fL))), (.d (.sl (List.map D.str a0.fKeys)))]))]) (c' := 3) rfl rfl trivial rfl rfl rfl rfl rfl rfl ?_
  refine RegV.evN (own := false) (H' := [(2, (.cells [(.d (.int .i64 (0 : Int)))])), (1, (.cells [(.d (.bool false))])), (0, (.cells [(.d (.int .i64 a0.fKind)), (.d (.int .i64 a0.fN)), (.d (.sl (List.map byteD a0.fB))), (.d (.sl (List.map (rtE (z := 5)) a0.fL))), (.d (.sl (List.map D.str a0.fKeys)))]))]) (c' := 3) rfl rfl (by exact ⟨rfl, Nat.le_of_ble_eq_true rfl, rfl⟩) rfl rfl rfl rfl ?_
  refine RegV.nil0 ?_
  refine AWc.seq ?_
  refine AWc.seq ?_
  refine AWc.rg hmix rfl rfl ?_
  refine RegV.ld (v := (.d (.agg [(.int .i64 a0.fKind), (.int .i64 a0.fN), (.sl (List.map byteD a0.fB)), (.sl (List.map (rtE (z := 5)) a0.fL)), (.sl (List.map D.str a0.fKeys))]))) (H' := [(0, (.cells [(.d (.int .i64 a0.fKind)), (.d (.int .i64 a0.fN)), (.d (.sl (List.map byteD a0.fB))), (.d (.sl (List.map (rtE (z := 5)) a0.fL))), (.d (.sl (List.map D.str a0.fKeys)))])), (2, (.cells [(.d (.int .i64 (0 : Int)))])), (1, (.cells [(.d (.bool false))]))]) rfl rfl (Nat.le_of_ble_eq_true rfl) rfl rfl rfl rfl rfl ?_
  obtain ⟨r16, e16, h⟩ := bind_some h
  refine RegV.callS (q := false) (H' := [(3, (.cells [(.d (.int .i64 (TValue.mk a0.fKind a0.fN a0.fB a0.fL a0.fKeys).fKind)), (.d (.int .i64 (TValue.mk a0.fKind a0.fN a0.fB a0.fL a0.fKeys).fN)), (.d (.sl (List.map byteD (TValue.mk a0.fKind a0.fN a0.fB a0.fL a0.fKeys).fB))), (.d (.sl (List.map (rtE (z := 5)) (TValue.mk a0.fKind a0.fN a0.fB a0.fL a0.fKeys).fL))), (.d (.sl (List.map D.str (TValue.mk a0.fKind a0.fN a0.fB a0.fL a0.fKeys).fKeys)))])), (0, (.cells [(.d (.int .i64 a0.fKind)), (.d (.int .i64 a0.fN)), (.d (.sl (List.map byteD a0.fB))), (.d (.sl (List.map (rtE (z := 5)) a0.fL))), (.d (.sl (List.map D.str a0.fKeys)))])), (2, (.cells [(.d (.int .i64 (0 : Int)))])), (1, (.cells [(.d (.bool false))]))]) (c' := 4) (show ACalls P (N 470) [(.d (TValue.enc (TValue.mk a0.fKind a0.fN a0.fB a0.fL a0.fKeys)))] [] (.fn (N 471) [(.ptr 3 0)]) [(3, (.cells [(.d (.int .i64 (TValue.mk a0.fKind a0.fN a0.fB a0.fL a0.fKeys).fKind)), (.d (.int .i64 (TValue.mk a0.fKind a0.fN a0.fB a0.fL a0.fKeys).fN)), (.d (.sl (List.map byteD (TValue.mk a0.fKind a0.fN a0.fB a0.fL a0.fKeys).fB))), (.d (.sl (List.map (rtE (z := 5)) (TValue.mk a0.fKind a0.fN a0.fB a0.fL a0.fKeys).fL))), (.d (.sl (List.map D.str (TValue.mk a0.fKind a0.fN a0.fB a0.fL a0.fKeys).fKeys)))]))] from ACalls.use (F470 hmix hc.2.1 e16) [(0, 3)] 1 rfl) rfl rfl rfl rfl (.cons (.refl _) .nil) (.refl _) (fun h => by cases h) rfl hasNil rfl rfl rfl rfl ?_
  refine RegV.nil0 ?_
  refine AWc.block ?_
  refine AWc.rangeFunc [(2, (.ptr 1 0)), (3, (.ptr 2 0))] rfl rfl rfl rfl ⟨rfl, rfl, trivial⟩ (fun asgU18 bdU18 haU18 hbU18 => ?_)
  obtain ⟨orf18, ef18, h⟩ := bind_some h
  rcases orf18 with rf18 | rf18
  · dsimp only at h
    refine rfR (H' := [(1, (.cells [(.d (.bool true))])), (2, (.cells [(.d (.int .i64 rf18))])), (3, (.cells [(.d (.int .i64 ((TValue.mk a0.fKind a0.fN a0.fB a0.fL a0.fKeys).fKind))), (.d (.int .i64 ((TValue.mk a0.fKind a0.fN a0.fB a0.fL a0.fKeys).fN))), (.d (.sl (List.map byteD ((TValue.mk a0.fKind a0.fN a0.fB a0.fL a0.fKeys).fB)))), (.d (.sl (List.map (rtE (z := 5)) ((TValue.mk a0.fKind a0.fN a0.fB a0.fL a0.fKeys).fL)))), (.d (.sl (List.map D.str ((TValue.mk a0.fKind a0.fN a0.fB a0.fL a0.fKeys).fKeys))))])), (0, (.cells [(.d (.int .i64 a0.fKind)), (.d (.int .i64 a0.fN)), (.d (.sl (List.map byteD a0.fB))), (.d (.sl (List.map (rtE (z := 5)) a0.fL))), (.d (.sl (List.map D.str a0.fKeys)))]))]) (c' := 5) (show ACalls P (N 471) [(.lf 4), (.ptr 3 0)] [(4, (.lp 17 [(2, (.ptr 1 0)), (3, (.ptr 2 0))] [7, 8] asgU18 bdU18 .ready none)), (1, (.cells [(.d (.bool false))])), (2, (.cells [(.d (.int .i64 (0 : Int)))])), (3, (.cells [(.d (.int .i64 ((TValue.mk a0.fKind a0.fN a0.fB a0.fL a0.fKeys).fKind))), (.d (.int .i64 ((TValue.mk a0.fKind a0.fN a0.fB a0.fL a0.fKeys).fN))), (.d (.sl (List.map byteD ((TValue.mk a0.fKind a0.fN a0.fB a0.fL a0.fKeys).fB)))), (.d (.sl (List.map (rtE (z := 5)) ((TValue.mk a0.fKind a0.fN a0.fB a0.fL a0.fKeys).fL)))), (.d (.sl (List.map D.str ((TValue.mk a0.fKind a0.fN a0.fB a0.fL a0.fKeys).fKeys))))]))] (.tup []) [(4, (.lp 17 [(2, (.ptr 1 0)), (3, (.ptr 2 0))] [7, 8] asgU18 bdU18 .done (some .ret))), (1, (.cells [(.d (.bool true))])), (2, (.cells [(.d (.int .i64 rf18))])), (3, (.cells [(.d (.int .i64 ((TValue.mk a0.fKind a0.fN a0.fB a0.fL a0.fKeys).fKind))), (.d (.int .i64 ((TValue.mk a0.fKind a0.fN a0.fB a0.fL a0.fKeys).fN))), (.d (.sl (List.map byteD ((TValue.mk a0.fKind a0.fN a0.fB a0.fL a0.fKeys).fB)))), (.d (.sl (List.map (rtE (z := 5)) ((TValue.mk a0.fKind a0.fN a0.fB a0.fL a0.fKeys).fL)))), (.d (.sl (List.map D.str ((TValue.mk a0.fKind a0.fN a0.fB a0.fL a0.fKeys).fKeys))))]))] from ACalls.use (F471_0 hmix hc.2.2 haU18 hbU18 ef18) [(0, 4), (1, 1), (2, 2), (3, 3)] 4 rfl) (.cons (.refl _) (.cons (.refl _) .nil)) (hasCons rfl (hasCons rfl (hasCons rfl (hasCons rfl hasNil)))) rfl rfl rfl rfl rfl ?_
    have hr := Option.some.inj h
    subst hr
    exact canQ (N := 17) (k := 1) (l' := [(2, (.ptr 0 0))]) (H' := [(0, (.cells [(.d (.bool true))]))]) rfl ⟨rfl, [], [(0, 1)], rfl, rfl, ⟨⟨_, rfl, (.refl _)⟩, rfl, trivial⟩, ⟨⟨_, rfl, (.refl _)⟩, rfl, rfl, trivial⟩⟩ (doneA (.inr rfl) rfl ⟨trivial, trivial⟩ (.refl _) hasNil)
  · dsimp only at h
    refine rfN (H' := [(1, (.cells [(.d (.bool false))])), (2, (.cells [(.d (.int .i64 rf18))])), (3, (.cells [(.d (.int .i64 ((TValue.mk a0.fKind a0.fN a0.fB a0.fL a0.fKeys).fKind))), (.d (.int .i64 ((TValue.mk a0.fKind a0.fN a0.fB a0.fL a0.fKeys).fN))), (.d (.sl (List.map byteD ((TValue.mk a0.fKind a0.fN a0.fB a0.fL a0.fKeys).fB)))), (.d (.sl (List.map (rtE (z := 5)) ((TValue.mk a0.fKind a0.fN a0.fB a0.fL a0.fKeys).fL)))), (.d (.sl (List.map D.str ((TValue.mk a0.fKind a0.fN a0.fB a0.fL a0.fKeys).fKeys))))])), (0, (.cells [(.d (.int .i64 a0.fKind)), (.d (.int .i64 a0.fN)), (.d (.sl (List.map byteD a0.fB))), (.d (.sl (List.map (rtE (z := 5)) a0.fL))), (.d (.sl (List.map D.str a0.fKeys)))]))]) (c' := 5) (show ACalls P (N 471) [(.lf 4), (.ptr 3 0)] [(4, (.lp 17 [(2, (.ptr 1 0)), (3, (.ptr 2 0))] [7, 8] asgU18 bdU18 .ready none)), (1, (.cells [(.d (.bool false))])), (2, (.cells [(.d (.int .i64 (0 : Int)))])), (3, (.cells [(.d (.int .i64 ((TValue.mk a0.fKind a0.fN a0.fB a0.fL a0.fKeys).fKind))), (.d (.int .i64 ((TValue.mk a0.fKind a0.fN a0.fB a0.fL a0.fKeys).fN))), (.d (.sl (List.map byteD ((TValue.mk a0.fKind a0.fN a0.fB a0.fL a0.fKeys).fB)))), (.d (.sl (List.map (rtE (z := 5)) ((TValue.mk a0.fKind a0.fN a0.fB a0.fL a0.fKeys).fL)))), (.d (.sl (List.map D.str ((TValue.mk a0.fKind a0.fN a0.fB a0.fL a0.fKeys).fKeys))))]))] (.tup []) [(4, (.lp 17 [(2, (.ptr 1 0)), (3, (.ptr 2 0))] [7, 8] asgU18 bdU18 .ready none)), (1, (.cells [(.d (.bool false))])), (2, (.cells [(.d (.int .i64 rf18))])), (3, (.cells [(.d (.int .i64 ((TValue.mk a0.fKind a0.fN a0.fB a0.fL a0.fKeys).fKind))), (.d (.int .i64 ((TValue.mk a0.fKind a0.fN a0.fB a0.fL a0.fKeys).fN))), (.d (.sl (List.map byteD ((TValue.mk a0.fKind a0.fN a0.fB a0.fL a0.fKeys).fB)))), (.d (.sl (List.map (rtE (z := 5)) ((TValue.mk a0.fKind a0.fN a0.fB a0.fL a0.fKeys).fL)))), (.d (.sl (List.map D.str ((TValue.mk a0.fKind a0.fN a0.fB a0.fL a0.fKeys).fKeys))))]))] from ACalls.use (F471_1 hmix hc.2.2 haU18 hbU18 ef18) [(0, 4), (1, 1), (2, 2), (3, 3)] 4 rfl) (.cons (.refl _) (.cons (.refl _) .nil)) (hasCons rfl (hasCons rfl (hasCons rfl (hasCons rfl hasNil)))) rfl rfl rfl rfl rfl ?_
    refine AWc.seq ?_
    refine AWc.rg hmix rfl rfl ?_
    refine RegV.evN (own := false) (H' := [(1, (.cells [(.d (.bool false))])), (2, (.cells [(.d (.int .i64 rf18))])), (3, (.cells [(.d (.int .i64 ((TValue.mk a0.fKind a0.fN a0.fB a0.fL a0.fKeys).fKind))), (.d (.int .i64 ((TValue.mk a0.fKind a0.fN a0.fB a0.fL a0.fKeys).fN))), (.d (.sl (List.map byteD ((TValue.mk a0.fKind a0.fN a0.fB a0.fL a0.fKeys).fB)))), (.d (.sl (List.map (rtE (z := 5)) ((TValue.mk a0.fKind a0.fN a0.fB a0.fL a0.fKeys).fL)))), (.d (.sl (List.map D.str ((TValue.mk a0.fKind a0.fN a0.fB a0.fL a0.fKeys).fKeys))))])), (0, (.cells [(.d (.int .i64 a0.fKind)), (.d (.int .i64 a0.fN)), (.d (.sl (List.map byteD a0.fB))), (.d (.sl (List.map (rtE (z := 5)) a0.fL))), (.d (.sl (List.map D.str a0.fKeys)))]))]) (c' := 5) rfl rfl (by exact ⟨rfl, Nat.le_of_ble_eq_true rfl, rfl⟩) rfl rfl rfl rfl ?_
    refine RegV.nil0 ?_
    have hr := Option.some.inj h
    subst hr
    exact AWc.ret (canQ (N := 17) (k := 1) (l' := [(2, (.ptr 0 0))]) (H' := [(0, (.cells [(.d (.bool false))]))]) rfl ⟨rfl, [], [(0, 1)], rfl, rfl, ⟨⟨_, rfl, (.refl _)⟩, rfl, trivial⟩, ⟨⟨_, rfl, (.refl _)⟩, rfl, rfl, trivial⟩⟩ (doneA (.inr rfl) rfl ⟨trivial, trivial⟩ (.refl _) hasNil))
def RH474 (P : Program) (N : Nat → Nat) (rc474 : (List UInt8) → TValue → Option (List UInt8)) : Prop := ∀ (a0 : (List UInt8)) (a1 : TValue) (r : (List UInt8)), rc474 a0 a1 = some r → ACalls P (N 474) [(.ap 0 1 (List.map byteD a0)), (.d (TValue.enc a1))] [(0, (.tok ((List.map byteD a0).length * 1)))] (.ap 1 1 (List.map byteD r)) [(1, (.tok ((List.map byteD r).length * 1)))]
/-- courant/code.fold -/
def C82 (N : Nat → Nat) : AFunc := { n := 10, params := 1, res := [.tmp 2], body :=
 (.seq (.region false [⟨(some 2), .mv (.k (.d (.int .u64 0))), none, []⟩])
  (.seq (.region false [⟨(some 3), .mv (.t 0), none, []⟩,
    ⟨(some 4), .cvi .u64 (.t 3), none, [0]⟩,
    ⟨(some 5), .bin .shl (.t 4) (.k (.d (.int .u64 1))), none, [1]⟩,
    ⟨(some 6), .mv (.t 0), none, []⟩,
    ⟨(some 7), .bin .shr (.t 6) (.k (.d (.int .u64 63))), none, [3]⟩,
    ⟨(some 8), .cvi .u64 (.t 7), none, [4]⟩,
    ⟨(some 9), .bin .xor (.t 5) (.t 8), none, [2, 5]⟩,
    ⟨(some 2), .mv (.t 9), none, [6, 0, 1, 2, 3, 4, 5]⟩])
   .ret)) }
def HC82 (P : Program) (N : Nat → Nat) : Prop := HasF P (N 82) (C82 N)
def f82 (k : Nat) (a0 : Int) : Option Unit := some ()
theorem F82 {P : Program} {N : Nat → Nat} (hmix : P.follows .mixedOrders = true) (hc : HC82 P N) {k : Nat} {a0 : Int} {r : Unit} (h : f82 k a0 = some r) :
    ACalls P (N 82) [(.d (.int .i64 a0))] [] (.d (.int .u64 (bitsA .xor .u64 (IntKind.u64.wrap ((IntKind.u64.wrap a0) * 2 ^ (min ((1 : Int)).toNat IntKind.u64.bits))) (IntKind.u64.wrap (Int.fdiv a0 (2 ^ (min ((63 : Int)).toNat IntKind.i64.bits))))))) [] := by
  refine acalls_canon (F := C82 N) hc 0 0 rfl ?_
  unfold f82 at h
  dsimp only [C82, startL]
  refine AWc.seq ?_
  refine AWc.rE hmix [] ?_
  refine AWc.seq ?_
  refine AWc.rE hmix [.sd (p := 0 ≤ (1 : Int)) (by decide), .sd (p := 0 ≤ (63 : Int)) (by decide)] ?_
  have hr := Option.some.inj h
  subst hr
  exact AWc.ret (canQ (N := 10) (k := 0) (l' := [(2, (.d (.int .u64 (bitsA .xor .u64 (IntKind.u64.wrap ((IntKind.u64.wrap a0) * 2 ^ (min ((1 : Int)).toNat IntKind.u64.bits))) (IntKind.u64.wrap (Int.fdiv a0 (2 ^ (min ((63 : Int)).toNat IntKind.i64.bits))))))))]) (H' := []) rfl (inT [] []) (doneA (.inr rfl) rfl ⟨trivial, trivial⟩ (.refl _) hasNil))
/-- courant/code.Num -/
def C23 (N : Nat → Nat) : AFunc := { n := 19, params := 1, res := [.tmp 2], body :=
 (.seq (.region false [⟨(some 2), .mv (.k .nils), none, []⟩])
  (.seq (.region false [⟨(some 3), .mv (.k .nils), none, []⟩])
   (.seq (.block 0 (.loop (.seq (.seq (.region false [⟨(some 4), .mv (.t 0), none, []⟩,
         ⟨(some 5), .bin .geq (.t 4) (.k (.d (.int .u64 128))), none, [0]⟩])
        (.cond (.t 5) (.skip)
         (.exit 0)))
       (.seq (.block 1 (.region false [⟨(some 8), .mv (.t 3), none, []⟩,
          ⟨(some 9), .mv (.t 0), none, []⟩,
          ⟨(some 10), .cvi .u8 (.t 9), none, [1]⟩,
          ⟨(some 11), .bin .or (.t 10) (.k (.d (.int .u8 128))), none, [2]⟩,
          ⟨(some 12), .bslice 1 1 [(.int .u8 0)] [(0, (.t 11))], none, [3]⟩,
          ⟨(some 13), .app (.t 8) (.t 12) 1 1 [(.int .u8 0)], none, [0, 4]⟩,
          ⟨(some 3), .mv (.t 13), none, [5, 0, 1, 2, 3, 4]⟩]))
        (.region false [⟨(some 6), .mv (.t 0), none, []⟩,
         ⟨(some 7), .bin .shr (.t 6) (.k (.d (.int .u64 7))), none, [0]⟩,
         ⟨(some 0), .mv (.t 7), none, [1, 0]⟩])))))
    (.seq (.region false [⟨(some 14), .mv (.t 3), none, []⟩,
      ⟨(some 15), .mv (.t 0), none, []⟩,
      ⟨(some 16), .cvi .u8 (.t 15), none, [1]⟩,
      ⟨(some 17), .bslice 1 1 [(.int .u8 0)] [(0, (.t 16))], none, [2]⟩,
      ⟨(some 18), .app (.t 14) (.t 17) 1 1 [(.int .u8 0)], none, [0, 3]⟩,
      ⟨(some 2), .mv (.t 18), none, [4, 0, 1, 2, 3]⟩])
     .ret)))) }
def HC23 (P : Program) (N : Nat → Nat) : Prop := HasF P (N 23) (C23 N)
def f23_l10 : Nat → Int → (List UInt8) → Option (LR2 (Int × (List UInt8)) Unit (List UInt8))
  | 0, _, _ => none
  | k + 1, y10_1, y10_2 => cond (decide (y10_1 ≥ (128 : Int))) (gd ((y10_2.length + ([(u8 (bitsA .or .u8 (((u8 (IntKind.u8.wrap y10_1)).toNat : Nat) : Int) (128 : Int)))] : List UInt8).length) * 2 * 1 ≤ 281474976710656) (f23_l10 k (Int.fdiv y10_1 (2 ^ (min ((7 : Int)).toNat IntKind.u64.bits))) (y10_2 ++ ([(u8 (bitsA .or .u8 (((u8 (IntKind.u8.wrap y10_1)).toNat : Nat) : Int) (128 : Int)))] : List UInt8)))) (some (.b0 (y10_1, y10_2)))
def f23 (k : Nat) (a0 : Int) : Option (List UInt8) := (f23_l10 k a0 ([] : List UInt8)).bind fun o10 => (match o10 with | .b0 (x10_1, x10_2) => gd ((x10_2.length + ([(u8 (IntKind.u8.wrap x10_1))] : List UInt8).length) * 2 * 1 ≤ 281474976710656) (some (x10_2 ++ ([(u8 (IntKind.u8.wrap x10_1))] : List UInt8))) | _ => none)
theorem F23 {P : Program} {N : Nat → Nat} (hmix : P.follows .mixedOrders = true) (hc : HC23 P N) {k : Nat} {a0 : Int} {r : (List UInt8)} (h : f23 k a0 = some r) :
    ACalls P (N 23) [(.d (.int .u64 a0))] [] (.ap 0 1 (List.map byteD r)) [(0, (.tok ((List.map byteD r).length * 1)))] := by
  refine acalls_canon (F := C23 N) hc 0 1 rfl ?_
  unfold f23 at h
  dsimp only [C23, startL]
  refine AWc.seq ?_
  refine AWc.rE hmix [] ?_
  refine AWc.seq ?_
  refine AWc.rE hmix [] ?_
  obtain ⟨o10, h10, h⟩ := bind_some h
  refine AWc.seqS (N := 19) 1 (fun (z : (Int × (List UInt8))) => [(0, (.d (.int .u64 z.1))), (3, (.ap 0 1 (List.map byteD z.2)))]) (fun z => [(0, (.tok ((List.map byteD z.2).length * 1)))]) (fun z => o10 = .b0 z) rfl_le ?_ ?_
  · refine AWc.block ?_
    refine AWc.loopK (N := 19) 1 (fun (x : (Int × (List UInt8))) => [(0, (.d (.int .u64 x.1))), (3, (.ap 0 1 (List.map byteD x.2)))]) (fun x => [(0, (.tok ((List.map byteD x.2).length * 1)))]) (fun k x => f23_l10 k x.1 x.2 = some o10) k (a0, ([] : List UInt8)) rfl_le (fun x hx => by cases hx) h10 (inT [(0, 0)] [.tok 0]) ?_
    clear h10
    intro k
    rintro ⟨y10_1, y10_2⟩ h10
    dsimp only at h10 ⊢
    rw [f23_l10] at h10
    refine AWc.seq ?_
    refine AWc.seq ?_
    refine AWc.rE hmix [] ?_
    rcases cc h10 with ⟨c18, h10⟩ | ⟨c18, h10⟩
    · refine AWc.cT c18 ?_
      refine AWc.skip ?_
      refine AWc.seq ?_
      refine AWc.block ?_
      obtain ⟨b30, h10⟩ := gd_some h10
      refine AWc.rE hmix [.apA byteD y10_2 ([(u8 (bitsA .or .u8 (((u8 (IntKind.u8.wrap y10_1)).toNat : Nat) : Int) (128 : Int)))] : List UInt8) 1 (fun _ => rfl) b30] ?_
      refine AWc.rE hmix [.sd (p := 0 ≤ (7 : Int)) (by decide)] ?_
      exact ⟨((Int.fdiv y10_1 (2 ^ (min ((7 : Int)).toNat IntKind.u64.bits))), (y10_2 ++ ([(u8 (bitsA .or .u8 (((u8 (IntKind.u8.wrap y10_1)).toNat : Nat) : Int) (128 : Int)))] : List UInt8))), h10, (inT [(0, 1)] [])⟩
    · refine AWc.cF c18 ?_
      cases h10
      dsimp only at h
      refine AWc.exit ?_
      refine inBlk_eq ?_
      exact ⟨(y10_1, y10_2), rfl, (inT [] [])⟩
  · rintro ⟨x10_1, x10_2⟩ ho
    subst ho
    dsimp only at h ⊢
    refine AWc.seq ?_
    obtain ⟨b44, h⟩ := gd_some h
    refine AWc.rE hmix [.apA byteD x10_2 ([(u8 (IntKind.u8.wrap x10_1))] : List UInt8) 1 (fun _ => rfl) b44] ?_
    have hr := Option.some.inj h
    subst hr
    exact AWc.ret (canQ (N := 19) (k := 1) (l' := [(2, (.ap 0 1 (List.map byteD (x10_2 ++ ([(u8 (IntKind.u8.wrap x10_1))] : List UInt8)))))]) (H' := [(0, (.tok ((List.map byteD (x10_2 ++ ([(u8 (IntKind.u8.wrap x10_1))] : List UInt8))).length * 1)))]) rfl (inT [(0, 1)] []) (doneA (.inr rfl) rfl ⟨trivial, trivial⟩ (.refl _) (hasCons rfl hasNil)))
/-- courant/code.Zig -/
def C25 (N : Nat → Nat) : AFunc := { n := 6, params := 1, res := [.tmp 2], body :=
 (.seq (.region false [⟨(some 2), .mv (.k .nils), none, []⟩])
  (.seq (.region false [⟨(some 3), .mv (.t 0), none, []⟩,
    ⟨(some 4), .call (.k (.d (.fn (N 82)))) [(.t 3)], none, [0]⟩,
    ⟨(some 5), .call (.k (.d (.fn (N 23)))) [(.t 4)], none, [1]⟩,
    ⟨(some 2), .mv (.t 5), none, [2, 0, 1]⟩])
   .ret)) }
def HC25 (P : Program) (N : Nat → Nat) : Prop := HasF P (N 25) (C25 N) ∧ HC82 P N ∧ HC23 P N
def f25 (k : Nat) (a0 : Int) : Option (List UInt8) := (f82 k a0).bind fun r9 => (f23 k (bitsA .xor .u64 (IntKind.u64.wrap ((IntKind.u64.wrap a0) * 2 ^ (min ((1 : Int)).toNat IntKind.u64.bits))) (IntKind.u64.wrap (Int.fdiv a0 (2 ^ (min ((63 : Int)).toNat IntKind.i64.bits)))))).bind fun r10 => some r10
theorem F25 {P : Program} {N : Nat → Nat} (hmix : P.follows .mixedOrders = true) (hc : HC25 P N) {k : Nat} {a0 : Int} {r : (List UInt8)} (h : f25 k a0 = some r) :
    ACalls P (N 25) [(.d (.int .i64 a0))] [] (.ap 0 1 (List.map byteD r)) [(0, (.tok ((List.map byteD r).length * 1)))] := by
  refine acalls_canon (F := C25 N) hc.1 0 1 rfl ?_
  unfold f25 at h
  dsimp only [C25, startL]
  refine AWc.seq ?_
  refine AWc.rE hmix [] ?_
  refine AWc.seq ?_
  obtain ⟨r9, e9, h⟩ := bind_some h
  obtain ⟨r10, e10, h⟩ := bind_some h
  refine AWc.rE hmix [.call (F82 hmix hc.2.1 e9) [] 0, .call (F23 hmix hc.2.2 e10) [] 1] ?_
  have hr := Option.some.inj h
  subst hr
  exact AWc.ret (canQ (N := 6) (k := 1) (l' := [(2, (.ap 0 1 (List.map byteD r10)))]) (H' := [(0, (.tok ((List.map byteD r10).length * 1)))]) rfl (inT [] []) (doneA (.inr rfl) rfl ⟨trivial, trivial⟩ (.refl _) (hasCons rfl hasNil)))
/-- courant/code.Text -/
def C27 (N : Nat → Nat) : AFunc := { n := 8, params := 1, res := [.tmp 2], body :=
 (.seq (.region false [⟨(some 2), .mv (.k .nils), none, []⟩])
  (.seq (.region false [⟨(some 3), .mv (.t 0), none, []⟩,
    ⟨(some 4), .len (.t 3), none, [0]⟩,
    ⟨(some 5), .call (.k (.d (.fn (N 25)))) [(.t 4)], none, [1]⟩,
    ⟨(some 6), .mv (.t 0), none, []⟩,
    ⟨(some 7), .app (.t 5) (.t 6) 1 1 [(.int .u8 0)], none, [2, 3]⟩,
    ⟨(some 2), .mv (.t 7), none, [4, 0, 1, 2, 3]⟩])
   .ret)) }
def HC27 (P : Program) (N : Nat → Nat) : Prop := HasF P (N 27) (C27 N) ∧ HC25 P N
def f27 (k : Nat) (a0 : (List UInt8)) : Option (List UInt8) := (f25 k ((a0.length : Nat) : Int)).bind fun r10 => gd ((r10.length + a0.length) * 2 * 1 ≤ 281474976710656) (some (r10 ++ a0))
theorem F27 {P : Program} {N : Nat → Nat} (hmix : P.follows .mixedOrders = true) (hc : HC27 P N) {k : Nat} {a0 : (List UInt8)} {r : (List UInt8)} (h : f27 k a0 = some r) :
    ACalls P (N 27) [(.d (.sl (List.map byteD a0)))] [] (.ap 0 1 (List.map byteD r)) [(0, (.tok ((List.map byteD r).length * 1)))] := by
  refine acalls_canon (F := C27 N) hc.1 0 1 rfl ?_
  unfold f27 at h
  dsimp only [C27, startL]
  refine AWc.seq ?_
  refine AWc.rE hmix [] ?_
  refine AWc.seq ?_
  obtain ⟨r10, e10, h⟩ := bind_some h
  obtain ⟨b12, h⟩ := gd_some h
  refine AWc.rE hmix [.ln byteD a0, .call (F25 hmix hc.2 e10) [] 1, .apA byteD r10 a0 1 (fun _ => rfl) b12] ?_
  have hr := Option.some.inj h
  subst hr
  exact AWc.ret (canQ (N := 8) (k := 1) (l' := [(2, (.ap 0 1 (List.map byteD (r10 ++ a0))))]) (H' := [(0, (.tok ((List.map byteD (r10 ++ a0)).length * 1)))]) rfl (inT [(0, 1)] []) (doneA (.inr rfl) rfl ⟨trivial, trivial⟩ (.refl _) (hasCons rfl hasNil)))
/-- courant/codec.flat -/
def C475 (N : Nat → Nat) : AFunc := { n := 27, params := 1, res := [.tmp 2], body :=
 (.seq (.region false [⟨(some 1), .box (.t 0), none, []⟩,
   ⟨(some 2), .mv (.k .nils), none, []⟩])
  (.seq (.seq (.region false [⟨(some 3), .faddr (.t 1) 0, none, []⟩,
     ⟨(some 4), .load (.t 3) 1 false, none, [0]⟩])
    (.block 0 (.seq (.region false [⟨(some 6), .bin .eql (.t 4) (.k (.d (.int .i64 2))), none, []⟩,
       ⟨(some 5), .mv (.t 6), none, [0]⟩])
      (.cond (.t 5) (.seq (.region false [⟨(some 7), .faddr (.t 1) 1, none, []⟩,
         ⟨(some 8), .load (.t 7) 1 false, none, [0]⟩,
         ⟨(some 9), .cvi .u8 (.t 8), none, [1]⟩,
         ⟨(some 10), .bslice 1 1 [(.int .u8 0)] [(0, (.t 9))], none, [2]⟩,
         ⟨(some 2), .mv (.t 10), none, [3, 0, 1, 2]⟩])
        .ret)
       (.seq (.seq (.region false [⟨(some 12), .bin .eql (.t 4) (.k (.d (.int .i64 3))), none, []⟩,
          ⟨(some 11), .mv (.t 12), none, [0]⟩])
         (.cond (.t 11) (.skip)
          (.seq (.region false [⟨(some 13), .bin .eql (.t 4) (.k (.d (.int .i64 4))), none, []⟩,
            ⟨(some 11), .mv (.t 13), none, [0]⟩])
           (.cond (.t 11) (.skip)
            (.seq (.region false [⟨(some 14), .bin .eql (.t 4) (.k (.d (.int .i64 10))), none, []⟩,
              ⟨(some 11), .mv (.t 14), none, [0]⟩])
             (.cond (.t 11) (.skip)
              (.region false [⟨(some 15), .bin .eql (.t 4) (.k (.d (.int .i64 13))), none, []⟩,
               ⟨(some 11), .mv (.t 15), none, [0]⟩])))))))
        (.cond (.t 11) (.seq (.region false [⟨(some 16), .faddr (.t 1) 1, none, []⟩,
           ⟨(some 17), .load (.t 16) 1 false, none, [0]⟩,
           ⟨(some 18), .call (.k (.d (.fn (N 25)))) [(.t 17)], none, [1]⟩,
           ⟨(some 2), .mv (.t 18), none, [2, 0, 1]⟩])
          .ret)
         (.seq (.seq (.region false [⟨(some 20), .bin .eql (.t 4) (.k (.d (.int .i64 7))), none, []⟩,
            ⟨(some 19), .mv (.t 20), none, [0]⟩])
           (.cond (.t 19) (.skip)
            (.region false [⟨(some 21), .bin .eql (.t 4) (.k (.d (.int .i64 8))), none, []⟩,
             ⟨(some 19), .mv (.t 21), none, [0]⟩])))
          (.cond (.t 19) (.seq (.region false [⟨(some 22), .faddr (.t 1) 2, none, []⟩,
             ⟨(some 23), .load (.t 22) 1 false, none, [0]⟩,
             ⟨(some 24), .call (.k (.d (.fn (N 27)))) [(.t 23)], none, [1]⟩,
             ⟨(some 2), .mv (.t 24), none, [2, 0, 1]⟩])
            .ret)
           (.skip)))))))))
   (.seq (.region false [⟨(some 25), .faddr (.t 1) 2, none, []⟩,
     ⟨(some 26), .load (.t 25) 1 false, none, [0]⟩,
     ⟨(some 2), .mv (.t 26), none, [1, 0]⟩])
    .ret))) }
def HC475 (P : Program) (N : Nat → Nat) : Prop := HasF P (N 475) (C475 N) ∧ HC25 P N ∧ HC27 P N
def f475_j75 (k : Nat) (a0 : TValue) (j75_1 : Bool) : Option (List UInt8) := cond j75_1 ((f27 k a0.fB).bind fun r81 => some r81) (some a0.fB)
def f475_j54 (k : Nat) (a0 : TValue) (j54_1 : Bool) : Option (List UInt8) := cond j54_1 ((f25 k a0.fN).bind fun r60 => some r60) (cond (decide (a0.fKind = (7 : Int))) (f475_j75 k a0 (decide (a0.fKind = (7 : Int)))) (f475_j75 k a0 (decide (a0.fKind = (8 : Int)))))
def f475 (k : Nat) (a0 : TValue) : Option (List UInt8) := cond (decide (a0.fKind = (2 : Int))) (some ([(u8 (IntKind.u8.wrap a0.fN))] : List UInt8)) (cond (decide (a0.fKind = (3 : Int))) (f475_j54 k a0 (decide (a0.fKind = (3 : Int)))) (cond (decide (a0.fKind = (4 : Int))) (f475_j54 k a0 (decide (a0.fKind = (4 : Int)))) (cond (decide (a0.fKind = (10 : Int))) (f475_j54 k a0 (decide (a0.fKind = (10 : Int)))) (f475_j54 k a0 (decide (a0.fKind = (13 : Int)))))))
theorem F475 {P : Program} {N : Nat → Nat} (hmix : P.follows .mixedOrders = true) (hc : HC475 P N) {k : Nat} {a0 : TValue} {r : (List UInt8)} (h : f475 k a0 = some r) :
    ACalls P (N 475) [(.d (TValue.enc a0))] [] (.d (.sl (List.map byteD r))) [] := by
  refine acalls_canon (F := C475 N) hc.1 0 0 rfl ?_
  unfold f475 at h
  dsimp only [C475, startL]
  refine AWc.seq ?_
  refine AWc.rE hmix [] ?_
  refine AWc.seq ?_
  refine AWc.seq ?_
  refine AWc.rE hmix [] ?_
  refine AWc.block ?_
  refine AWc.seq ?_
  refine AWc.rE hmix [] ?_
  rcases cc h with ⟨c18, h⟩ | ⟨c18, h⟩
  · refine AWc.cT c18 ?_
    refine AWc.seq ?_
    refine AWc.rE hmix [] ?_
    have hr := Option.some.inj h
    subst hr
    exact AWc.ret (canQ (N := 27) (k := 0) (l' := [(2, (.d (.sl (List.map byteD ([(u8 (IntKind.u8.wrap a0.fN))] : List UInt8)))))]) (H' := []) rfl (inT [] []) (doneA (.inr rfl) rfl ⟨trivial, trivial⟩ (.refl _) hasNil))
  · refine AWc.cF c18 ?_
    refine AWc.seqS (N := 27) 1 (fun (z : Bool) => [(1, (.ptr 0 0)), (4, (.d (.int .i64 a0.fKind))), (11, (.d (.bool z)))]) (fun z => [(0, (.cells [(.d (.int .i64 a0.fKind)), (.d (.int .i64 a0.fN)), (.d (.sl (List.map byteD a0.fB))), (.d (.sl (List.map (rtE (z := 5)) a0.fL))), (.d (.sl (List.map D.str a0.fKeys)))]))]) (fun z => f475_j54 k a0 z = some r) rfl_le ?_ ?_
    · refine AWc.seq ?_
      refine AWc.rE hmix [] ?_
      rcases cc h with ⟨c34, h⟩ | ⟨c34, h⟩
      · refine AWc.cT c34 ?_
        refine AWc.skip ?_
        exact ⟨(decide (a0.fKind = (3 : Int))), h, (inT [] [])⟩
      · refine AWc.cF c34 ?_
        refine AWc.seq ?_
        refine AWc.rE hmix [] ?_
        rcases cc h with ⟨c41, h⟩ | ⟨c41, h⟩
        · refine AWc.cT c41 ?_
          refine AWc.skip ?_
          exact ⟨(decide (a0.fKind = (4 : Int))), h, (inT [] [])⟩
        · refine AWc.cF c41 ?_
          refine AWc.seq ?_
          refine AWc.rE hmix [] ?_
          rcases cc h with ⟨c48, h⟩ | ⟨c48, h⟩
          · refine AWc.cT c48 ?_
            refine AWc.skip ?_
            exact ⟨(decide (a0.fKind = (10 : Int))), h, (inT [] [])⟩
          · refine AWc.cF c48 ?_
            refine AWc.rE hmix [] ?_
            exact ⟨(decide (a0.fKind = (13 : Int))), h, (inT [] [])⟩
    · intro j54_1 h
      unfold f475_j54 at h
      rcases cc h with ⟨c54, h⟩ | ⟨c54, h⟩
      · refine AWc.cT c54 ?_
        refine AWc.seq ?_
        obtain ⟨r60, e60, h⟩ := bind_some h
        refine AWc.rE hmix [.call (F25 hmix hc.2.1 e60) [(0, 1)] 1] ?_
        have hr := Option.some.inj h
        subst hr
        exact AWc.ret (canQ (N := 27) (k := 0) (l' := [(2, (.d (.sl (List.map byteD r60))))]) (H' := []) rfl (inT [] []) (doneA (.inr rfl) rfl ⟨trivial, trivial⟩ (.refl _) hasNil))
      · refine AWc.cF c54 ?_
        refine AWc.seqS (N := 27) 1 (fun (z : Bool) => [(1, (.ptr 0 0)), (19, (.d (.bool z)))]) (fun z => [(0, (.cells [(.d (.int .i64 a0.fKind)), (.d (.int .i64 a0.fN)), (.d (.sl (List.map byteD a0.fB))), (.d (.sl (List.map (rtE (z := 5)) a0.fL))), (.d (.sl (List.map D.str a0.fKeys)))]))]) (fun z => f475_j75 k a0 z = some r) rfl_le ?_ ?_
        · refine AWc.seq ?_
          refine AWc.rE hmix [] ?_
          rcases cc h with ⟨c69, h⟩ | ⟨c69, h⟩
          · refine AWc.cT c69 ?_
            refine AWc.skip ?_
            exact ⟨(decide (a0.fKind = (7 : Int))), h, (inT [] [])⟩
          · refine AWc.cF c69 ?_
            refine AWc.rE hmix [] ?_
            exact ⟨(decide (a0.fKind = (8 : Int))), h, (inT [] [])⟩
        · intro j75_1 h
          unfold f475_j75 at h
          rcases cc h with ⟨c75, h⟩ | ⟨c75, h⟩
          · refine AWc.cT c75 ?_
            refine AWc.seq ?_
            obtain ⟨r81, e81, h⟩ := bind_some h
            refine AWc.rE hmix [.call (F27 hmix hc.2.2 e81) [(0, 1)] 1] ?_
            have hr := Option.some.inj h
            subst hr
            exact AWc.ret (canQ (N := 27) (k := 0) (l' := [(2, (.d (.sl (List.map byteD r81))))]) (H' := []) rfl (inT [] []) (doneA (.inr rfl) rfl ⟨trivial, trivial⟩ (.refl _) hasNil))
          · refine AWc.cF c75 ?_
            refine AWc.skip ?_
            refine AWc.seq ?_
            refine AWc.rE hmix [] ?_
            have hr := Option.some.inj h
            subst hr
            exact AWc.ret (canQ (N := 27) (k := 0) (l' := [(2, (.d (.sl (List.map byteD a0.fB))))]) (H' := []) rfl (inT [] []) (doneA (.inr rfl) rfl ⟨trivial, trivial⟩ (.refl _) hasNil))
/-- courant/codec.bytes -/
def C474 (N : Nat → Nat) : AFunc := { n := 62, params := 2, res := [.tmp 4], body :=
 (.seq (.region false [⟨(some 3), .box (.t 1), none, []⟩,
   ⟨(some 4), .mv (.k .nils), none, []⟩])
  (.seq (.region false [⟨(some 8), .faddr (.t 3) 0, none, []⟩,
    ⟨(some 9), .load (.t 8) 1 false, none, [0]⟩,
    ⟨(some 10), .bin .eql (.t 9) (.k (.d (.int .i64 11))), none, [1]⟩,
    ⟨(some 11), .mv (.t 10), none, [2]⟩,
    ⟨(some 12), .faddr (.t 3) 0, (some (11, false)), [3]⟩,
    ⟨(some 13), .load (.t 12) 1 false, (some (11, false)), [4, 3]⟩,
    ⟨(some 14), .bin .eql (.t 13) (.k (.d (.int .i64 12))), (some (11, false)), [5, 3]⟩,
    ⟨(some 15), .pick (.t 11) (.k (.d (.bool true))) (.t 14), none, [3, 6]⟩,
    ⟨(some 5), .mv (.t 15), none, [7, 3, 0, 1, 2, 4, 5, 6]⟩])
   (.seq (.seq (.region false [⟨(some 16), .mv (.t 5), none, []⟩,
      ⟨(some 17), .mv (.t 16), none, [0]⟩,
      ⟨(some 18), .faddr (.t 3) 3, (some (17, true)), [1]⟩,
      ⟨(some 19), .load (.t 18) 1 false, (some (17, true)), [2, 1]⟩,
      ⟨(some 20), .len (.t 19), (some (17, true)), [3, 1]⟩,
      ⟨(some 21), .bin .gtr (.t 20) (.k (.d (.int .i64 0))), (some (17, true)), [4, 1]⟩,
      ⟨(some 22), .pick (.t 17) (.t 21) (.k (.d (.bool false))), none, [1, 5]⟩])
     (.cond (.t 22) (.region false [⟨(some 23), .mv (.t 0), none, []⟩,
       ⟨(some 24), .faddr (.t 3) 3, none, []⟩,
       ⟨(some 25), .load (.t 24) 1 false, none, [1]⟩,
       ⟨(some 26), .len (.t 25), none, [2]⟩,
       ⟨(some 27), .call (.k (.d (.fn (N 25)))) [(.t 26)], none, [3]⟩,
       ⟨(some 28), .app (.t 23) (.t 27) 1 1 [(.int .u8 0)], none, [0, 4]⟩,
       ⟨(some 0), .mv (.t 28), none, [5, 0, 1, 2, 3, 4]⟩])
      (.skip)))
    (.seq (.region false [⟨(some 29), .mv (.t 0), none, []⟩,
      ⟨(some 30), .load (.t 3) 5 true, none, []⟩,
      ⟨(some 31), .call (.k (.d (.fn (N 475)))) [(.t 30)], none, [1]⟩,
      ⟨(some 32), .app (.t 29) (.t 31) 1 1 [(.int .u8 0)], none, [0, 2]⟩,
      ⟨(some 0), .mv (.t 32), none, [3, 0, 1, 2]⟩])
     (.seq (.seq (.region false [⟨(some 33), .faddr (.t 3) 3, none, []⟩,
        ⟨(some 34), .load (.t 33) 1 false, none, [0]⟩,
        ⟨(some 35), .len (.t 34), none, [1]⟩,
        ⟨(some 36), .mv (.k (.d (.int .i64 0))), none, []⟩])
       (.block 0 (.loop (.seq (.region false [⟨(some 37), .bin .lss (.t 36) (.t 35), none, []⟩])
          (.seq (.cond (.t 37) (.skip)
            (.exit 0))
           (.seq (.block 1 (.seq (.region false [⟨(some 38), .mv (.t 36), none, []⟩,
               ⟨(some 39), .iaddr (.t 34) (.t 36) 5, none, []⟩,
               ⟨(some 40), .load (.t 39) 5 true, none, [1]⟩,
               ⟨(some 7), .alloc [(.int .i64 0), (.int .i64 0), (.sl []), (.sl []), (.sl [])], none, []⟩,
               ⟨(some 6), .mv (.t 38), none, [0, 1, 2, 3]⟩,
               ⟨none, .store (.t 7) (.t 40) 5, none, [3, 2, 4, 0, 1]⟩])
              (.seq (.seq (.region false [⟨(some 41), .faddr (.t 3) 0, none, []⟩,
                 ⟨(some 42), .load (.t 41) 1 false, none, [0]⟩,
                 ⟨(some 43), .bin .eql (.t 42) (.k (.d (.int .i64 12))), none, [1]⟩])
                (.cond (.t 43) (.region false [⟨(some 44), .mv (.t 0), none, []⟩,
                  ⟨(some 45), .faddr (.t 3) 4, none, []⟩,
                  ⟨(some 46), .load (.t 45) 1 false, none, [1]⟩,
                  ⟨(some 47), .mv (.t 6), none, []⟩,
                  ⟨(some 48), .iaddr (.t 46) (.t 47) 1, none, [2, 3]⟩,
                  ⟨(some 49), .load (.t 48) 1 false, none, [4]⟩,
                  ⟨(some 50), .s2bs (.t 49), none, [5]⟩,
                  ⟨(some 51), .call (.k (.d (.fn (N 27)))) [(.t 50)], none, [6]⟩,
                  ⟨(some 52), .app (.t 44) (.t 51) 1 1 [(.int .u8 0)], none, [0, 7]⟩,
                  ⟨(some 0), .mv (.t 52), none, [8, 0, 1, 2, 3, 4, 5, 6, 7]⟩])
                 (.skip)))
               (.region false [⟨(some 53), .mv (.t 0), none, []⟩,
                ⟨(some 54), .load (.t 7) 5 true, none, []⟩,
                ⟨(some 55), .call (.k (.d (.fn (N 474)))) [(.t 53), (.t 54)], none, [0, 1]⟩,
                ⟨(some 0), .mv (.t 55), none, [2, 0, 1]⟩]))))
            (.region false [⟨(some 56), .bin .add (.t 36) (.k (.d (.int .i64 1))), none, []⟩,
             ⟨(some 36), .mv (.t 56), none, [0]⟩])))))))
      (.seq (.seq (.region false [⟨(some 57), .mv (.t 5), none, []⟩])
        (.cond (.t 57) (.region false [⟨(some 58), .mv (.t 0), none, []⟩,
          ⟨(some 59), .bslice 1 1 [(.int .u8 0)] [(0, (.k (.d (.int .u8 0))))], none, []⟩,
          ⟨(some 60), .app (.t 58) (.t 59) 1 1 [(.int .u8 0)], none, [0, 1]⟩,
          ⟨(some 0), .mv (.t 60), none, [2, 0, 1]⟩])
         (.skip)))
       (.seq (.region false [⟨(some 61), .mv (.t 0), none, []⟩,
         ⟨(some 4), .mv (.t 61), none, [0]⟩])
        .ret))))))) }
def HC474 (P : Program) (N : Nat → Nat) : Prop := HasF P (N 474) (C474 N) ∧ HC25 P N ∧ HC475 P N ∧ HC27 P N
def f474_j108 (k : Nat) (j18_1 : Bool) (j108_1 : (List UInt8)) : Option (List UInt8) := cond j18_1 (gd ((j108_1.length + ([(0 : UInt8)] : List UInt8).length) * 2 * 1 ≤ 281474976710656) (some (j108_1 ++ ([(0 : UInt8)] : List UInt8)))) (some j108_1)
def f474_j98 (L : (List UInt8) → Int → Option (LR2 (List UInt8) Unit (List UInt8))) (k : Nat) (rc474 : (List UInt8) → TValue → Option (List UInt8)) (rx72 : TValue) (y56_2 : Int) (j98_1 : (List UInt8)) : Option (LR2 (List UInt8) Unit (List UInt8)) := (rc474 j98_1 (TValue.mk rx72.fKind rx72.fN rx72.fB rx72.fL rx72.fKeys)).bind fun r102 => L r102 (IntKind.i64.wrap (y56_2 + (1 : Int)))
def f474_l56 (a1 : TValue) (rc474 : (List UInt8) → TValue → Option (List UInt8)) : Nat → (List UInt8) → Int → Option (LR2 (List UInt8) Unit (List UInt8))
  | 0, _, _ => none
  | k + 1, y56_1, y56_2 => cond (decide (y56_2 < ((a1.fL.length : Nat) : Int))) (gd (0 ≤ y56_2 ∧ y56_2 < ((a1.fL.length : Nat) : Int)) ((TValue.dec (rtE (rd a1.fL y56_2))).bind fun rx72 => cond (decide (a1.fKind = (12 : Int))) (gd (0 ≤ y56_2 ∧ y56_2 < ((a1.fKeys.length : Nat) : Int)) ((f27 k (rd a1.fKeys y56_2)).bind fun r94 => gd ((y56_1.length + r94.length) * 2 * 1 ≤ 281474976710656) (f474_j98 (f474_l56 a1 rc474 k) k rc474 rx72 y56_2 (y56_1 ++ r94)))) (f474_j98 (f474_l56 a1 rc474 k) k rc474 rx72 y56_2 y56_1))) (some (.b0 y56_1))
def f474_j40 (k : Nat) (a1 : TValue) (rc474 : (List UInt8) → TValue → Option (List UInt8)) (j18_1 : Bool) (j40_1 : (List UInt8)) : Option (List UInt8) := (f475 k (TValue.mk a1.fKind a1.fN a1.fB a1.fL a1.fKeys)).bind fun r45 => gd ((j40_1.length + r45.length) * 2 * 1 ≤ 281474976710656) ((f474_l56 a1 rc474 k (j40_1 ++ r45) (0 : Int)).bind fun o56 => (match o56 with | .b0 x56_1 => f474_j108 k j18_1 x56_1 | _ => none))
def f474_j29 (k : Nat) (a1 : TValue) (a0 : (List UInt8)) (rc474 : (List UInt8) → TValue → Option (List UInt8)) (j18_1 : Bool) (j29_1 : Bool) : Option (List UInt8) := cond j29_1 ((f25 k ((a1.fL.length : Nat) : Int)).bind fun r36 => gd ((a0.length + r36.length) * 2 * 1 ≤ 281474976710656) (f474_j40 k a1 rc474 j18_1 (a0 ++ r36))) (f474_j40 k a1 rc474 j18_1 a0)
def f474_j18 (k : Nat) (a1 : TValue) (a0 : (List UInt8)) (rc474 : (List UInt8) → TValue → Option (List UInt8)) (j18_1 : Bool) : Option (List UInt8) := cond j18_1 (f474_j29 k a1 a0 rc474 j18_1 (decide (((a1.fL.length : Nat) : Int) > (0 : Int)))) (f474_j29 k a1 a0 rc474 j18_1 false)
def f474_s (rc474 : (List UInt8) → TValue → Option (List UInt8)) (k : Nat) (a0 : (List UInt8)) (a1 : TValue) : Option (List UInt8) := cond (decide (a1.fKind = (11 : Int))) (f474_j18 k a1 a0 rc474 true) (f474_j18 k a1 a0 rc474 (decide (a1.fKind = (12 : Int))))
theorem F474_s {P : Program} {N : Nat → Nat} (hmix : P.follows .mixedOrders = true) (hc : HC474 P N) {rc474 : (List UInt8) → TValue → Option (List UInt8)} (hrc474 : RH474 P N rc474) {k : Nat} {a0 : (List UInt8)} {a1 : TValue} {r : (List UInt8)} (h : f474_s rc474 k a0 a1 = some r) :
    ACalls P (N 474) [(.ap 0 1 (List.map byteD a0)), (.d (TValue.enc a1))] [(0, (.tok ((List.map byteD a0).length * 1)))] (.ap 1 1 (List.map byteD r)) [(1, (.tok ((List.map byteD r).length * 1)))] := by
  refine acalls_canon (F := C474 N) hc.1 1 2 rfl ?_
  unfold f474_s at h
  dsimp only [C474, startL]
  refine AWc.seq ?_
  refine AWc.rE hmix [] ?_
  refine AWc.seqS (N := 62) 2 (fun (z : Bool) => [(0, (.ap 0 1 (List.map byteD a0))), (3, (.ptr 1 0)), (5, (.d (.bool z)))]) (fun z => [(0, (.tok ((List.map byteD a0).length * 1))), (1, (.cells [(.d (.int .i64 a1.fKind)), (.d (.int .i64 a1.fN)), (.d (.sl (List.map byteD a1.fB))), (.d (.sl (List.map (rtE (z := 5)) a1.fL))), (.d (.sl (List.map D.str a1.fKeys)))]))]) (fun z => f474_j18 k a1 a0 rc474 z = some r) rfl_le ?_ ?_
  · rcases cc h with ⟨c12, h⟩ | ⟨c12, h⟩
    · refine AWc.rE hmix [.br c12] ?_
      exact ⟨true, h, (inT [] [])⟩
    · refine AWc.rE hmix [.br c12] ?_
      exact ⟨(decide (a1.fKind = (12 : Int))), h, (inT [] [])⟩
  · intro j18_1 h
    unfold f474_j18 at h
    refine AWc.seqS (N := 62) 3 (fun (z : (List UInt8)) => [(0, (.ap 1 1 (List.map byteD z))), (3, (.ptr 2 0)), (5, (.d (.bool j18_1)))]) (fun z => [(1, (.tok ((List.map byteD z).length * 1))), (2, (.cells [(.d (.int .i64 a1.fKind)), (.d (.int .i64 a1.fN)), (.d (.sl (List.map byteD a1.fB))), (.d (.sl (List.map (rtE (z := 5)) a1.fL))), (.d (.sl (List.map D.str a1.fKeys)))]))]) (fun z => f474_j40 k a1 rc474 j18_1 z = some r) rfl_le ?_ ?_
    · refine AWc.seqS (N := 62) 2 (fun (z : Bool) => [(0, (.ap 0 1 (List.map byteD a0))), (3, (.ptr 1 0)), (5, (.d (.bool j18_1))), (22, (.d (.bool z)))]) (fun z => [(0, (.tok ((List.map byteD a0).length * 1))), (1, (.cells [(.d (.int .i64 a1.fKind)), (.d (.int .i64 a1.fN)), (.d (.sl (List.map byteD a1.fB))), (.d (.sl (List.map (rtE (z := 5)) a1.fL))), (.d (.sl (List.map D.str a1.fKeys)))]))]) (fun z => f474_j29 k a1 a0 rc474 j18_1 z = some r) rfl_le ?_ ?_
      · rcases cc h with ⟨c23, h⟩ | ⟨c23, h⟩
        · refine AWc.rE hmix [.br c23, .ln (rtE (z := 5)) a1.fL] ?_
          exact ⟨(decide (((a1.fL.length : Nat) : Int) > (0 : Int))), h, (inT [] [])⟩
        · refine AWc.rE hmix [.br c23] ?_
          exact ⟨false, h, (inT [] [])⟩
      · intro j29_1 h
        unfold f474_j29 at h
        rcases cc h with ⟨c29, h⟩ | ⟨c29, h⟩
        · refine AWc.cT c29 ?_
          obtain ⟨r36, e36, h⟩ := bind_some h
          obtain ⟨b37, h⟩ := gd_some h
          refine AWc.rE hmix [.ln (rtE (z := 5)) a1.fL, .call (F25 hmix hc.2.1 e36) [(0, 2)] 1, .apA byteD a0 r36 1 (fun _ => rfl) b37] ?_
          exact ⟨(a0 ++ r36), h, (inT [(1, 3), (2, 1)] [])⟩
        · refine AWc.cF c29 ?_
          refine AWc.skip ?_
          exact ⟨a0, h, (inT [(1, 0), (2, 1)] [])⟩
    · intro j40_1 h
      unfold f474_j40 at h
      refine AWc.seq ?_
      obtain ⟨r45, e45, h⟩ := bind_some h
      obtain ⟨b46, h⟩ := gd_some h
      refine AWc.rE hmix [.call (F475 hmix hc.2.2.1 e45) [] 0, .apA byteD j40_1 r45 1 (fun _ => rfl) b46] ?_
      refine AWc.seqS (N := 62) 2 (fun (z : (List UInt8)) => [(0, (.ap 1 1 (List.map byteD z))), (5, (.d (.bool j18_1)))]) (fun z => [(1, (.tok ((List.map byteD z).length * 1)))]) (fun z => f474_j108 k j18_1 z = some r) rfl_le ?_ ?_
      · refine AWc.seq ?_
        refine AWc.rE hmix [.ln (rtE (z := 5)) a1.fL] ?_
        obtain ⟨o56, h56, h⟩ := bind_some h
        refine AWc.block ?_
        refine AWc.loopK (N := 62) 3 (fun (x : ((List UInt8) × Int)) => [(0, (.ap 1 1 (List.map byteD x.1))), (3, (.ptr 2 0)), (5, (.d (.bool j18_1))), (34, (.d (.sl (List.map (rtE (z := 5)) a1.fL)))), (35, (.d (.int .i64 ((a1.fL.length : Nat) : Int)))), (36, (.d (.int .i64 x.2)))]) (fun x => [(1, (.tok ((List.map byteD x.1).length * 1))), (2, (.cells [(.d (.int .i64 a1.fKind)), (.d (.int .i64 a1.fN)), (.d (.sl (List.map byteD a1.fB))), (.d (.sl (List.map (rtE (z := 5)) a1.fL))), (.d (.sl (List.map D.str a1.fKeys)))]))]) (fun k x => f474_l56 a1 rc474 k x.1 x.2 = some o56) k ((j40_1 ++ r45), (0 : Int)) rfl_le (fun x hx => by cases hx) h56 (inT [(1, 3)] []) ?_
        clear h56
        intro k
        rintro ⟨y56_1, y56_2⟩ h56
        dsimp only at h56 ⊢
        rw [f474_l56] at h56
        refine AWc.seq ?_
        refine AWc.rE hmix [] ?_
        refine AWc.seq ?_
        rcases cc h56 with ⟨c63, h56⟩ | ⟨c63, h56⟩
        · refine AWc.cT c63 ?_
          refine AWc.skip ?_
          refine AWc.seq ?_
          refine AWc.block ?_
          refine AWc.seq ?_
          obtain ⟨b72, h56⟩ := gd_some h56
          obtain ⟨rx72, ex72, h56⟩ := bind_some h56
          refine AWc.rE hmix [.iadE (rtE (z := 5)) a1.fL 5 rtE_ok.len b72 (TValue.dec_eq ex72)] ?_
          refine AWc.seqS (N := 62) 4 (fun (z : (List UInt8)) => [(0, (.ap 1 1 (List.map byteD z))), (3, (.ptr 2 0)), (5, (.d (.bool j18_1))), (7, (.ptr 3 0)), (34, (.d (.sl (List.map (rtE (z := 5)) a1.fL)))), (35, (.d (.int .i64 ((a1.fL.length : Nat) : Int)))), (36, (.d (.int .i64 y56_2)))]) (fun z => [(1, (.tok ((List.map byteD z).length * 1))), (2, (.cells [(.d (.int .i64 a1.fKind)), (.d (.int .i64 a1.fN)), (.d (.sl (List.map byteD a1.fB))), (.d (.sl (List.map (rtE (z := 5)) a1.fL))), (.d (.sl (List.map D.str a1.fKeys)))])), (3, (.cells [(.d (.int .i64 rx72.fKind)), (.d (.int .i64 rx72.fN)), (.d (.sl (List.map byteD rx72.fB))), (.d (.sl (List.map (rtE (z := 5)) rx72.fL))), (.d (.sl (List.map D.str rx72.fKeys)))]))]) (fun z => f474_j98 (f474_l56 a1 rc474 k) k rc474 rx72 y56_2 z = some o56) rfl_le ?_ ?_
          · refine AWc.seq ?_
            refine AWc.rE hmix [] ?_
            rcases cc h56 with ⟨c84, h56⟩ | ⟨c84, h56⟩
            · refine AWc.cT c84 ?_
              obtain ⟨b91, h56⟩ := gd_some h56
              obtain ⟨r94, e94, h56⟩ := bind_some h56
              obtain ⟨b95, h56⟩ := gd_some h56
              refine AWc.rE hmix [.iad D.str a1.fKeys 1 (fun _ => rfl) b91, .call (F27 hmix hc.2.2.2 e94) [(0, 4)] 1, .apA byteD y56_1 r94 1 (fun _ => rfl) b95] ?_
              exact ⟨(y56_1 ++ r94), h56, (inT [(1, 5)] [])⟩
            · refine AWc.cF c84 ?_
              refine AWc.skip ?_
              exact ⟨y56_1, h56, (inT [] [])⟩
          · intro j98_1 h56
            unfold f474_j98 at h56
            obtain ⟨r102, e102, h56⟩ := bind_some h56
            refine AWc.rE hmix [.call (hrc474 _ _ _ e102) [(0, 1), (1, 4)] 2] ?_
            refine AWc.rE hmix [] ?_
            exact ⟨(r102, (IntKind.i64.wrap (y56_2 + (1 : Int)))), h56, (inT [(1, 4)] [])⟩
        · refine AWc.cF c63 ?_
          cases h56
          dsimp only at h
          refine AWc.exit ?_
          refine inBlk_eq ?_
          exact ⟨y56_1, h, (inT [] [])⟩
      · intro j108_1 h
        unfold f474_j108 at h
        refine AWc.seq ?_
        refine AWc.seq ?_
        refine AWc.rE hmix [] ?_
        rcases cc h with ⟨c113, h⟩ | ⟨c113, h⟩
        · refine AWc.cT c113 ?_
          obtain ⟨b118, h⟩ := gd_some h
          refine AWc.rE hmix [.apA byteD j108_1 ([(0 : UInt8)] : List UInt8) 1 (fun _ => rfl) b118] ?_
          refine AWc.seq ?_
          refine AWc.rE hmix [] ?_
          have hr := Option.some.inj h
          subst hr
          exact AWc.ret (canQ (N := 62) (k := 2) (l' := [(4, (.ap 1 1 (List.map byteD (j108_1 ++ ([(0 : UInt8)] : List UInt8)))))]) (H' := [(1, (.tok ((List.map byteD (j108_1 ++ ([(0 : UInt8)] : List UInt8))).length * 1)))]) rfl (inT [(1, 2)] []) (doneA (.inr rfl) rfl ⟨trivial, trivial⟩ (.refl _) (hasCons rfl hasNil)))
        · refine AWc.cF c113 ?_
          refine AWc.skip ?_
          refine AWc.seq ?_
          refine AWc.rE hmix [] ?_
          have hr := Option.some.inj h
          subst hr
          exact AWc.ret (canQ (N := 62) (k := 2) (l' := [(4, (.ap 1 1 (List.map byteD j108_1)))]) (H' := [(1, (.tok ((List.map byteD j108_1).length * 1)))]) rfl (inT [] []) (doneA (.inr rfl) rfl ⟨trivial, trivial⟩ (.refl _) (hasCons rfl hasNil)))
def f474 : Nat → (List UInt8) → TValue → Option (List UInt8)
  | 0, _, _ => none
  | k + 1, a0, a1 => f474_s (f474 k) k a0 a1
theorem F474 {P : Program} {N : Nat → Nat} (hmix : P.follows .mixedOrders = true) (hc : HC474 P N) {k : Nat} {a0 : (List UInt8)} {a1 : TValue} {r : (List UInt8)} (h : f474 k a0 a1 = some r) :
    ACalls P (N 474) [(.ap 0 1 (List.map byteD a0)), (.d (TValue.enc a1))] [(0, (.tok ((List.map byteD a0).length * 1)))] (.ap 1 1 (List.map byteD r)) [(1, (.tok ((List.map byteD r).length * 1)))] := by
  induction k generalizing a0 a1 r with
  | zero => exact absurd (show (none : Option _) = some r from h) (fun h2 => by cases h2)
  | succ k ih => exact F474_s hmix hc (fun _ _ _ h => ih h) h
/-- courant/codec.Encode -/
def C460 (N : Nat → Nat) : AFunc := { n := 19, params := 2, res := [.tmp 4, .tmp 5], body :=
 (.seq (.region false [⟨(some 2), .box (.t 0), none, []⟩,
   ⟨(some 3), .box (.t 1), none, []⟩,
   ⟨(some 4), .mv (.k .nils), none, []⟩,
   ⟨(some 5), .mv (.k (.d (.int .i64 0))), none, [2]⟩])
  (.seq (.seq (.region false [⟨(some 7), .load (.t 2) 1 true, none, []⟩,
     ⟨(some 8), .load (.t 3) 5 true, none, []⟩,
     ⟨(some 9), .call (.k (.d (.fn (N 461)))) [(.t 7), (.k (.d (.int .i64 0))), (.t 8)], none, [0, 1]⟩,
     ⟨(some 10), .un .not (.t 9), none, [2]⟩])
    (.cond (.t 10) (.seq (.region false [⟨(some 4), .mv (.k .nils), none, []⟩,
       ⟨(some 5), .mv (.k (.d (.int .i64 9))), none, [0]⟩])
      .ret)
     (.skip)))
   (.seq (.seq (.region false [⟨(some 11), .load (.t 3) 5 true, none, []⟩,
      ⟨(some 12), .call (.k (.d (.fn (N 469)))) [(.t 11)], none, [0]⟩])
     (.cond (.t 12) (.seq (.region false [⟨(some 4), .mv (.k .nils), none, []⟩,
        ⟨(some 5), .mv (.k (.d (.int .i64 5))), none, [0]⟩])
       .ret)
      (.skip)))
    (.seq (.region false [⟨(some 13), .load (.t 3) 5 true, none, []⟩,
      ⟨(some 14), .call (.k (.d (.fn (N 474)))) [(.k .nils), (.t 13)], none, [0]⟩,
      ⟨(some 6), .mv (.t 14), none, [1, 0]⟩])
     (.seq (.seq (.region false [⟨(some 15), .mv (.t 6), none, []⟩,
        ⟨(some 16), .len (.t 15), none, [0]⟩,
        ⟨(some 17), .bin .gtr (.t 16) (.k (.d (.int .i64 4096))), none, [1]⟩])
       (.cond (.t 17) (.seq (.region false [⟨(some 4), .mv (.k .nils), none, []⟩,
          ⟨(some 5), .mv (.k (.d (.int .i64 5))), none, [0]⟩])
         .ret)
        (.skip)))
      (.seq (.region false [⟨(some 18), .mv (.t 6), none, []⟩,
        ⟨(some 4), .mv (.t 18), none, [0]⟩,
        ⟨(some 5), .mv (.k (.d (.int .i64 0))), none, [1, 0]⟩])
       .ret)))))) }
def HC460 (P : Program) (N : Nat → Nat) : Prop := HasF P (N 460) (C460 N) ∧ HC461 P N ∧ HC469 P N ∧ HC474 P N
def f460 (k : Nat) (a0 : TSchema) (a1 : TValue) : Option ((List UInt8) × Int) := (f461 k (TSchema.mk a0.fNodes) (0 : Int) (TValue.mk a1.fKind a1.fN a1.fB a1.fL a1.fKeys)).bind fun r14 => cond (!r14) (some (([] : List UInt8), (9 : Int))) ((f469 k (TValue.mk a1.fKind a1.fN a1.fB a1.fL a1.fKeys)).bind fun r29 => cond r29 (some (([] : List UInt8), (5 : Int))) ((f474 k ([] : List UInt8) (TValue.mk a1.fKind a1.fN a1.fB a1.fL a1.fKeys)).bind fun r42 => cond (decide (((r42.length : Nat) : Int) > (4096 : Int))) (some (([] : List UInt8), (5 : Int))) (some (r42, (0 : Int)))))
theorem F460 {P : Program} {N : Nat → Nat} (hmix : P.follows .mixedOrders = true) (hc : HC460 P N) {k : Nat} {a0 : TSchema} {a1 : TValue} {r : ((List UInt8) × Int)} (h : f460 k a0 a1 = some r) :
    ACalls P (N 460) [(.d (TSchema.enc a0)), (.d (TValue.enc a1))] [] (.tup [(.ap 0 1 (List.map byteD r.1)), (.d (.int .i64 r.2))]) [(0, (.tok ((List.map byteD r.1).length * 1)))] := by
  refine acalls_canon (F := C460 N) hc.1 0 1 rfl ?_
  unfold f460 at h
  dsimp only [C460, startL]
  refine AWc.seq ?_
  refine AWc.rE hmix [] ?_
  refine AWc.seq ?_
  refine AWc.seq ?_
  obtain ⟨r14, e14, h⟩ := bind_some h
  refine AWc.rE hmix [.call (F461 hmix hc.2.1 e14) [] 0] ?_
  rcases cc h with ⟨c16, h⟩ | ⟨c16, h⟩
  · refine AWc.cT c16 ?_
    refine AWc.seq ?_
    refine AWc.rE hmix [] ?_
    have hr := Option.some.inj h
    subst hr
    exact AWc.ret (canQ (N := 19) (k := 1) (l' := [(4, (.ap 0 1 (List.map byteD ([] : List UInt8)))), (5, (.d (.int .i64 (9 : Int))))]) (H' := [(0, (.tok ((List.map byteD ([] : List UInt8)).length * 1)))]) rfl (inT [(0, 2)] [.tok 0]) (doneA (.inr rfl) rfl ⟨trivial, ⟨trivial, trivial⟩⟩ (.refl _) (hasCons rfl hasNil)))
  · refine AWc.cF c16 ?_
    refine AWc.skip ?_
    refine AWc.seq ?_
    refine AWc.seq ?_
    obtain ⟨r29, e29, h⟩ := bind_some h
    refine AWc.rE hmix [.call (F469 hmix hc.2.2.1 e29) [] 0] ?_
    rcases cc h with ⟨c30, h⟩ | ⟨c30, h⟩
    · refine AWc.cT c30 ?_
      refine AWc.seq ?_
      refine AWc.rE hmix [] ?_
      have hr := Option.some.inj h
      subst hr
      exact AWc.ret (canQ (N := 19) (k := 1) (l' := [(4, (.ap 0 1 (List.map byteD ([] : List UInt8)))), (5, (.d (.int .i64 (5 : Int))))]) (H' := [(0, (.tok ((List.map byteD ([] : List UInt8)).length * 1)))]) rfl (inT [(0, 2)] [.tok 0]) (doneA (.inr rfl) rfl ⟨trivial, ⟨trivial, trivial⟩⟩ (.refl _) (hasCons rfl hasNil)))
    · refine AWc.cF c30 ?_
      refine AWc.skip ?_
      refine AWc.seq ?_
      obtain ⟨r42, e42, h⟩ := bind_some h
      refine AWc.rE hmix [.call (ACalls.nilA (F474 hmix hc.2.2.2 e42) 0 0 1) [(1, 2)] 2] ?_
      refine AWc.seq ?_
      refine AWc.seq ?_
      refine AWc.rE hmix [.ln byteD r42] ?_
      rcases cc h with ⟨c51, h⟩ | ⟨c51, h⟩
      · refine AWc.cT c51 ?_
        refine AWc.seq ?_
        refine AWc.rE hmix [] ?_
        have hr := Option.some.inj h
        subst hr
        exact AWc.ret (canQ (N := 19) (k := 1) (l' := [(4, (.ap 0 1 (List.map byteD ([] : List UInt8)))), (5, (.d (.int .i64 (5 : Int))))]) (H' := [(0, (.tok ((List.map byteD ([] : List UInt8)).length * 1)))]) rfl (inT [(0, 3)] [.tok 0]) (doneA (.inr rfl) rfl ⟨trivial, ⟨trivial, trivial⟩⟩ (.refl _) (hasCons rfl hasNil)))
      · refine AWc.cF c51 ?_
        refine AWc.skip ?_
        refine AWc.seq ?_
        refine AWc.rE hmix [] ?_
        have hr := Option.some.inj h
        subst hr
        exact AWc.ret (canQ (N := 19) (k := 1) (l' := [(4, (.ap 0 1 (List.map byteD r42))), (5, (.d (.int .i64 (0 : Int))))]) (H' := [(0, (.tok ((List.map byteD r42).length * 1)))]) rfl (inT [(0, 2)] []) (doneA (.inr rfl) rfl ⟨trivial, ⟨trivial, trivial⟩⟩ (.refl _) (hasCons rfl hasNil)))
/-- courant/code.New -/
def C30 (N : Nat → Nat) : AFunc := { n := 7, params := 1, res := [.tmp 2], body :=
 (.seq (.region false [⟨(some 2), .mv (.k (.d .nilp)), none, []⟩])
  (.seq (.region false [⟨(some 3), .mv (.t 0), none, []⟩,
    ⟨(some 4), .app (.k .nils) (.t 3) 1 1 [(.int .u8 0)], none, [0]⟩,
    ⟨(some 5), .build [(.sl []), (.int .i64 0), (.int .i64 0)] [(0, 1, (.t 4))], none, [1]⟩,
    ⟨(some 6), .box (.t 5), none, [2]⟩,
    ⟨(some 2), .mv (.t 6), none, [3, 1, 0, 2]⟩])
   .ret)) }
def HC30 (P : Program) (N : Nat → Nat) : Prop := HasF P (N 30) (C30 N)
def f30 (k : Nat) (a0 : (List UInt8)) : Option Unit := gd (a0.length * 1 ≤ 281474976710656) (some ())
theorem F30 {P : Program} {N : Nat → Nat} (hmix : P.follows .mixedOrders = true) (hc : HC30 P N) {k : Nat} {a0 : (List UInt8)} {r : Unit} (h : f30 k a0 = some r) :
    ACalls P (N 30) [(.d (.sl (List.map byteD a0)))] [] (.ptr 0 0) [(0, (.cells [(.d (.sl (List.map byteD a0))), (.d (.int .i64 (0 : Int))), (.d (.int .i64 (0 : Int)))]))] := by
  refine acalls_canon (F := C30 N) hc 0 1 rfl ?_
  unfold f30 at h
  dsimp only [C30, startL]
  refine AWc.seq ?_
  refine AWc.rE hmix [] ?_
  refine AWc.seq ?_
  obtain ⟨b9, h⟩ := gd_some h
  refine AWc.rE hmix [.apN byteD a0 1 (fun _ => rfl) b9] ?_
  have hr := Option.some.inj h
  subst hr
  exact AWc.ret (canQ (N := 7) (k := 1) (l' := [(2, (.ptr 0 0))]) (H' := [(0, (.cells [(.d (.sl (List.map byteD a0))), (.d (.int .i64 (0 : Int))), (.d (.int .i64 (0 : Int)))]))]) rfl (inT [(0, 1)] []) (doneA (.inr rfl) rfl ⟨trivial, trivial⟩ (.refl _) (hasCons rfl hasNil)))
def RH451 (P : Program) (N : Nat → Nat) (rc451 : (List TNode) → (List UInt8) → Int → Int → Int → Int → Int → Option (Int × Int × Int × (List UInt8) × (List (RT 5)) × (List (List UInt8)) × Int × Int × Int)) : Prop := ∀ (a0 : (List TNode)) (a1 : (List UInt8)) (a2 : Int) (a3 : Int) (a4 : Int) (a5 : Int) (a6 : Int) (r : (Int × Int × Int × (List UInt8) × (List (RT 5)) × (List (List UInt8)) × Int × Int × Int)), rc451 a0 a1 a2 a3 a4 a5 a6 = some r → ACalls P (N 451) [(.ptr 0 0), (.d (.int .i64 a5)), (.d (.int .i64 a6))] [(0, (.cells [(.d (.sl (List.map TNode.enc a0))), (.ptr 1 0), (.d (.int .i64 a4))])), (1, (.cells [(.d (.sl (List.map byteD a1))), (.d (.int .i64 a2)), (.d (.int .i64 a3))]))] (.tup [(.d (.agg [(.int .i64 r.2.1), (.int .i64 r.2.2.1), (.sl (List.map byteD r.2.2.2.1)), (.sl (List.map (rtE (z := 5)) r.2.2.2.2.1)), (.sl (List.map D.str r.2.2.2.2.2.1))])), (.d (.int .i64 r.1))]) [(0, (.cells [(.d (.sl (List.map TNode.enc a0))), (.ptr 1 0), (.d (.int .i64 r.2.2.2.2.2.2.1))])), (1, (.cells [(.d (.sl (List.map byteD a1))), (.d (.int .i64 r.2.2.2.2.2.2.2.1)), (.d (.int .i64 r.2.2.2.2.2.2.2.2))]))]
/-- (*courant/code.Reader).ready -/
def C84 (N : Nat → Nat) : AFunc := { n := 12, params := 1, res := [.tmp 2], body :=
 (.seq (.region false [⟨(some 2), .mv (.k (.d (.bool false))), none, []⟩])
  (.seq (.region false [⟨(some 3), .mv (.t 0), none, []⟩,
    ⟨(some 4), .nileq 1 true (.t 3) (.k (.d .nilp)), none, [0]⟩,
    ⟨(some 5), .mv (.t 4), none, [1]⟩,
    ⟨(some 6), .mv (.t 0), (some (5, true)), [2]⟩,
    ⟨(some 7), .nilchk (.t 6), (some (5, true)), [3, 2]⟩,
    ⟨(some 8), .faddr (.t 7) 2, (some (5, true)), [4, 2]⟩,
    ⟨(some 9), .load (.t 8) 1 false, (some (5, true)), [5, 2]⟩,
    ⟨(some 10), .bin .eql (.t 9) (.k (.d (.int .i64 0))), (some (5, true)), [6, 2]⟩,
    ⟨(some 11), .pick (.t 5) (.t 10) (.k (.d (.bool false))), none, [2, 7]⟩,
    ⟨(some 2), .mv (.t 11), none, [8, 2, 0, 1, 3, 4, 5, 6, 7]⟩])
   .ret)) }
def HC84 (P : Program) (N : Nat → Nat) : Prop := HasF P (N 84) (C84 N)
def f84 (k : Nat) (a0 : (List UInt8)) (a1 : Int) (a2 : Int) : Option Unit := some ()
theorem F84 {P : Program} {N : Nat → Nat} (hmix : P.follows .mixedOrders = true) (hc : HC84 P N) {k : Nat} {a0 : (List UInt8)} {a1 : Int} {a2 : Int} {r : Unit} (h : f84 k a0 a1 a2 = some r) :
    ACalls P (N 84) [(.ptr 0 0)] [(0, (.cells [(.d (.sl (List.map byteD a0))), (.d (.int .i64 a1)), (.d (.int .i64 a2))]))] (.d (.bool (decide (a2 = (0 : Int))))) [(0, (.cells [(.d (.sl (List.map byteD a0))), (.d (.int .i64 a1)), (.d (.int .i64 a2))]))] := by
  refine acalls_canon (F := C84 N) hc 1 1 rfl ?_
  unfold f84 at h
  dsimp only [C84, startL]
  refine AWc.seq ?_
  refine AWc.rE hmix [] ?_
  refine AWc.seq ?_
  refine AWc.rE hmix [.br (rfl : true = true)] ?_
  have hr := Option.some.inj h
  subst hr
  exact AWc.ret (canQ (N := 12) (k := 1) (l' := [(2, (.d (.bool (decide (a2 = (0 : Int))))))]) (H' := [(0, (.cells [(.d (.sl (List.map byteD a0))), (.d (.int .i64 a1)), (.d (.int .i64 a2))]))]) rfl (inT [] []) (doneA (.inr rfl) rfl ⟨trivial, trivial⟩ (.refl _) (hasCons rfl hasNil)))
/-- (*courant/code.Reader).fail -/
def C85 (N : Nat → Nat) : AFunc := { n := 14, params := 3, res := [], body :=
 (.region false [⟨(some 6), .mv (.t 0), none, []⟩,
  ⟨(some 7), .mv (.t 0), none, []⟩,
  ⟨(some 8), .mv (.t 1), none, []⟩,
  ⟨(some 9), .mv (.t 2), none, []⟩,
  ⟨(some 10), .nilchk (.t 6), none, [0, 2]⟩,
  ⟨(some 11), .faddr (.t 10) 1, none, [4, 0, 2]⟩,
  ⟨none, .store (.t 11) (.t 8) 1, none, [5, 2, 0]⟩,
  ⟨(some 12), .nilchk (.t 7), none, [1, 0, 2, 3, 4, 5, 6]⟩,
  ⟨(some 13), .faddr (.t 12) 2, none, [7, 0, 1, 2, 3, 4, 5, 6]⟩,
  ⟨none, .store (.t 13) (.t 9) 1, none, [8, 3, 6, 0, 1, 2, 4, 5]⟩]) }
def HC85 (P : Program) (N : Nat → Nat) : Prop := HasF P (N 85) (C85 N)
def f85 (k : Nat) (a0 : (List UInt8)) (a1 : Int) (a2 : Int) (a3 : Int) (a4 : Int) : Option Unit := some ()
theorem F85 {P : Program} {N : Nat → Nat} (hmix : P.follows .mixedOrders = true) (hc : HC85 P N) {k : Nat} {a0 : (List UInt8)} {a1 : Int} {a2 : Int} {a3 : Int} {a4 : Int} {r : Unit} (h : f85 k a0 a1 a2 a3 a4 = some r) :
    ACalls P (N 85) [(.ptr 0 0), (.d (.int .i64 a3)), (.d (.int .i64 a4))] [(0, (.cells [(.d (.sl (List.map byteD a0))), (.d (.int .i64 a1)), (.d (.int .i64 a2))]))] (.tup []) [(0, (.cells [(.d (.sl (List.map byteD a0))), (.d (.int .i64 a3)), (.d (.int .i64 a4))]))] := by
  refine acalls_canon (F := C85 N) hc 1 1 rfl ?_
  unfold f85 at h
  dsimp only [C85, startL]
  refine AWc.rE hmix [] ?_
  have hr := Option.some.inj h
  subst hr
  exact canQ (N := 14) (k := 1) (l' := []) (H' := [(0, (.cells [(.d (.sl (List.map byteD a0))), (.d (.int .i64 a3)), (.d (.int .i64 a4))]))]) rfl (inT [] []) (doneA (.inl rfl) rfl trivial (.refl _) (hasCons rfl hasNil))
/-- (*courant/code.Reader).Num -/
def C39 (N : Nat → Nat) : AFunc := { n := 73, params := 1, res := [.tmp 2], body :=
 (.seq (.region false [⟨(some 2), .mv (.k (.d (.int .u64 0))), none, []⟩])
  (.scope (.seq (.seq (.region false [⟨(some 8), .mv (.t 0), none, []⟩,
      ⟨(some 9), .call (.k (.d (.fn (N 84)))) [(.t 8)], none, [0]⟩,
      ⟨(some 10), .un .not (.t 9), none, [1]⟩])
     (.cond (.t 10) (.seq (.region false [⟨(some 2), .mv (.k (.d (.int .u64 0))), none, []⟩])
       .ret)
      (.skip)))
    (.seq (.region false [⟨(some 11), .mv (.t 0), none, []⟩,
      ⟨(some 12), .nilchk (.t 11), none, [0]⟩,
      ⟨(some 13), .faddr (.t 12) 1, none, [1]⟩,
      ⟨(some 14), .load (.t 13) 1 false, none, [2]⟩,
      ⟨(some 3), .mv (.t 14), none, [3, 0, 1, 2]⟩,
      ⟨(some 4), .mv (.k (.d (.int .u64 0))), none, [4, 0, 1, 2, 3]⟩,
      ⟨(some 5), .mv (.k (.d (.int .i64 3))), none, [5, 0, 1, 2, 3, 4]⟩])
     (.seq (.label 0)
      (.seq (.seq (.region false [⟨(some 6), .mv (.k (.d (.int .i64 0))), none, []⟩])
        (.block 0 (.loop (.seq (.seq (.region true [⟨(some 15), .mv (.t 0), none, []⟩,
             ⟨(some 16), .nilchk (.t 15), none, [0]⟩,
             ⟨(some 17), .faddr (.t 16) 1, none, [1]⟩,
             ⟨(some 18), .load (.t 17) 1 false, none, [2]⟩,
             ⟨(some 19), .mv (.t 0), none, []⟩,
             ⟨(some 20), .nilchk (.t 19), none, [4]⟩,
             ⟨(some 21), .faddr (.t 20) 0, none, [5]⟩,
             ⟨(some 22), .load (.t 21) 1 false, none, [6]⟩,
             ⟨(some 23), .len (.t 22), none, [7]⟩,
             ⟨(some 24), .bin .lss (.t 18) (.t 23), none, [3, 8]⟩])
            (.cond (.t 24) (.skip)
             (.exit 0)))
           (.seq (.block 1 (.seq (.region true [⟨(some 27), .mv (.t 0), none, []⟩,
               ⟨(some 28), .nilchk (.t 27), none, [0]⟩,
               ⟨(some 29), .faddr (.t 28) 0, none, [1]⟩,
               ⟨(some 30), .load (.t 29) 1 false, none, [2]⟩,
               ⟨(some 31), .mv (.t 0), none, []⟩,
               ⟨(some 32), .nilchk (.t 31), none, [4]⟩,
               ⟨(some 33), .faddr (.t 32) 1, none, [5]⟩,
               ⟨(some 34), .load (.t 33) 1 false, none, [6]⟩,
               ⟨(some 35), .iaddr (.t 30) (.t 34) 1, none, [3, 7]⟩,
               ⟨(some 36), .load (.t 35) 1 false, none, [8]⟩,
               ⟨(some 7), .mv (.t 36), none, [9, 0, 1, 2, 3, 4, 5, 6, 7, 8]⟩])
              (.seq (.region false [⟨(some 37), .mv (.t 0), none, []⟩,
                ⟨(some 38), .nilchk (.t 37), none, [0]⟩,
                ⟨(some 39), .faddr (.t 38) 1, none, [1]⟩,
                ⟨(some 40), .load (.t 39) 1 false, none, [2]⟩,
                ⟨(some 41), .bin .add (.t 40) (.k (.d (.int .i64 1))), none, [3]⟩,
                ⟨(some 42), .nilchk (.t 37), none, [0, 1, 2, 3, 4]⟩,
                ⟨(some 43), .faddr (.t 42) 1, none, [5, 0, 1, 2, 3, 4]⟩,
                ⟨none, .store (.t 43) (.t 41) 1, none, [6, 4, 0, 1, 2, 3]⟩])
               (.seq (.region false [⟨(some 44), .mv (.t 4), none, []⟩,
                 ⟨(some 45), .mv (.t 7), none, []⟩,
                 ⟨(some 46), .bin .and (.t 45) (.k (.d (.int .u8 127))), none, [1]⟩,
                 ⟨(some 47), .cvi .u64 (.t 46), none, [2]⟩,
                 ⟨(some 48), .mv (.t 6), none, []⟩,
                 ⟨(some 49), .bin .mul (.k (.d (.int .i64 7))) (.t 48), none, [4]⟩,
                 ⟨(some 50), .bin .shl (.t 47) (.t 49), none, [3, 5]⟩,
                 ⟨(some 51), .bin .or (.t 44) (.t 50), none, [0, 6]⟩,
                 ⟨(some 4), .mv (.t 51), none, [7, 0, 1, 2, 3, 4, 5, 6]⟩])
                (.block 2 (.seq (.seq (.region false [⟨(some 53), .mv (.t 6), none, []⟩,
                    ⟨(some 54), .bin .eql (.t 53) (.k (.d (.int .i64 9))), none, [0]⟩,
                    ⟨(some 55), .mv (.t 54), none, [1]⟩,
                    ⟨(some 56), .mv (.t 7), (some (55, true)), [2]⟩,
                    ⟨(some 57), .bin .gtr (.t 56) (.k (.d (.int .u8 1))), (some (55, true)), [3, 2]⟩,
                    ⟨(some 58), .pick (.t 55) (.t 57) (.k (.d (.bool false))), none, [2, 4]⟩,
                    ⟨(some 52), .mv (.t 58), none, [5, 2]⟩])
                   (.cond (.t 52) (.skip)
                    (.region false [⟨(some 59), .mv (.t 6), none, []⟩,
                     ⟨(some 60), .bin .gtr (.t 59) (.k (.d (.int .i64 0))), none, [0]⟩,
                     ⟨(some 61), .mv (.t 60), none, [1]⟩,
                     ⟨(some 62), .mv (.t 7), (some (61, true)), [2]⟩,
                     ⟨(some 63), .bin .eql (.t 62) (.k (.d (.int .u8 0))), (some (61, true)), [3, 2]⟩,
                     ⟨(some 64), .pick (.t 61) (.t 63) (.k (.d (.bool false))), none, [2, 4]⟩,
                     ⟨(some 52), .mv (.t 64), none, [5, 2]⟩])))
                  (.cond (.t 52) (.seq (.region false [⟨(some 5), .mv (.k (.d (.int .i64 4))), none, []⟩])
                    (.exit 0))
                   (.seq (.region false [⟨(some 66), .mv (.t 7), none, []⟩,
                     ⟨(some 67), .bin .lss (.t 66) (.k (.d (.int .u8 128))), none, [0]⟩,
                     ⟨(some 65), .mv (.t 67), none, [1]⟩])
                    (.cond (.t 65) (.seq (.region false [⟨(some 68), .mv (.t 4), none, []⟩,
                       ⟨(some 2), .mv (.t 68), none, [0]⟩])
                      .ret)
                     (.skip))))))))))
            (.region false [⟨(some 25), .mv (.t 6), none, []⟩,
             ⟨(some 26), .bin .add (.t 25) (.k (.d (.int .i64 1))), none, [0]⟩,
             ⟨(some 6), .mv (.t 26), none, [1, 0]⟩]))))))
       (.seq (.region false [⟨(some 69), .mv (.t 0), none, []⟩,
         ⟨(some 70), .mv (.t 3), none, []⟩,
         ⟨(some 71), .mv (.t 5), none, []⟩,
         ⟨(some 72), .call (.k (.d (.fn (N 85)))) [(.t 69), (.t 70), (.t 71)], none, [0, 1, 2]⟩])
        (.seq (.region false [⟨(some 2), .mv (.k (.d (.int .u64 0))), none, []⟩])
         .ret)))))))) }
def HC39 (P : Program) (N : Nat → Nat) : Prop := HasF P (N 39) (C39 N) ∧ HC84 P N ∧ HC85 P N
def f39_j143 (k : Nat) (a0 : (List UInt8)) (a2 : Int) (a1 : Int) (j143_1 : Int) (j143_2 : Int) : Option (Int × Int × Int) := (f85 k a0 j143_2 a2 a1 j143_1).bind fun r149 => some ((0 : Int), a1, j143_1)
def f39_j118 (L : Int → Int → Int → Option (LR2 (Int × Int) Unit (Int × Int × Int))) (k : Nat) (y37_3 : Int) (a0 : (List UInt8)) (y37_1 : Int) (y37_2 : Int) (a2 : Int) (j118_1 : Bool) : Option (LR2 (Int × Int) Unit (Int × Int × Int)) := cond j118_1 (some (.b0 ((4 : Int), (IntKind.i64.wrap (y37_3 + (1 : Int)))))) (cond (decide ((((rd a0 y37_3).toNat : Nat) : Int) < (128 : Int))) (some (.r ((bitsA .or .u64 y37_1 (IntKind.u64.wrap ((IntKind.u64.wrap (((u8 (bitsA .and .u8 (((rd a0 y37_3).toNat : Nat) : Int) (127 : Int))).toNat : Nat) : Int)) * 2 ^ (min ((IntKind.i64.wrap ((7 : Int) * y37_2))).toNat IntKind.u64.bits)))), (IntKind.i64.wrap (y37_3 + (1 : Int))), a2))) (L (bitsA .or .u64 y37_1 (IntKind.u64.wrap ((IntKind.u64.wrap (((u8 (bitsA .and .u8 (((rd a0 y37_3).toNat : Nat) : Int) (127 : Int))).toNat : Nat) : Int)) * 2 ^ (min ((IntKind.i64.wrap ((7 : Int) * y37_2))).toNat IntKind.u64.bits)))) (IntKind.i64.wrap (y37_2 + (1 : Int))) (IntKind.i64.wrap (y37_3 + (1 : Int)))))
def f39_j107 (L : Int → Int → Int → Option (LR2 (Int × Int) Unit (Int × Int × Int))) (k : Nat) (y37_3 : Int) (a0 : (List UInt8)) (y37_1 : Int) (y37_2 : Int) (a2 : Int) (j107_1 : Bool) : Option (LR2 (Int × Int) Unit (Int × Int × Int)) := cond j107_1 (f39_j118 (L) k y37_3 a0 y37_1 y37_2 a2 j107_1) (cond (decide (y37_2 > (0 : Int))) (f39_j118 (L) k y37_3 a0 y37_1 y37_2 a2 (decide ((((rd a0 y37_3).toNat : Nat) : Int) = (0 : Int)))) (f39_j118 (L) k y37_3 a0 y37_1 y37_2 a2 false))
def f39_l37 (a0 : (List UInt8)) (a2 : Int) : Nat → Int → Int → Int → Option (LR2 (Int × Int) Unit (Int × Int × Int))
  | 0, _, _, _ => none
  | k + 1, y37_1, y37_2, y37_3 => cond (decide (y37_3 < ((a0.length : Nat) : Int))) (gd (0 ≤ y37_3 ∧ y37_3 < ((a0.length : Nat) : Int)) (gd (0 ≤ (IntKind.i64.wrap ((7 : Int) * y37_2))) (cond (decide (y37_2 = (9 : Int))) (f39_j107 (f39_l37 a0 a2 k) k y37_3 a0 y37_1 y37_2 a2 (decide ((((rd a0 y37_3).toNat : Nat) : Int) > (1 : Int)))) (f39_j107 (f39_l37 a0 a2 k) k y37_3 a0 y37_1 y37_2 a2 false)))) (some (.b0 ((3 : Int), y37_3)))
def f39 (k : Nat) (a0 : (List UInt8)) (a1 : Int) (a2 : Int) : Option (Int × Int × Int) := (f84 k a0 a1 a2).bind fun r11 => cond (!(decide (a2 = (0 : Int)))) (some ((0 : Int), a1, a2)) ((f39_l37 a0 a2 k (0 : Int) (0 : Int) a1).bind fun o37 => (match o37 with | .b0 (x37_1, x37_2) => f39_j143 k a0 a2 a1 x37_1 x37_2 | .r x => some x | _ => none))
theorem F39 {P : Program} {N : Nat → Nat} (hmix : P.follows .mixedOrders = true) (hc : HC39 P N) {k : Nat} {a0 : (List UInt8)} {a1 : Int} {a2 : Int} {r : (Int × Int × Int)} (h : f39 k a0 a1 a2 = some r) :
    ACalls P (N 39) [(.ptr 0 0)] [(0, (.cells [(.d (.sl (List.map byteD a0))), (.d (.int .i64 a1)), (.d (.int .i64 a2))]))] (.d (.int .u64 r.1)) [(0, (.cells [(.d (.sl (List.map byteD a0))), (.d (.int .i64 r.2.1)), (.d (.int .i64 r.2.2))]))] := by
  refine acalls_canon (F := C39 N) hc.1 1 1 rfl ?_
  unfold f39 at h
  dsimp only [C39, startL]
  refine AWc.seq ?_
  refine AWc.rE hmix [] ?_
  refine AWc.scope ?_
  refine AWc.seq ?_
  refine AWc.seq ?_
  obtain ⟨r11, e11, h⟩ := bind_some h
  refine AWc.rE hmix [.cq (F84 hmix hc.2.1 e11) [] 1] ?_
  rcases cc h with ⟨c13, h⟩ | ⟨c13, h⟩
  · refine AWc.cT c13 ?_
    refine AWc.seq ?_
    refine AWc.rE hmix [] ?_
    have hr := Option.some.inj h
    subst hr
    exact AWc.ret (canQ (N := 73) (k := 1) (l' := [(2, (.d (.int .u64 (0 : Int))))]) (H' := [(0, (.cells [(.d (.sl (List.map byteD a0))), (.d (.int .i64 a1)), (.d (.int .i64 a2))]))]) rfl (inT [] []) (doneA (.inr rfl) rfl ⟨trivial, trivial⟩ (.refl _) (hasCons rfl hasNil)))
  · refine AWc.cF c13 ?_
    refine AWc.skip ?_
    refine AWc.seq ?_
    refine AWc.rE hmix [] ?_
    refine AWc.seq ?_
    refine AWc.label ?_
    refine AWc.seqS (N := 73) 1 (fun (z : (Int × Int)) => [(0, (.ptr 0 0)), (3, (.d (.int .i64 a1))), (5, (.d (.int .i64 z.1)))]) (fun z => [(0, (.cells [(.d (.sl (List.map byteD a0))), (.d (.int .i64 z.2)), (.d (.int .i64 a2))]))]) (fun z => f39_j143 k a0 a2 a1 z.1 z.2 = some r) rfl_le ?_ ?_
    · refine AWc.seq ?_
      refine AWc.rE hmix [] ?_
      obtain ⟨o37, h37, h⟩ := bind_some h
      refine AWc.block ?_
      refine AWc.loopK (N := 73) 1 (fun (x : (Int × Int × Int)) => [(0, (.ptr 0 0)), (3, (.d (.int .i64 a1))), (4, (.d (.int .u64 x.1))), (5, (.d (.int .i64 (3 : Int)))), (6, (.d (.int .i64 x.2.1)))]) (fun x => [(0, (.cells [(.d (.sl (List.map byteD a0))), (.d (.int .i64 x.2.2)), (.d (.int .i64 a2))]))]) (fun k x => f39_l37 a0 a2 k x.1 x.2.1 x.2.2 = some o37) k ((0 : Int), (0 : Int), a1) rfl_le (fun x hx => by cases hx) h37 (inT [] []) ?_
      clear h37
      intro k
      rintro ⟨y37_1, y37_2, y37_3⟩ h37
      dsimp only at h37 ⊢
      rw [f39_l37] at h37
      refine AWc.seq ?_
      refine AWc.seq ?_
      refine AWc.rE hmix [.ln byteD a0] ?_
      rcases cc h37 with ⟨c53, h37⟩ | ⟨c53, h37⟩
      · refine AWc.cT c53 ?_
        refine AWc.skip ?_
        refine AWc.seq ?_
        refine AWc.block ?_
        refine AWc.seq ?_
        obtain ⟨b69, h37⟩ := gd_some h37
        refine AWc.rE hmix [.iad byteD a0 1 (fun _ => rfl) b69] ?_
        refine AWc.seq ?_
        refine AWc.rE hmix [] ?_
        refine AWc.seq ?_
        obtain ⟨b92, h37⟩ := gd_some h37
        refine AWc.rE hmix [.sd b92] ?_
        refine AWc.block ?_
        refine AWc.seqS (N := 73) 1 (fun (z : Bool) => [(0, (.ptr 0 0)), (3, (.d (.int .i64 a1))), (4, (.d (.int .u64 (bitsA .or .u64 y37_1 (IntKind.u64.wrap ((IntKind.u64.wrap (((u8 (bitsA .and .u8 (((rd a0 y37_3).toNat : Nat) : Int) (127 : Int))).toNat : Nat) : Int)) * 2 ^ (min ((IntKind.i64.wrap ((7 : Int) * y37_2))).toNat IntKind.u64.bits))))))), (5, (.d (.int .i64 (3 : Int)))), (6, (.d (.int .i64 y37_2))), (7, (.d (.int .u8 (((rd a0 y37_3).toNat : Nat) : Int)))), (52, (.d (.bool z))), (56, .any), (57, .any)]) (fun z => [(0, (.cells [(.d (.sl (List.map byteD a0))), (.d (.int .i64 (IntKind.i64.wrap (y37_3 + (1 : Int))))), (.d (.int .i64 a2))]))]) (fun z => f39_j118 (f39_l37 a0 a2 k) k y37_3 a0 y37_1 y37_2 a2 z = some o37) rfl_le ?_ ?_
        · refine AWc.seqS (N := 73) 1 (fun (z : Bool) => [(0, (.ptr 0 0)), (3, (.d (.int .i64 a1))), (4, (.d (.int .u64 (bitsA .or .u64 y37_1 (IntKind.u64.wrap ((IntKind.u64.wrap (((u8 (bitsA .and .u8 (((rd a0 y37_3).toNat : Nat) : Int) (127 : Int))).toNat : Nat) : Int)) * 2 ^ (min ((IntKind.i64.wrap ((7 : Int) * y37_2))).toNat IntKind.u64.bits))))))), (5, (.d (.int .i64 (3 : Int)))), (6, (.d (.int .i64 y37_2))), (7, (.d (.int .u8 (((rd a0 y37_3).toNat : Nat) : Int)))), (52, (.d (.bool z))), (56, .any), (57, .any)]) (fun z => [(0, (.cells [(.d (.sl (List.map byteD a0))), (.d (.int .i64 (IntKind.i64.wrap (y37_3 + (1 : Int))))), (.d (.int .i64 a2))]))]) (fun z => f39_j107 (f39_l37 a0 a2 k) k y37_3 a0 y37_1 y37_2 a2 z = some o37) rfl_le ?_ ?_
          · rcases cc h37 with ⟨c102, h37⟩ | ⟨c102, h37⟩
            · refine AWc.rE hmix [.br c102] ?_
              exact ⟨(decide ((((rd a0 y37_3).toNat : Nat) : Int) > (1 : Int))), h37, (inT [] [])⟩
            · refine AWc.rE hmix [.br c102] ?_
              exact ⟨false, h37, (inT [] [])⟩
          · intro j107_1 h37
            unfold f39_j107 at h37
            rcases cc h37 with ⟨c107, h37⟩ | ⟨c107, h37⟩
            · refine AWc.cT c107 ?_
              refine AWc.skip ?_
              exact ⟨j107_1, h37, (inT [] [])⟩
            · refine AWc.cF c107 ?_
              rcases cc h37 with ⟨c113, h37⟩ | ⟨c113, h37⟩
              · refine AWc.rE hmix [.br c113] ?_
                exact ⟨(decide ((((rd a0 y37_3).toNat : Nat) : Int) = (0 : Int))), h37, (inT [] [])⟩
              · refine AWc.rE hmix [.br c113] ?_
                exact ⟨false, h37, (inT [] [])⟩
        · intro j118_1 h37
          unfold f39_j118 at h37
          rcases cc h37 with ⟨c118, h37⟩ | ⟨c118, h37⟩
          · refine AWc.cT c118 ?_
            refine AWc.seq ?_
            refine AWc.rE hmix [] ?_
            cases h37
            dsimp only at h
            refine AWc.exit ?_
            refine inBlk_ne rfl ?_
            refine inBlk_ne rfl ?_
            refine inBlk_eq ?_
            exact ⟨((4 : Int), (IntKind.i64.wrap (y37_3 + (1 : Int)))), h, (inT [] [])⟩
          · refine AWc.cF c118 ?_
            refine AWc.seq ?_
            refine AWc.rE hmix [] ?_
            rcases cc h37 with ⟨c130, h37⟩ | ⟨c130, h37⟩
            · refine AWc.cT c130 ?_
              refine AWc.seq ?_
              refine AWc.rE hmix [] ?_
              cases h37
              dsimp only at h
              have hr := Option.some.inj h
              subst hr
              exact AWc.ret (canQ (N := 73) (k := 1) (l' := [(2, (.d (.int .u64 (bitsA .or .u64 y37_1 (IntKind.u64.wrap ((IntKind.u64.wrap (((u8 (bitsA .and .u8 (((rd a0 y37_3).toNat : Nat) : Int) (127 : Int))).toNat : Nat) : Int)) * 2 ^ (min ((IntKind.i64.wrap ((7 : Int) * y37_2))).toNat IntKind.u64.bits)))))))]) (H' := [(0, (.cells [(.d (.sl (List.map byteD a0))), (.d (.int .i64 (IntKind.i64.wrap (y37_3 + (1 : Int))))), (.d (.int .i64 a2))]))]) rfl (inT [] []) (doneA (.inr rfl) rfl ⟨trivial, trivial⟩ (.refl _) (hasCons rfl hasNil)))
            · refine AWc.cF c130 ?_
              refine AWc.skip ?_
              refine AWc.rE hmix [] ?_
              exact ⟨((bitsA .or .u64 y37_1 (IntKind.u64.wrap ((IntKind.u64.wrap (((u8 (bitsA .and .u8 (((rd a0 y37_3).toNat : Nat) : Int) (127 : Int))).toNat : Nat) : Int)) * 2 ^ (min ((IntKind.i64.wrap ((7 : Int) * y37_2))).toNat IntKind.u64.bits)))), (IntKind.i64.wrap (y37_2 + (1 : Int))), (IntKind.i64.wrap (y37_3 + (1 : Int)))), h37, (inT [] [])⟩
      · refine AWc.cF c53 ?_
        cases h37
        dsimp only at h
        refine AWc.exit ?_
        refine inBlk_eq ?_
        exact ⟨((3 : Int), y37_3), h, (inT [] [])⟩
    · rintro ⟨j143_1, j143_2⟩ h
      dsimp only at h ⊢
      unfold f39_j143 at h
      refine AWc.seq ?_
      obtain ⟨r149, e149, h⟩ := bind_some h
      refine AWc.rE hmix [.call (F85 hmix hc.2.2 e149) [] 1] ?_
      refine AWc.seq ?_
      refine AWc.rE hmix [] ?_
      have hr := Option.some.inj h
      subst hr
      exact AWc.ret (canQ (N := 73) (k := 1) (l' := [(2, (.d (.int .u64 (0 : Int))))]) (H' := [(0, (.cells [(.d (.sl (List.map byteD a0))), (.d (.int .i64 a1)), (.d (.int .i64 j143_1))]))]) rfl (inT [] []) (doneA (.inr rfl) rfl ⟨trivial, trivial⟩ (.refl _) (hasCons rfl hasNil)))
/-- courant/code.unfold -/
def C88 (N : Nat → Nat) : AFunc := { n := 11, params := 1, res := [.tmp 2], body :=
 (.seq (.region false [⟨(some 2), .mv (.k (.d (.int .i64 0))), none, []⟩])
  (.seq (.region false [⟨(some 3), .mv (.t 0), none, []⟩,
    ⟨(some 4), .bin .shr (.t 3) (.k (.d (.int .u64 1))), none, [0]⟩,
    ⟨(some 5), .cvi .i64 (.t 4), none, [1]⟩,
    ⟨(some 6), .mv (.t 0), none, []⟩,
    ⟨(some 7), .bin .and (.t 6) (.k (.d (.int .u64 1))), none, [3]⟩,
    ⟨(some 8), .cvi .i64 (.t 7), none, [4]⟩,
    ⟨(some 9), .un .neg (.t 8), none, [5]⟩,
    ⟨(some 10), .bin .xor (.t 5) (.t 9), none, [2, 6]⟩,
    ⟨(some 2), .mv (.t 10), none, [7, 0, 1, 2, 3, 4, 5, 6]⟩])
   .ret)) }
def HC88 (P : Program) (N : Nat → Nat) : Prop := HasF P (N 88) (C88 N)
def f88 (k : Nat) (a0 : Int) : Option Unit := some ()
theorem F88 {P : Program} {N : Nat → Nat} (hmix : P.follows .mixedOrders = true) (hc : HC88 P N) {k : Nat} {a0 : Int} {r : Unit} (h : f88 k a0 = some r) :
    ACalls P (N 88) [(.d (.int .u64 a0))] [] (.d (.int .i64 (bitsA .xor .i64 (IntKind.i64.wrap (Int.fdiv a0 (2 ^ (min ((1 : Int)).toNat IntKind.u64.bits)))) (IntKind.i64.wrap (0 - (IntKind.i64.wrap (bitsA .and .u64 a0 (1 : Int)))))))) [] := by
  refine acalls_canon (F := C88 N) hc 0 0 rfl ?_
  unfold f88 at h
  dsimp only [C88, startL]
  refine AWc.seq ?_
  refine AWc.rE hmix [] ?_
  refine AWc.seq ?_
  refine AWc.rE hmix [.sd (p := 0 ≤ (1 : Int)) (by decide)] ?_
  have hr := Option.some.inj h
  subst hr
  exact AWc.ret (canQ (N := 11) (k := 0) (l' := [(2, (.d (.int .i64 (bitsA .xor .i64 (IntKind.i64.wrap (Int.fdiv a0 (2 ^ (min ((1 : Int)).toNat IntKind.u64.bits)))) (IntKind.i64.wrap (0 - (IntKind.i64.wrap (bitsA .and .u64 a0 (1 : Int)))))))))]) (H' := []) rfl (inT [] []) (doneA (.inr rfl) rfl ⟨trivial, trivial⟩ (.refl _) hasNil))
/-- (*courant/code.Reader).Zig -/
def C40 (N : Nat → Nat) : AFunc := { n := 6, params := 1, res := [.tmp 2], body :=
 (.seq (.region false [⟨(some 2), .mv (.k (.d (.int .i64 0))), none, []⟩])
  (.seq (.region false [⟨(some 3), .mv (.t 0), none, []⟩,
    ⟨(some 4), .call (.k (.d (.fn (N 39)))) [(.t 3)], none, [0]⟩,
    ⟨(some 5), .call (.k (.d (.fn (N 88)))) [(.t 4)], none, [1]⟩,
    ⟨(some 2), .mv (.t 5), none, [2, 0, 1]⟩])
   .ret)) }
def HC40 (P : Program) (N : Nat → Nat) : Prop := HasF P (N 40) (C40 N) ∧ HC39 P N ∧ HC88 P N
def f40 (k : Nat) (a0 : (List UInt8)) (a1 : Int) (a2 : Int) : Option (Int × Int × Int) := (f39 k a0 a1 a2).bind fun r9 => (f88 k r9.1).bind fun r10 => some ((bitsA .xor .i64 (IntKind.i64.wrap (Int.fdiv r9.1 (2 ^ (min ((1 : Int)).toNat IntKind.u64.bits)))) (IntKind.i64.wrap (0 - (IntKind.i64.wrap (bitsA .and .u64 r9.1 (1 : Int)))))), r9.2.1, r9.2.2)
theorem F40 {P : Program} {N : Nat → Nat} (hmix : P.follows .mixedOrders = true) (hc : HC40 P N) {k : Nat} {a0 : (List UInt8)} {a1 : Int} {a2 : Int} {r : (Int × Int × Int)} (h : f40 k a0 a1 a2 = some r) :
    ACalls P (N 40) [(.ptr 0 0)] [(0, (.cells [(.d (.sl (List.map byteD a0))), (.d (.int .i64 a1)), (.d (.int .i64 a2))]))] (.d (.int .i64 r.1)) [(0, (.cells [(.d (.sl (List.map byteD a0))), (.d (.int .i64 r.2.1)), (.d (.int .i64 r.2.2))]))] := by
  refine acalls_canon (F := C40 N) hc.1 1 1 rfl ?_
  unfold f40 at h
  dsimp only [C40, startL]
  refine AWc.seq ?_
  refine AWc.rE hmix [] ?_
  refine AWc.seq ?_
  obtain ⟨r9, e9, h⟩ := bind_some h
  obtain ⟨r10, e10, h⟩ := bind_some h
  refine AWc.rE hmix [.call (F39 hmix hc.2.1 e9) [] 1, .call (F88 hmix hc.2.2 e10) [] 0] ?_
  have hr := Option.some.inj h
  subst hr
  exact AWc.ret (canQ (N := 6) (k := 1) (l' := [(2, (.d (.int .i64 (bitsA .xor .i64 (IntKind.i64.wrap (Int.fdiv r9.1 (2 ^ (min ((1 : Int)).toNat IntKind.u64.bits)))) (IntKind.i64.wrap (0 - (IntKind.i64.wrap (bitsA .and .u64 r9.1 (1 : Int)))))))))]) (H' := [(0, (.cells [(.d (.sl (List.map byteD a0))), (.d (.int .i64 r9.2.1)), (.d (.int .i64 r9.2.2))]))]) rfl (inT [] []) (doneA (.inr rfl) rfl ⟨trivial, trivial⟩ (.refl _) (hasCons rfl hasNil)))
end Go.Proofs.Abs
