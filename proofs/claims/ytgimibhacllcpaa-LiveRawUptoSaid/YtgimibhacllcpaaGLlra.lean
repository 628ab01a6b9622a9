/- Written by gen.py: functions of the program as Lean functions, and that the code comes to them. -/
import Derived.Test.YtgimibhacllcpaaAbsxe
set_option linter.unusedVariables false
set_option linter.unusedSimpArgs false
set_option maxRecDepth 100000
set_option maxHeartbeats 4000000
namespace Go.Proofs.Abs
open Go
structure TField where
  fName : (List UInt8)
  fAliases : (List (List UInt8))
  fType : Int
  fHas : Bool
  fDefault : (List UInt8)
instance : Inhabited TField := ⟨⟨default, default, default, default, default⟩⟩
instance : DecidableEq TField := fun a b => decidable_of_iff (a.fName = b.fName ∧ a.fAliases = b.fAliases ∧ a.fType = b.fType ∧ a.fHas = b.fHas ∧ a.fDefault = b.fDefault ∧ True) ⟨fun h => by cases a; cases b; simp_all, fun h => by subst h; simp⟩
def TField.enc (x : TField) : D := .agg [.str x.fName, .sl (List.map D.str x.fAliases), .int .i64 x.fType, .bool x.fHas, .str x.fDefault]
theorem TField.ok : EncOK TField.enc 5 true := ⟨fun _ => rfl, fun _ c hc => by simp only [TField.enc, D.cells, List.mem_cons, List.not_mem_nil, or_false] at hc; rcases hc with rfl | rfl | rfl | rfl | rfl <;> rfl, fun _ => rfl⟩
def TField.wf (x : TField) : Prop := True ∧ (∀ e0 ∈ x.fAliases, True) ∧ (-9223372036854775808 ≤ x.fType ∧ x.fType ≤ 9223372036854775807) ∧ True ∧ True ∧ True
def TField.sz (x : TField) : Nat := ((x.fName.length + 1) + (((x.fAliases.map (fun x => (x.length + 1))).sum + 1) + (1 + (1 + ((x.fDefault.length + 1) + 0))))) + 1
structure TNode where
  fKind : Int
  fName : (List UInt8)
  fAliases : (List (List UInt8))
  fFields : (List TField)
  fSymbols : (List (List UInt8))
  fHas : Bool
  fDefault : (List UInt8)
  fItems : Int
  fBranches : (List Int)
  fSize : Int
instance : Inhabited TNode := ⟨⟨default, default, default, default, default, default, default, default, default, default⟩⟩
instance : DecidableEq TNode := fun a b => decidable_of_iff (a.fKind = b.fKind ∧ a.fName = b.fName ∧ a.fAliases = b.fAliases ∧ a.fFields = b.fFields ∧ a.fSymbols = b.fSymbols ∧ a.fHas = b.fHas ∧ a.fDefault = b.fDefault ∧ a.fItems = b.fItems ∧ a.fBranches = b.fBranches ∧ a.fSize = b.fSize ∧ True) ⟨fun h => by cases a; cases b; simp_all, fun h => by subst h; simp⟩
def TNode.enc (x : TNode) : D := .agg [.int .i64 x.fKind, .str x.fName, .sl (List.map D.str x.fAliases), .sl (List.map TField.enc x.fFields), .sl (List.map D.str x.fSymbols), .bool x.fHas, .str x.fDefault, .int .i64 x.fItems, .sl (List.map (D.int .i64) x.fBranches), .int .i64 x.fSize]
theorem TNode.ok : EncOK TNode.enc 10 true := ⟨fun _ => rfl, fun _ c hc => by simp only [TNode.enc, D.cells, List.mem_cons, List.not_mem_nil, or_false] at hc; rcases hc with rfl | rfl | rfl | rfl | rfl | rfl | rfl | rfl | rfl | rfl <;> rfl, fun _ => rfl⟩
def TNode.wf (x : TNode) : Prop := (-9223372036854775808 ≤ x.fKind ∧ x.fKind ≤ 9223372036854775807) ∧ True ∧ (∀ e0 ∈ x.fAliases, True) ∧ (∀ e0 ∈ x.fFields, TField.wf e0) ∧ (∀ e0 ∈ x.fSymbols, True) ∧ True ∧ True ∧ (-9223372036854775808 ≤ x.fItems ∧ x.fItems ≤ 9223372036854775807) ∧ (∀ e0 ∈ x.fBranches, (-9223372036854775808 ≤ e0 ∧ e0 ≤ 9223372036854775807)) ∧ (-9223372036854775808 ≤ x.fSize ∧ x.fSize ≤ 9223372036854775807) ∧ True
def TNode.sz (x : TNode) : Nat := (1 + ((x.fName.length + 1) + (((x.fAliases.map (fun x => (x.length + 1))).sum + 1) + (((x.fFields.map TField.sz).sum + 1) + (((x.fSymbols.map (fun x => (x.length + 1))).sum + 1) + (1 + ((x.fDefault.length + 1) + (1 + (((x.fBranches.map (fun _ => 1)).sum + 1) + (1 + 0)))))))))) + 1
structure TSchema where
  fNodes : (List TNode)
instance : Inhabited TSchema := ⟨⟨default⟩⟩
instance : DecidableEq TSchema := fun a b => decidable_of_iff (a.fNodes = b.fNodes ∧ True) ⟨fun h => by cases a; cases b; simp_all, fun h => by subst h; simp⟩
def TSchema.enc (x : TSchema) : D := .agg [.sl (List.map TNode.enc x.fNodes)]
theorem TSchema.ok : EncOK TSchema.enc 1 true := ⟨fun _ => rfl, fun _ c hc => by simp only [TSchema.enc, D.cells, List.mem_cons, List.not_mem_nil, or_false] at hc; rcases hc with rfl <;> rfl, fun _ => rfl⟩
def TSchema.wf (x : TSchema) : Prop := (∀ e0 ∈ x.fNodes, TNode.wf e0) ∧ True
def TSchema.sz (x : TSchema) : Nat := (((x.fNodes.map TNode.sz).sum + 1) + 0) + 1
structure TValue where
  fKind : Int
  fN : Int
  fB : (List UInt8)
  fL : (List (RT 5))
  fKeys : (List (List UInt8))
instance : Inhabited TValue := ⟨⟨default, default, default, default, default⟩⟩
def TValue.enc (x : TValue) : D := .agg [.int .i64 x.fKind, .int .i64 x.fN, .sl (List.map byteD x.fB), .sl (List.map (rtE (z := 5)) x.fL), .sl (List.map D.str x.fKeys)]
theorem TValue.ok : EncOK TValue.enc 5 true := ⟨fun _ => rfl, fun _ c hc => by simp only [TValue.enc, D.cells, List.mem_cons, List.not_mem_nil, or_false] at hc; rcases hc with rfl | rfl | rfl | rfl | rfl <;> rfl, fun _ => rfl⟩
def TValue.dec : D → Option TValue
  | .agg [c0, c1, c2, c3, c4] => ((decI .i64) c0).bind fun x0 => ((decI .i64) c1).bind fun x1 => ((decL decY) c2).bind fun x2 => ((decL (decR 5)) c3).bind fun x3 => ((decL decS) c4).bind fun x4 => some ⟨x0, x1, x2, x3, x4⟩
  | _ => none
theorem TValue.dec_eq {d : D} {x : TValue} (h : TValue.dec d = some x) : d = TValue.enc x := by
  unfold TValue.dec at h
  split at h
  · obtain ⟨x0, e0, h⟩ := bind_some h
    obtain ⟨x1, e1, h⟩ := bind_some h
    obtain ⟨x2, e2, h⟩ := bind_some h
    obtain ⟨x3, e3, h⟩ := bind_some h
    obtain ⟨x4, e4, h⟩ := bind_some h
    cases h
    have q0 := decI_eq e0
    subst q0
    have q1 := decI_eq e1
    subst q1
    have q2 := decL_eq (fun _ _ h => decY_eq h) e2
    subst q2
    have q3 := decL_eq decR_eq e3
    subst q3
    have q4 := decL_eq (fun _ _ h => decS_eq h) e4
    subst q4
    rfl
  · cases h
theorem TValue.dec_put (x : TValue) : TValue.dec (TValue.enc x) = some x := by
  unfold TValue.dec TValue.enc
  simp only [(decI_put .i64) x.fKind, (decI_put .i64) x.fN, (decL_put (e := byteD) decY_put) x.fB, (decL_put (e := (rtE (z := 5))) (decR_put (z := 5))) x.fL, (decL_put (e := D.str) (fun (b : List UInt8) => (rfl : decS (.str b) = some b))) x.fKeys, Option.bind_some]
theorem TValue.dec_of (x : TValue) : TValue.dec (rtE (RT.of TValue.ok x)) = some x := TValue.dec_put x
def TValue.wf (x : TValue) : Prop := (-9223372036854775808 ≤ x.fKind ∧ x.fKind ≤ 9223372036854775807) ∧ (-9223372036854775808 ≤ x.fN ∧ x.fN ≤ 9223372036854775807) ∧ (∀ e0 ∈ x.fB, True) ∧ True ∧ (∀ e0 ∈ x.fKeys, True) ∧ True
def TValue.sz (x : TValue) : Nat := (1 + (1 + (((x.fB.map (fun _ => 1)).sum + 1) + ((x.fL.length + 1) + (((x.fKeys.map (fun x => (x.length + 1))).sum + 1) + 0))))) + 1
/-- courant/live.rank$1 -/
def C305 (N : Nat → Nat) : AFunc := { n := 16, params := 2, res := [.tmp 3], body :=
 (.seq (.region false [⟨(some 3), .mv (.k (.d (.int .i64 0))), none, []⟩])
  (.seq (.seq (.region false [⟨(some 4), .mv (.t 0), none, []⟩,
     ⟨(some 5), .bin .lss (.t 4) (.k (.d (.int .i64 0))), none, [0]⟩,
     ⟨(some 6), .mv (.t 5), none, [1]⟩,
     ⟨(some 7), .mv (.t 0), (some (6, false)), [2]⟩,
     ⟨(some 8), .load (.t 1) 1 false, (some (6, false)), [2]⟩,
     ⟨(some 9), .len (.t 8), (some (6, false)), [4, 2]⟩,
     ⟨(some 10), .bin .geq (.t 7) (.t 9), (some (6, false)), [3, 5, 2]⟩,
     ⟨(some 11), .pick (.t 6) (.k (.d (.bool true))) (.t 10), none, [2, 6]⟩])
    (.cond (.t 11) (.seq (.region false [⟨(some 3), .mv (.k (.d (.int .i64 (-1)))), none, []⟩])
      .ret)
     (.skip)))
   (.seq (.region false [⟨(some 12), .load (.t 1) 1 false, none, []⟩,
     ⟨(some 13), .mv (.t 0), none, []⟩,
     ⟨(some 14), .iaddr (.t 12) (.t 13) 1, none, [0, 1]⟩,
     ⟨(some 15), .load (.t 14) 1 false, none, [2]⟩,
     ⟨(some 3), .mv (.t 15), none, [3, 0, 1, 2]⟩])
    .ret))) }
def HC305 (P : Program) (N : Nat → Nat) : Prop := HasF P (N 305) (C305 N)
def f305 (k : Nat) (a0 : Int) (a1 : (List Int)) : Option Int := cond (decide (a0 < (0 : Int))) (some (-1 : Int)) (cond (decide (a0 ≥ ((a1.length : Nat) : Int))) (some (-1 : Int)) (gd (0 ≤ a0 ∧ a0 < ((a1.length : Nat) : Int)) (some (rd a1 a0))))
theorem F305 {P : Program} {N : Nat → Nat} (hmix : P.follows .mixedOrders = true) (hc : HC305 P N) {k : Nat} {a0 : Int} {a1 : (List Int)} {r : Int} (h : f305 k a0 a1 = some r) :
    ACalls P (N 305) [(.d (.int .i64 a0)), (.ptr 0 0)] [(0, (.cells [(.d (.sl (List.map (D.int .i64) a1)))]))] (.d (.int .i64 r)) [(0, (.cells [(.d (.sl (List.map (D.int .i64) a1)))]))] := by
  refine acalls_canon (F := C305 N) hc 1 1 rfl ?_
  unfold f305 at h
  dsimp only [C305, startL]
  refine AWc.seq ?_
  refine AWc.rg hmix rfl rfl ?_
  refine RegV.p0 rfl rfl rfl ?_
  refine RegV.nil0 ?_
  refine AWc.seq ?_
  refine AWc.seq ?_
  refine AWc.rg hmix rfl rfl ?_
  refine RegV.p0 rfl rfl rfl ?_
  refine RegV.p0 (v := (.d (.bool (decide (a0 < (0 : Int)))))) rfl rfl rfl ?_
  refine RegV.p0 rfl rfl rfl ?_
  refine RegV.split (fun c11 => ?_) (fun c11 => ?_)
  · have h := cond_pos c11 h
    refine RegV.noS rfl rfl ?_
    refine RegV.noS rfl rfl ?_
    refine RegV.noS rfl rfl ?_
    refine RegV.noS rfl rfl ?_
    refine RegV.p0 rfl rfl rfl ?_
    refine RegV.nil0 ?_
    refine AWc.cond rfl (fun _ => ?_) (fun hc => by cases hc)
    refine AWc.seq ?_
    refine AWc.rg hmix rfl rfl ?_
    refine RegV.p0 rfl rfl rfl ?_
    refine RegV.nil0 ?_
    have hr := Option.some.inj h
    subst hr
    exact AWc.ret (canQ (N := 16) (k := 1) (l' := [(3, (.d (.int .i64 (-1 : Int))))]) (H' := [(0, (.cells [(.d (.sl (List.map (D.int .i64) a1)))]))]) rfl ⟨rfl, [], [], rfl, rfl, ⟨⟨_, rfl, (.refl _)⟩, rfl, trivial⟩, ⟨⟨_, rfl, (.refl _)⟩, rfl, rfl, trivial⟩⟩ (doneA (.inr rfl) rfl ⟨trivial, trivial⟩ (.refl _) (hasCons rfl hasNil)))
  · have h := cond_neg c11 h
    refine RegV.p0 rfl rfl rfl ?_
    refine RegV.ld (v := (.d (.sl (List.map (D.int .i64) a1)))) (H' := [(0, (.cells [(.d (.sl (List.map (D.int .i64) a1)))]))]) rfl rfl trivial rfl rfl rfl rfl rfl ?_
    refine RegV.len (xs := a1) (e := (D.int .i64)) rfl rfl rfl rfl ?_
    refine RegV.p0 (v := (.d (.bool (decide (a0 ≥ ((a1.length : Nat) : Int)))))) rfl rfl rfl ?_
    refine RegV.p0 rfl rfl rfl ?_
    refine RegV.nil0 ?_
    refine AWc.cond rfl (fun c17 => ?_) (fun c17 => ?_)
    · have h := cond_pos c17 h
      refine AWc.seq ?_
      refine AWc.rg hmix rfl rfl ?_
      refine RegV.p0 rfl rfl rfl ?_
      refine RegV.nil0 ?_
      have hr := Option.some.inj h
      subst hr
      exact AWc.ret (canQ (N := 16) (k := 1) (l' := [(3, (.d (.int .i64 (-1 : Int))))]) (H' := [(0, (.cells [(.d (.sl (List.map (D.int .i64) a1)))]))]) rfl ⟨rfl, [], [], rfl, rfl, ⟨⟨_, rfl, (.refl _)⟩, rfl, trivial⟩, ⟨⟨_, rfl, (.refl _)⟩, rfl, rfl, trivial⟩⟩ (doneA (.inr rfl) rfl ⟨trivial, trivial⟩ (.refl _) (hasCons rfl hasNil)))
    · have h := cond_neg c17 h
      refine AWc.skip ?_
      refine AWc.seq ?_
      refine AWc.rg hmix rfl rfl ?_
      refine RegV.ld (v := (.d (.sl (List.map (D.int .i64) a1)))) (H' := [(0, (.cells [(.d (.sl (List.map (D.int .i64) a1)))]))]) rfl rfl trivial rfl rfl rfl rfl rfl ?_
      refine RegV.p0 rfl rfl rfl ?_
      obtain ⟨b29, h⟩ := gd_some h
      refine RegV.iad (xs := a1) (e := (D.int .i64)) rfl rfl rfl rfl (fun _ => rfl) b29 rfl ?_
      refine RegV.p0 (v := (.d (.int .i64 (rd a1 a0)))) rfl rfl rfl ?_
      refine RegV.p0 rfl rfl rfl ?_
      refine RegV.nil0 ?_
      have hr := Option.some.inj h
      subst hr
      exact AWc.ret (canQ (N := 16) (k := 1) (l' := [(3, (.d (.int .i64 (rd a1 a0))))]) (H' := [(0, (.cells [(.d (.sl (List.map (D.int .i64) a1)))]))]) rfl ⟨rfl, [], [], rfl, rfl, ⟨⟨_, rfl, (.refl _)⟩, rfl, trivial⟩, ⟨⟨_, rfl, (.refl _)⟩, rfl, rfl, trivial⟩⟩ (doneA (.inr rfl) rfl ⟨trivial, trivial⟩ (.refl _) (hasCons rfl hasNil)))
/-- courant/live.rank -/
def C304 (N : Nat → Nat) : AFunc := { n := 75, params := 2, res := [.tmp 4], body :=
 (.seq (.region false [⟨(some 2), .box (.t 0), none, []⟩,
   ⟨(some 3), .box (.t 1), none, []⟩,
   ⟨(some 4), .mv (.k (.d (.int .i64 0))), none, []⟩])
  (.seq (.region false [⟨(some 14), .mkfn (N 305) [(.t 3)], none, []⟩,
    ⟨(some 5), .mv (.t 14), none, [0]⟩])
   (.seq (.seq (.region false [⟨(some 15), .faddr (.t 2) 0, none, []⟩,
      ⟨(some 16), .load (.t 15) 1 false, none, [0]⟩])
     (.block 0 (.seq (.region false [⟨(some 18), .bin .eql (.t 16) (.k (.d (.int .i64 9))), none, []⟩,
        ⟨(some 17), .mv (.t 18), none, [0]⟩])
       (.cond (.t 17) (.seq (.region false [⟨(some 6), .mv (.k (.d (.int .i64 0))), none, []⟩])
         (.seq (.seq (.region false [⟨(some 19), .faddr (.t 2) 3, none, []⟩,
            ⟨(some 20), .load (.t 19) 1 false, none, [0]⟩,
            ⟨(some 21), .len (.t 20), none, [1]⟩,
            ⟨(some 22), .mv (.k (.d (.int .i64 0))), none, []⟩])
           (.block 1 (.loop (.seq (.region false [⟨(some 23), .bin .lss (.t 22) (.t 21), none, []⟩])
              (.seq (.cond (.t 23) (.skip)
                (.exit 1))
               (.seq (.block 2 (.seq (.region false [⟨(some 24), .iaddr (.t 20) (.t 22) 5, none, []⟩,
                   ⟨(some 25), .load (.t 24) 5 true, none, [0]⟩,
                   ⟨(some 8), .alloc [(.str []), (.sl []), (.int .i64 0), (.bool false), (.str [])], none, []⟩,
                   ⟨none, .store (.t 8) (.t 25) 5, none, [2, 1, 0]⟩])
                  (.seq (.region false [⟨(some 26), .mv (.t 5), none, []⟩,
                    ⟨(some 27), .faddr (.t 8) 2, none, []⟩,
                    ⟨(some 28), .load (.t 27) 1 false, none, [1]⟩,
                    ⟨(some 29), .call (.t 26) [(.t 28)], none, [0, 2]⟩,
                    ⟨(some 9), .mv (.t 29), none, [3, 0, 1, 2]⟩])
                   (.seq (.seq (.region false [⟨(some 30), .mv (.t 9), none, []⟩,
                      ⟨(some 31), .bin .eql (.t 30) (.k (.d (.int .i64 (-1)))), none, [0]⟩])
                     (.cond (.t 31) (.seq (.region false [⟨(some 4), .mv (.k (.d (.int .i64 (-1)))), none, []⟩])
                       .ret)
                      (.skip)))
                    (.region false [⟨(some 32), .mv (.t 6), none, []⟩,
                     ⟨(some 33), .mv (.t 9), none, []⟩,
                     ⟨(some 34), .mm true [(.t 32), (.t 33)], none, [0, 1]⟩,
                     ⟨(some 6), .mv (.t 34), none, [2, 0, 1]⟩])))))
                (.region false [⟨(some 35), .bin .add (.t 22) (.k (.d (.int .i64 1))), none, []⟩,
                 ⟨(some 22), .mv (.t 35), none, [0]⟩])))))))
          (.seq (.region false [⟨(some 36), .mv (.t 6), none, []⟩,
            ⟨(some 37), .bin .add (.t 36) (.k (.d (.int .i64 1))), none, [0]⟩,
            ⟨(some 4), .mv (.t 37), none, [1, 0]⟩])
           .ret)))
        (.seq (.region false [⟨(some 39), .bin .eql (.t 16) (.k (.d (.int .i64 13))), none, []⟩,
          ⟨(some 38), .mv (.t 39), none, [0]⟩])
         (.cond (.t 38) (.seq (.region false [⟨(some 10), .mv (.k (.d (.int .i64 (-1)))), none, []⟩])
           (.seq (.seq (.region false [⟨(some 40), .faddr (.t 2) 8, none, []⟩,
              ⟨(some 41), .load (.t 40) 1 false, none, [0]⟩,
              ⟨(some 42), .len (.t 41), none, [1]⟩,
              ⟨(some 43), .mv (.k (.d (.int .i64 0))), none, []⟩])
             (.block 3 (.loop (.seq (.region false [⟨(some 44), .bin .lss (.t 43) (.t 42), none, []⟩])
                (.seq (.cond (.t 44) (.skip)
                  (.exit 3))
                 (.seq (.block 4 (.seq (.region false [⟨(some 45), .iaddr (.t 41) (.t 43) 1, none, []⟩,
                     ⟨(some 46), .load (.t 45) 1 false, none, [0]⟩,
                     ⟨(some 12), .mv (.t 46), none, [1, 0]⟩])
                    (.seq (.region false [⟨(some 47), .mv (.t 5), none, []⟩,
                      ⟨(some 48), .mv (.t 12), none, []⟩,
                      ⟨(some 49), .call (.t 47) [(.t 48)], none, [0, 1]⟩,
                      ⟨(some 13), .mv (.t 49), none, [2, 0, 1]⟩])
                     (.seq (.region false [⟨(some 50), .mv (.t 13), none, []⟩,
                       ⟨(some 51), .bin .neq (.t 50) (.k (.d (.int .i64 (-1)))), none, [0]⟩,
                       ⟨(some 52), .mv (.t 51), none, [1]⟩,
                       ⟨(some 53), .mv (.t 10), (some (52, true)), [2]⟩,
                       ⟨(some 54), .bin .eql (.t 53) (.k (.d (.int .i64 (-1)))), (some (52, true)), [3, 2]⟩,
                       ⟨(some 55), .mv (.t 54), (some (52, true)), [4, 2]⟩,
                       ⟨(some 56), .mv (.t 13), (some (55, false)), [5]⟩,
                       ⟨(some 57), .mv (.t 10), (some (55, false)), [5]⟩,
                       ⟨(some 58), .bin .lss (.t 56) (.t 57), (some (55, false)), [6, 7, 5]⟩,
                       ⟨(some 59), .pick (.t 55) (.k (.d (.bool true))) (.t 58), (some (52, true)), [5, 8, 2]⟩,
                       ⟨(some 60), .pick (.t 52) (.t 59) (.k (.d (.bool false))), none, [2, 9]⟩])
                      (.cond (.t 60) (.region false [⟨(some 61), .mv (.t 13), none, []⟩,
                        ⟨(some 10), .mv (.t 61), none, [0]⟩])
                       (.skip))))))
                  (.region false [⟨(some 62), .bin .add (.t 43) (.k (.d (.int .i64 1))), none, []⟩,
                   ⟨(some 43), .mv (.t 62), none, [0]⟩])))))))
            (.seq (.seq (.region false [⟨(some 63), .mv (.t 10), none, []⟩,
               ⟨(some 64), .bin .eql (.t 63) (.k (.d (.int .i64 (-1)))), none, [0]⟩])
              (.cond (.t 64) (.seq (.region false [⟨(some 4), .mv (.k (.d (.int .i64 (-1)))), none, []⟩])
                .ret)
               (.skip)))
             (.seq (.region false [⟨(some 65), .mv (.t 10), none, []⟩,
               ⟨(some 66), .bin .add (.t 65) (.k (.d (.int .i64 1))), none, [0]⟩,
               ⟨(some 4), .mv (.t 66), none, [1, 0]⟩])
              .ret))))
          (.skip)))))))
    (.seq (.seq (.region false [⟨(some 67), .faddr (.t 2) 0, none, []⟩,
       ⟨(some 68), .load (.t 67) 1 false, none, [0]⟩,
       ⟨(some 69), .bin .lss (.t 68) (.k (.d (.int .i64 1))), none, [1]⟩,
       ⟨(some 70), .mv (.t 69), none, [2]⟩,
       ⟨(some 71), .faddr (.t 2) 0, (some (70, false)), [3]⟩,
       ⟨(some 72), .load (.t 71) 1 false, (some (70, false)), [4, 3]⟩,
       ⟨(some 73), .bin .gtr (.t 72) (.k (.d (.int .i64 14))), (some (70, false)), [5, 3]⟩,
       ⟨(some 74), .pick (.t 70) (.k (.d (.bool true))) (.t 73), none, [3, 6]⟩])
      (.cond (.t 74) (.seq (.region false [⟨(some 4), .mv (.k (.d (.int .i64 (-1)))), none, []⟩])
        .ret)
       (.skip)))
     (.seq (.region false [⟨(some 4), .mv (.k (.d (.int .i64 0))), none, []⟩])
      .ret))))) }
def HC304 (P : Program) (N : Nat → Nat) : Prop := HasF P (N 304) (C304 N) ∧ HC305 P N
def f304_j87 (k : Nat) (j87_1 : Int) : Option Int := some (IntKind.i64.wrap (j87_1 + (1 : Int)))
def f304_l37 (a0 : TNode) (a1 : (List Int)) : Nat → Int → Int → Option (LR2 Int Unit Int)
  | 0, _, _ => none
  | k + 1, y37_1, y37_2 => cond (decide (y37_2 < ((a0.fFields.length : Nat) : Int))) (gd (0 ≤ y37_2 ∧ y37_2 < ((a0.fFields.length : Nat) : Int)) ((f305 k ((rd a0.fFields y37_2).fType) a1).bind fun r62 => cond (decide (r62 = (-1 : Int))) (some (.r (-1 : Int))) (f304_l37 a0 a1 k (max y37_1 r62) (IntKind.i64.wrap (y37_2 + (1 : Int)))))) (some (.b0 y37_1))
def f304_j161 (k : Nat) (j161_1 : Int) : Option Int := cond (decide (j161_1 = (-1 : Int))) (some (-1 : Int)) (some (IntKind.i64.wrap (j161_1 + (1 : Int))))
def f304_l112 (a0 : TNode) (a1 : (List Int)) : Nat → Int → Int → Option (LR2 Int Unit Int)
  | 0, _, _ => none
  | k + 1, y112_1, y112_2 => cond (decide (y112_2 < ((a0.fBranches.length : Nat) : Int))) (gd (0 ≤ y112_2 ∧ y112_2 < ((a0.fBranches.length : Nat) : Int)) ((f305 k (rd a0.fBranches y112_2) a1).bind fun r135 => cond (decide (r135 ≠ (-1 : Int))) (cond (decide (y112_1 = (-1 : Int))) (f304_l112 a0 a1 k r135 (IntKind.i64.wrap (y112_2 + (1 : Int)))) (cond (decide (r135 < y112_1)) (f304_l112 a0 a1 k r135 (IntKind.i64.wrap (y112_2 + (1 : Int)))) (f304_l112 a0 a1 k y112_1 (IntKind.i64.wrap (y112_2 + (1 : Int)))))) (f304_l112 a0 a1 k y112_1 (IntKind.i64.wrap (y112_2 + (1 : Int)))))) (some (.b0 y112_1))
def f304 (k : Nat) (a0 : TNode) (a1 : (List Int)) : Option Int := cond (decide (a0.fKind = (9 : Int))) ((f304_l37 a0 a1 k (0 : Int) (0 : Int)).bind fun o37 => match o37 with | .b0 x37_1 => f304_j87 k x37_1 | .r x => some x | _ => none) (cond (decide (a0.fKind = (13 : Int))) ((f304_l112 a0 a1 k (-1 : Int) (0 : Int)).bind fun o112 => match o112 with | .b0 x112_1 => f304_j161 k x112_1 | _ => none) (cond (decide (a0.fKind < (1 : Int))) (some (-1 : Int)) (cond (decide (a0.fKind > (14 : Int))) (some (-1 : Int)) (some (0 : Int)))))
theorem F304 {P : Program} {N : Nat → Nat} (hmix : P.follows .mixedOrders = true) (hc : HC304 P N) {k : Nat} {a0 : TNode} {a1 : (List Int)} {r : Int} (h : f304 k a0 a1 = some r) :
    ACalls P (N 304) [(.d (TNode.enc a0)), (.d (.sl (List.map (D.int .i64) a1)))] [] (.d (.int .i64 r)) [] := by
  refine acalls_canon (F := C304 N) hc.1 0 0 rfl ?_
  unfold f304 at h
  dsimp only [C304, startL]
  refine AWc.seq ?_
  refine AWc.rg hmix rfl rfl ?_
  refine RegV.evS (own := false) (v := (.ptr 0 0)) (H' := [(0, (.cells [(.d (.int .i64 a0.fKind)), (.d (.str a0.fName)), (.d (.sl (List.map D.str a0.fAliases))), (.d (.sl (List.map TField.enc a0.fFields))), (.d (.sl (List.map D.str a0.fSymbols))), (.d (.bool a0.fHas)), (.d (.str a0.fDefault)), (.d (.int .i64 a0.fItems)), (.d (.sl (List.map (D.int .i64) a0.fBranches))), (.d (.int .i64 a0.fSize))]))]) (c' := 1) rfl rfl trivial rfl rfl rfl rfl rfl rfl ?_
  refine RegV.evS (own := false) (v := (.ptr 1 0)) (H' := [(1, (.cells [(.d (.sl (List.map (D.int .i64) a1)))])), (0, (.cells [(.d (.int .i64 a0.fKind)), (.d (.str a0.fName)), (.d (.sl (List.map D.str a0.fAliases))), (.d (.sl (List.map TField.enc a0.fFields))), (.d (.sl (List.map D.str a0.fSymbols))), (.d (.bool a0.fHas)), (.d (.str a0.fDefault)), (.d (.int .i64 a0.fItems)), (.d (.sl (List.map (D.int .i64) a0.fBranches))), (.d (.int .i64 a0.fSize))]))]) (c' := 2) rfl rfl trivial rfl rfl rfl rfl rfl rfl ?_
  refine RegV.p0 rfl rfl rfl ?_
  refine RegV.nil0 ?_
  refine AWc.seq ?_
  refine AWc.rg hmix rfl rfl ?_
  refine RegV.p0 (v := (.fn (N 305) [(.ptr 1 0)])) rfl rfl rfl ?_
  refine RegV.p0 rfl rfl rfl ?_
  refine RegV.nil0 ?_
  refine AWc.seq ?_
  refine AWc.seq ?_
  refine AWc.rg hmix rfl rfl ?_
  refine RegV.p0 (v := (.ptr 0 0)) rfl rfl rfl ?_
  refine RegV.ld (v := (.d (.int .i64 a0.fKind))) (H' := [(0, (.cells [(.d (.int .i64 a0.fKind)), (.d (.str a0.fName)), (.d (.sl (List.map D.str a0.fAliases))), (.d (.sl (List.map TField.enc a0.fFields))), (.d (.sl (List.map D.str a0.fSymbols))), (.d (.bool a0.fHas)), (.d (.str a0.fDefault)), (.d (.int .i64 a0.fItems)), (.d (.sl (List.map (D.int .i64) a0.fBranches))), (.d (.int .i64 a0.fSize))])), (1, (.cells [(.d (.sl (List.map (D.int .i64) a1)))]))]) rfl rfl trivial rfl rfl rfl rfl rfl ?_
  refine RegV.nil0 ?_
  refine AWc.block ?_
  refine AWc.seq ?_
  refine AWc.rg hmix rfl rfl ?_
  refine RegV.p0 (v := (.d (.bool (decide (a0.fKind = (9 : Int)))))) rfl rfl rfl ?_
  refine RegV.p0 rfl rfl rfl ?_
  refine RegV.nil0 ?_
  refine AWc.cond rfl (fun c24 => ?_) (fun c24 => ?_)
  · have h := cond_pos c24 h
    refine AWc.seq ?_
    refine AWc.rg hmix rfl rfl ?_
    refine RegV.p0 rfl rfl rfl ?_
    refine RegV.nil0 ?_
    refine AWc.seqS (N := 75) 0 (fun (z : Int) => [(6, (.d (.int .i64 z)))]) (fun z => []) (fun z => f304_j87 k z = some r) rfl_le ?_ ?_
    · refine AWc.seq ?_
      refine AWc.rg hmix rfl rfl ?_
      refine RegV.p0 (v := (.ptr 0 3)) rfl rfl rfl ?_
      refine RegV.ld (v := (.d (.sl (List.map TField.enc a0.fFields)))) (H' := [(0, (.cells [(.d (.int .i64 a0.fKind)), (.d (.str a0.fName)), (.d (.sl (List.map D.str a0.fAliases))), (.d (.sl (List.map TField.enc a0.fFields))), (.d (.sl (List.map D.str a0.fSymbols))), (.d (.bool a0.fHas)), (.d (.str a0.fDefault)), (.d (.int .i64 a0.fItems)), (.d (.sl (List.map (D.int .i64) a0.fBranches))), (.d (.int .i64 a0.fSize))])), (1, (.cells [(.d (.sl (List.map (D.int .i64) a1)))]))]) rfl rfl trivial rfl rfl rfl rfl rfl ?_
      refine RegV.len (xs := a0.fFields) (e := TField.enc) rfl rfl rfl rfl ?_
      refine RegV.p0 rfl rfl rfl ?_
      refine RegV.nil0 ?_
      obtain ⟨o37, h37, h⟩ := bind_some h
      refine AWc.block ?_
      refine AWc.loopK (N := 75) 1 (fun (x : (Int × Int)) => [(5, (.fn (N 305) [(.ptr 0 0)])), (6, (.d (.int .i64 x.1))), (20, (.d (.sl (List.map TField.enc a0.fFields)))), (21, (.d (.int .i64 ((a0.fFields.length : Nat) : Int)))), (22, (.d (.int .i64 x.2)))]) (fun x => [(0, (.cells [(.d (.sl (List.map (D.int .i64) a1)))]))]) (fun k x => f304_l37 a0 a1 k x.1 x.2 = some o37) k ((0 : Int), (0 : Int)) rfl_le (fun x hx => by cases hx) h37 ⟨rfl, [], [(0, 1)], rfl, rfl, ⟨⟨_, rfl, (.refl _)⟩, rfl, ⟨⟨_, rfl, (.refl _)⟩, rfl, ⟨⟨_, rfl, (.refl _)⟩, rfl, ⟨⟨_, rfl, (.refl _)⟩, rfl, ⟨⟨_, rfl, (.refl _)⟩, rfl, trivial⟩⟩⟩⟩⟩, ⟨⟨_, rfl, (.refl _)⟩, rfl, rfl, trivial⟩⟩ ?_
      clear h37
      intro k
      rintro ⟨y37_1, y37_2⟩ h37
      dsimp only at h37 ⊢
      rw [f304_l37] at h37
      refine AWc.seq ?_
      refine AWc.rg hmix rfl rfl ?_
      refine RegV.p0 (v := (.d (.bool (decide (y37_2 < ((a0.fFields.length : Nat) : Int)))))) rfl rfl rfl ?_
      refine RegV.nil0 ?_
      refine AWc.seq ?_
      refine AWc.cond rfl (fun c44 => ?_) (fun c44 => ?_)
      · have h37 := cond_pos c44 h37
        refine AWc.skip ?_
        refine AWc.seq ?_
        refine AWc.block ?_
        refine AWc.seq ?_
        refine AWc.rg hmix rfl rfl ?_
        obtain ⟨b52, h37⟩ := gd_some h37
        refine RegV.iad (xs := a0.fFields) (e := TField.enc) rfl rfl rfl rfl (fun _ => rfl) b52 rfl ?_
        refine RegV.p1 (v := (.d (TField.enc (rd a0.fFields y37_2)))) rfl rfl rfl rfl rfl ?_
        refine RegV.evS (own := false) (v := (.ptr 1 0)) (H' := [(1, (.cells [(.d (.str ([] : List UInt8))), .nils, (.d (.int .i64 (0 : Int))), (.d (.bool false)), (.d (.str ([] : List UInt8)))])), (0, (.cells [(.d (.sl (List.map (D.int .i64) a1)))]))]) (c' := 2) rfl rfl trivial rfl rfl rfl rfl rfl rfl ?_
        refine RegV.evN (own := false) (H' := [(1, (.cells [(.d (.str (rd a0.fFields y37_2).fName)), (.d (.sl (List.map D.str (rd a0.fFields y37_2).fAliases))), (.d (.int .i64 (rd a0.fFields y37_2).fType)), (.d (.bool (rd a0.fFields y37_2).fHas)), (.d (.str (rd a0.fFields y37_2).fDefault))])), (0, (.cells [(.d (.sl (List.map (D.int .i64) a1)))]))]) (c' := 2) rfl rfl (by exact ⟨rfl, Nat.le_of_ble_eq_true rfl, rfl⟩) rfl rfl rfl rfl ?_
        refine RegV.nil0 ?_
        refine AWc.seq ?_
        refine AWc.rg hmix rfl rfl ?_
        refine RegV.p0 rfl rfl rfl ?_
        refine RegV.p0 (v := (.ptr 1 2)) rfl rfl rfl ?_
        refine RegV.ld (v := (.d (.int .i64 (rd a0.fFields y37_2).fType))) (H' := [(1, (.cells [(.d (.str (rd a0.fFields y37_2).fName)), (.d (.sl (List.map D.str (rd a0.fFields y37_2).fAliases))), (.d (.int .i64 (rd a0.fFields y37_2).fType)), (.d (.bool (rd a0.fFields y37_2).fHas)), (.d (.str (rd a0.fFields y37_2).fDefault))])), (0, (.cells [(.d (.sl (List.map (D.int .i64) a1)))]))]) rfl rfl trivial rfl rfl rfl rfl rfl ?_
        obtain ⟨r62, e62, h37⟩ := bind_some h37
        refine RegV.callS (q := true) (H' := [(0, (.cells [(.d (.sl (List.map (D.int .i64) a1)))])), (1, (.cells [(.d (.str (rd a0.fFields y37_2).fName)), (.d (.sl (List.map D.str (rd a0.fFields y37_2).fAliases))), (.d (.int .i64 (rd a0.fFields y37_2).fType)), (.d (.bool (rd a0.fFields y37_2).fHas)), (.d (.str (rd a0.fFields y37_2).fDefault))]))]) (c' := 2) (show ACalls P (N 305) [(.d (.int .i64 ((rd a0.fFields y37_2).fType))), (.ptr 0 0)] [(0, (.cells [(.d (.sl (List.map (D.int .i64) a1)))]))] (.d (.int .i64 r62)) [(0, (.cells [(.d (.sl (List.map (D.int .i64) a1)))]))] from ACalls.use (F305 hmix hc.2 e62) [(0, 0)] 1 rfl) rfl rfl rfl rfl (.cons (.refl _) (.cons (.refl _) .nil)) (.refl _) (fun _ => rfl) rfl (hasCons rfl hasNil) rfl rfl rfl rfl ?_
        refine RegV.p0 rfl rfl rfl ?_
        refine RegV.nil0 ?_
        refine AWc.seq ?_
        refine AWc.seq ?_
        refine AWc.rg hmix rfl rfl ?_
        refine RegV.p0 rfl rfl rfl ?_
        refine RegV.p0 (v := (.d (.bool (decide (r62 = (-1 : Int)))))) rfl rfl rfl ?_
        refine RegV.nil0 ?_
        refine AWc.cond rfl (fun c70 => ?_) (fun c70 => ?_)
        · have h37 := cond_pos c70 h37
          refine AWc.seq ?_
          refine AWc.rg hmix rfl rfl ?_
          refine RegV.p0 rfl rfl rfl ?_
          refine RegV.nil0 ?_
          cases h37
          dsimp only at h
          have hr := Option.some.inj h
          subst hr
          exact AWc.ret (canQ (N := 75) (k := 0) (l' := [(4, (.d (.int .i64 (-1 : Int))))]) (H' := []) rfl ⟨rfl, [], [], rfl, rfl, ⟨⟨_, rfl, (.refl _)⟩, rfl, trivial⟩,  trivial⟩ (doneA (.inr rfl) rfl ⟨trivial, trivial⟩ (.refl _) hasNil))
        · have h37 := cond_neg c70 h37
          refine AWc.skip ?_
          refine AWc.rg hmix rfl rfl ?_
          refine RegV.p0 rfl rfl rfl ?_
          refine RegV.p0 rfl rfl rfl ?_
          refine RegV.p0 (v := (.d (.int .i64 (max y37_1 r62)))) rfl rfl rfl ?_
          refine RegV.p0 rfl rfl rfl ?_
          refine RegV.nil0 ?_
          refine AWc.rg hmix rfl rfl ?_
          refine RegV.p0 (v := (.d (.int .i64 (IntKind.i64.wrap (y37_2 + (1 : Int)))))) rfl rfl rfl ?_
          refine RegV.p0 rfl rfl rfl ?_
          refine RegV.nil0 ?_
          exact ⟨((max y37_1 r62), (IntKind.i64.wrap (y37_2 + (1 : Int)))), h37, ⟨rfl, [], [], rfl, rfl, ⟨⟨_, rfl, (.refl _)⟩, rfl, ⟨⟨_, rfl, (.refl _)⟩, rfl, ⟨⟨_, rfl, (.refl _)⟩, rfl, ⟨⟨_, rfl, (.refl _)⟩, rfl, ⟨⟨_, rfl, (.refl _)⟩, rfl, trivial⟩⟩⟩⟩⟩, ⟨⟨_, rfl, (.refl _)⟩, rfl, rfl, trivial⟩⟩⟩
      · have h37 := cond_neg c44 h37
        cases h37
        dsimp only at h
        refine AWc.exit ?_
        refine inBlk_eq ?_
        exact ⟨y37_1, h, ⟨rfl, [], [], rfl, rfl, ⟨⟨_, rfl, (.refl _)⟩, rfl, trivial⟩,  trivial⟩⟩
    · intro j87_1 h
      unfold f304_j87 at h
      refine AWc.seq ?_
      refine AWc.rg hmix rfl rfl ?_
      refine RegV.p0 rfl rfl rfl ?_
      refine RegV.p0 (v := (.d (.int .i64 (IntKind.i64.wrap (j87_1 + (1 : Int)))))) rfl rfl rfl ?_
      refine RegV.p0 rfl rfl rfl ?_
      refine RegV.nil0 ?_
      have hr := Option.some.inj h
      subst hr
      exact AWc.ret (canQ (N := 75) (k := 0) (l' := [(4, (.d (.int .i64 (IntKind.i64.wrap (j87_1 + (1 : Int))))))]) (H' := []) rfl ⟨rfl, [], [], rfl, rfl, ⟨⟨_, rfl, (.refl _)⟩, rfl, trivial⟩,  trivial⟩ (doneA (.inr rfl) rfl ⟨trivial, trivial⟩ (.refl _) hasNil))
  · have h := cond_neg c24 h
    refine AWc.seq ?_
    refine AWc.rg hmix rfl rfl ?_
    refine RegV.p0 (v := (.d (.bool (decide (a0.fKind = (13 : Int)))))) rfl rfl rfl ?_
    refine RegV.p0 rfl rfl rfl ?_
    refine RegV.nil0 ?_
    refine AWc.cond rfl (fun c99 => ?_) (fun c99 => ?_)
    · have h := cond_pos c99 h
      refine AWc.seq ?_
      refine AWc.rg hmix rfl rfl ?_
      refine RegV.p0 rfl rfl rfl ?_
      refine RegV.nil0 ?_
      refine AWc.seqS (N := 75) 0 (fun (z : Int) => [(10, (.d (.int .i64 z)))]) (fun z => []) (fun z => f304_j161 k z = some r) rfl_le ?_ ?_
      · refine AWc.seq ?_
        refine AWc.rg hmix rfl rfl ?_
        refine RegV.p0 (v := (.ptr 0 8)) rfl rfl rfl ?_
        refine RegV.ld (v := (.d (.sl (List.map (D.int .i64) a0.fBranches)))) (H' := [(0, (.cells [(.d (.int .i64 a0.fKind)), (.d (.str a0.fName)), (.d (.sl (List.map D.str a0.fAliases))), (.d (.sl (List.map TField.enc a0.fFields))), (.d (.sl (List.map D.str a0.fSymbols))), (.d (.bool a0.fHas)), (.d (.str a0.fDefault)), (.d (.int .i64 a0.fItems)), (.d (.sl (List.map (D.int .i64) a0.fBranches))), (.d (.int .i64 a0.fSize))])), (1, (.cells [(.d (.sl (List.map (D.int .i64) a1)))]))]) rfl rfl trivial rfl rfl rfl rfl rfl ?_
        refine RegV.len (xs := a0.fBranches) (e := (D.int .i64)) rfl rfl rfl rfl ?_
        refine RegV.p0 rfl rfl rfl ?_
        refine RegV.nil0 ?_
        obtain ⟨o112, h112, h⟩ := bind_some h
        refine AWc.block ?_
        refine AWc.loopK (N := 75) 1 (fun (x : (Int × Int)) => [(5, (.fn (N 305) [(.ptr 0 0)])), (10, (.d (.int .i64 x.1))), (41, (.d (.sl (List.map (D.int .i64) a0.fBranches)))), (42, (.d (.int .i64 ((a0.fBranches.length : Nat) : Int)))), (43, (.d (.int .i64 x.2)))]) (fun x => [(0, (.cells [(.d (.sl (List.map (D.int .i64) a1)))]))]) (fun k x => f304_l112 a0 a1 k x.1 x.2 = some o112) k ((-1 : Int), (0 : Int)) rfl_le (fun x hx => by cases hx) h112 ⟨rfl, [], [(0, 1)], rfl, rfl, ⟨⟨_, rfl, (.refl _)⟩, rfl, ⟨⟨_, rfl, (.refl _)⟩, rfl, ⟨⟨_, rfl, (.refl _)⟩, rfl, ⟨⟨_, rfl, (.refl _)⟩, rfl, ⟨⟨_, rfl, (.refl _)⟩, rfl, trivial⟩⟩⟩⟩⟩, ⟨⟨_, rfl, (.refl _)⟩, rfl, rfl, trivial⟩⟩ ?_
        clear h112
        intro k
        rintro ⟨y112_1, y112_2⟩ h112
        dsimp only at h112 ⊢
        rw [f304_l112] at h112
        refine AWc.seq ?_
        refine AWc.rg hmix rfl rfl ?_
        refine RegV.p0 (v := (.d (.bool (decide (y112_2 < ((a0.fBranches.length : Nat) : Int)))))) rfl rfl rfl ?_
        refine RegV.nil0 ?_
        refine AWc.seq ?_
        refine AWc.cond rfl (fun c119 => ?_) (fun c119 => ?_)
        · have h112 := cond_pos c119 h112
          refine AWc.skip ?_
          refine AWc.seq ?_
          refine AWc.block ?_
          refine AWc.seq ?_
          refine AWc.rg hmix rfl rfl ?_
          obtain ⟨b127, h112⟩ := gd_some h112
          refine RegV.iad (xs := a0.fBranches) (e := (D.int .i64)) rfl rfl rfl rfl (fun _ => rfl) b127 rfl ?_
          refine RegV.p0 (v := (.d (.int .i64 (rd a0.fBranches y112_2)))) rfl rfl rfl ?_
          refine RegV.p0 rfl rfl rfl ?_
          refine RegV.nil0 ?_
          refine AWc.seq ?_
          refine AWc.rg hmix rfl rfl ?_
          refine RegV.p0 rfl rfl rfl ?_
          refine RegV.p0 rfl rfl rfl ?_
          obtain ⟨r135, e135, h112⟩ := bind_some h112
          refine RegV.callS (q := true) (H' := [(0, (.cells [(.d (.sl (List.map (D.int .i64) a1)))]))]) (c' := 1) (show ACalls P (N 305) [(.d (.int .i64 (rd a0.fBranches y112_2))), (.ptr 0 0)] [(0, (.cells [(.d (.sl (List.map (D.int .i64) a1)))]))] (.d (.int .i64 r135)) [(0, (.cells [(.d (.sl (List.map (D.int .i64) a1)))]))] from ACalls.use (F305 hmix hc.2 e135) [(0, 0)] 1 rfl) rfl rfl rfl rfl (.cons (.refl _) (.cons (.refl _) .nil)) (.refl _) (fun _ => rfl) rfl (hasCons rfl hasNil) rfl rfl rfl rfl ?_
          refine RegV.p0 rfl rfl rfl ?_
          refine RegV.nil0 ?_
          refine AWc.seq ?_
          refine AWc.rg hmix rfl rfl ?_
          refine RegV.p0 rfl rfl rfl ?_
          refine RegV.p0 (v := (.d (.bool (decide (r135 ≠ (-1 : Int)))))) rfl rfl rfl ?_
          refine RegV.p0 rfl rfl rfl ?_
          refine RegV.split (fun c142 => ?_) (fun c142 => ?_)
          · have h112 := cond_pos c142 h112
            refine RegV.p0 rfl rfl rfl ?_
            refine RegV.p0 (v := (.d (.bool (decide (y112_1 = (-1 : Int)))))) rfl rfl rfl ?_
            refine RegV.p0 rfl rfl rfl ?_
            refine RegV.split (fun c145 => ?_) (fun c145 => ?_)
            · have h112 := cond_pos c145 h112
              refine RegV.noS rfl rfl ?_
              refine RegV.noS rfl rfl ?_
              refine RegV.noS rfl rfl ?_
              refine RegV.p0 rfl rfl rfl ?_
              refine RegV.p0 rfl rfl rfl ?_
              refine RegV.nil0 ?_
              refine AWc.cond rfl (fun _ => ?_) (fun hc => by cases hc)
              refine AWc.rg hmix rfl rfl ?_
              refine RegV.p0 rfl rfl rfl ?_
              refine RegV.p0 rfl rfl rfl ?_
              refine RegV.nil0 ?_
              refine AWc.rg hmix rfl rfl ?_
              refine RegV.p0 (v := (.d (.int .i64 (IntKind.i64.wrap (y112_2 + (1 : Int)))))) rfl rfl rfl ?_
              refine RegV.p0 rfl rfl rfl ?_
              refine RegV.nil0 ?_
              exact ⟨(r135, (IntKind.i64.wrap (y112_2 + (1 : Int)))), h112, ⟨rfl, [], [], rfl, rfl, ⟨⟨_, rfl, (.refl _)⟩, rfl, ⟨⟨_, rfl, (.refl _)⟩, rfl, ⟨⟨_, rfl, (.refl _)⟩, rfl, ⟨⟨_, rfl, (.refl _)⟩, rfl, ⟨⟨_, rfl, (.refl _)⟩, rfl, trivial⟩⟩⟩⟩⟩, ⟨⟨_, rfl, (.refl _)⟩, rfl, rfl, trivial⟩⟩⟩
            · have h112 := cond_neg c145 h112
              refine RegV.p0 rfl rfl rfl ?_
              refine RegV.p0 rfl rfl rfl ?_
              refine RegV.p0 (v := (.d (.bool (decide (r135 < y112_1))))) rfl rfl rfl ?_
              refine RegV.p0 rfl rfl rfl ?_
              refine RegV.p0 rfl rfl rfl ?_
              refine RegV.nil0 ?_
              refine AWc.cond rfl (fun c151 => ?_) (fun c151 => ?_)
              · have h112 := cond_pos c151 h112
                refine AWc.rg hmix rfl rfl ?_
                refine RegV.p0 rfl rfl rfl ?_
                refine RegV.p0 rfl rfl rfl ?_
                refine RegV.nil0 ?_
                refine AWc.rg hmix rfl rfl ?_
                refine RegV.p0 (v := (.d (.int .i64 (IntKind.i64.wrap (y112_2 + (1 : Int)))))) rfl rfl rfl ?_
                refine RegV.p0 rfl rfl rfl ?_
                refine RegV.nil0 ?_
                exact ⟨(r135, (IntKind.i64.wrap (y112_2 + (1 : Int)))), h112, ⟨rfl, [], [], rfl, rfl, ⟨⟨_, rfl, (.refl _)⟩, rfl, ⟨⟨_, rfl, (.refl _)⟩, rfl, ⟨⟨_, rfl, (.refl _)⟩, rfl, ⟨⟨_, rfl, (.refl _)⟩, rfl, ⟨⟨_, rfl, (.refl _)⟩, rfl, trivial⟩⟩⟩⟩⟩, ⟨⟨_, rfl, (.refl _)⟩, rfl, rfl, trivial⟩⟩⟩
              · have h112 := cond_neg c151 h112
                refine AWc.skip ?_
                refine AWc.rg hmix rfl rfl ?_
                refine RegV.p0 (v := (.d (.int .i64 (IntKind.i64.wrap (y112_2 + (1 : Int)))))) rfl rfl rfl ?_
                refine RegV.p0 rfl rfl rfl ?_
                refine RegV.nil0 ?_
                exact ⟨(y112_1, (IntKind.i64.wrap (y112_2 + (1 : Int)))), h112, ⟨rfl, [], [], rfl, rfl, ⟨⟨_, rfl, (.refl _)⟩, rfl, ⟨⟨_, rfl, (.refl _)⟩, rfl, ⟨⟨_, rfl, (.refl _)⟩, rfl, ⟨⟨_, rfl, (.refl _)⟩, rfl, ⟨⟨_, rfl, (.refl _)⟩, rfl, trivial⟩⟩⟩⟩⟩, ⟨⟨_, rfl, (.refl _)⟩, rfl, rfl, trivial⟩⟩⟩
          · have h112 := cond_neg c142 h112
            refine RegV.noS rfl rfl ?_
            refine RegV.noS rfl rfl ?_
            refine RegV.noS rfl rfl ?_
            refine RegV.noS rfl rfl ?_
            refine RegV.noS rfl rfl ?_
            refine RegV.noS rfl rfl ?_
            refine RegV.noS rfl rfl ?_
            refine RegV.p0 rfl rfl rfl ?_
            refine RegV.nil0 ?_
            refine AWc.cond rfl (fun hc => by cases hc) (fun _ => ?_)
            refine AWc.skip ?_
            refine AWc.rg hmix rfl rfl ?_
            refine RegV.p0 (v := (.d (.int .i64 (IntKind.i64.wrap (y112_2 + (1 : Int)))))) rfl rfl rfl ?_
            refine RegV.p0 rfl rfl rfl ?_
            refine RegV.nil0 ?_
            exact ⟨(y112_1, (IntKind.i64.wrap (y112_2 + (1 : Int)))), h112, ⟨rfl, [], [], rfl, rfl, ⟨⟨_, rfl, (.refl _)⟩, rfl, ⟨⟨_, rfl, (.refl _)⟩, rfl, ⟨⟨_, rfl, (.refl _)⟩, rfl, ⟨⟨_, rfl, (.refl _)⟩, rfl, ⟨⟨_, rfl, (.refl _)⟩, rfl, trivial⟩⟩⟩⟩⟩, ⟨⟨_, rfl, (.refl _)⟩, rfl, rfl, trivial⟩⟩⟩
        · have h112 := cond_neg c119 h112
          cases h112
          dsimp only at h
          refine AWc.exit ?_
          refine inBlk_eq ?_
          exact ⟨y112_1, h, ⟨rfl, [], [], rfl, rfl, ⟨⟨_, rfl, (.refl _)⟩, rfl, trivial⟩,  trivial⟩⟩
      · intro j161_1 h
        unfold f304_j161 at h
        refine AWc.seq ?_
        refine AWc.seq ?_
        refine AWc.rg hmix rfl rfl ?_
        refine RegV.p0 rfl rfl rfl ?_
        refine RegV.p0 (v := (.d (.bool (decide (j161_1 = (-1 : Int)))))) rfl rfl rfl ?_
        refine RegV.nil0 ?_
        refine AWc.cond rfl (fun c167 => ?_) (fun c167 => ?_)
        · have h := cond_pos c167 h
          refine AWc.seq ?_
          refine AWc.rg hmix rfl rfl ?_
          refine RegV.p0 rfl rfl rfl ?_
          refine RegV.nil0 ?_
          have hr := Option.some.inj h
          subst hr
          exact AWc.ret (canQ (N := 75) (k := 0) (l' := [(4, (.d (.int .i64 (-1 : Int))))]) (H' := []) rfl ⟨rfl, [], [], rfl, rfl, ⟨⟨_, rfl, (.refl _)⟩, rfl, trivial⟩,  trivial⟩ (doneA (.inr rfl) rfl ⟨trivial, trivial⟩ (.refl _) hasNil))
        · have h := cond_neg c167 h
          refine AWc.skip ?_
          refine AWc.seq ?_
          refine AWc.rg hmix rfl rfl ?_
          refine RegV.p0 rfl rfl rfl ?_
          refine RegV.p0 (v := (.d (.int .i64 (IntKind.i64.wrap (j161_1 + (1 : Int)))))) rfl rfl rfl ?_
          refine RegV.p0 rfl rfl rfl ?_
          refine RegV.nil0 ?_
          have hr := Option.some.inj h
          subst hr
          exact AWc.ret (canQ (N := 75) (k := 0) (l' := [(4, (.d (.int .i64 (IntKind.i64.wrap (j161_1 + (1 : Int))))))]) (H' := []) rfl ⟨rfl, [], [], rfl, rfl, ⟨⟨_, rfl, (.refl _)⟩, rfl, trivial⟩,  trivial⟩ (doneA (.inr rfl) rfl ⟨trivial, trivial⟩ (.refl _) hasNil))
    · have h := cond_neg c99 h
      refine AWc.skip ?_
      refine AWc.seq ?_
      refine AWc.seq ?_
      refine AWc.rg hmix rfl rfl ?_
      refine RegV.p0 (v := (.ptr 0 0)) rfl rfl rfl ?_
      refine RegV.ld (v := (.d (.int .i64 a0.fKind))) (H' := [(0, (.cells [(.d (.int .i64 a0.fKind)), (.d (.str a0.fName)), (.d (.sl (List.map D.str a0.fAliases))), (.d (.sl (List.map TField.enc a0.fFields))), (.d (.sl (List.map D.str a0.fSymbols))), (.d (.bool a0.fHas)), (.d (.str a0.fDefault)), (.d (.int .i64 a0.fItems)), (.d (.sl (List.map (D.int .i64) a0.fBranches))), (.d (.int .i64 a0.fSize))])), (1, (.cells [(.d (.sl (List.map (D.int .i64) a1)))]))]) rfl rfl trivial rfl rfl rfl rfl rfl ?_
      refine RegV.p0 (v := (.d (.bool (decide (a0.fKind < (1 : Int)))))) rfl rfl rfl ?_
      refine RegV.p0 rfl rfl rfl ?_
      refine RegV.split (fun c189 => ?_) (fun c189 => ?_)
      · have h := cond_pos c189 h
        refine RegV.noS rfl rfl ?_
        refine RegV.noS rfl rfl ?_
        refine RegV.noS rfl rfl ?_
        refine RegV.p0 rfl rfl rfl ?_
        refine RegV.nil0 ?_
        refine AWc.cond rfl (fun _ => ?_) (fun hc => by cases hc)
        refine AWc.seq ?_
        refine AWc.rg hmix rfl rfl ?_
        refine RegV.p0 rfl rfl rfl ?_
        refine RegV.nil0 ?_
        have hr := Option.some.inj h
        subst hr
        exact AWc.ret (canQ (N := 75) (k := 0) (l' := [(4, (.d (.int .i64 (-1 : Int))))]) (H' := []) rfl ⟨rfl, [], [], rfl, rfl, ⟨⟨_, rfl, (.refl _)⟩, rfl, trivial⟩,  trivial⟩ (doneA (.inr rfl) rfl ⟨trivial, trivial⟩ (.refl _) hasNil))
      · have h := cond_neg c189 h
        refine RegV.p0 (v := (.ptr 0 0)) rfl rfl rfl ?_
        refine RegV.ld (v := (.d (.int .i64 a0.fKind))) (H' := [(0, (.cells [(.d (.int .i64 a0.fKind)), (.d (.str a0.fName)), (.d (.sl (List.map D.str a0.fAliases))), (.d (.sl (List.map TField.enc a0.fFields))), (.d (.sl (List.map D.str a0.fSymbols))), (.d (.bool a0.fHas)), (.d (.str a0.fDefault)), (.d (.int .i64 a0.fItems)), (.d (.sl (List.map (D.int .i64) a0.fBranches))), (.d (.int .i64 a0.fSize))])), (1, (.cells [(.d (.sl (List.map (D.int .i64) a1)))]))]) rfl rfl trivial rfl rfl rfl rfl rfl ?_
        refine RegV.p0 (v := (.d (.bool (decide (a0.fKind > (14 : Int)))))) rfl rfl rfl ?_
        refine RegV.p0 rfl rfl rfl ?_
        refine RegV.nil0 ?_
        refine AWc.cond rfl (fun c194 => ?_) (fun c194 => ?_)
        · have h := cond_pos c194 h
          refine AWc.seq ?_
          refine AWc.rg hmix rfl rfl ?_
          refine RegV.p0 rfl rfl rfl ?_
          refine RegV.nil0 ?_
          have hr := Option.some.inj h
          subst hr
          exact AWc.ret (canQ (N := 75) (k := 0) (l' := [(4, (.d (.int .i64 (-1 : Int))))]) (H' := []) rfl ⟨rfl, [], [], rfl, rfl, ⟨⟨_, rfl, (.refl _)⟩, rfl, trivial⟩,  trivial⟩ (doneA (.inr rfl) rfl ⟨trivial, trivial⟩ (.refl _) hasNil))
        · have h := cond_neg c194 h
          refine AWc.skip ?_
          refine AWc.seq ?_
          refine AWc.rg hmix rfl rfl ?_
          refine RegV.p0 rfl rfl rfl ?_
          refine RegV.nil0 ?_
          have hr := Option.some.inj h
          subst hr
          exact AWc.ret (canQ (N := 75) (k := 0) (l' := [(4, (.d (.int .i64 (0 : Int))))]) (H' := []) rfl ⟨rfl, [], [], rfl, rfl, ⟨⟨_, rfl, (.refl _)⟩, rfl, trivial⟩,  trivial⟩ (doneA (.inr rfl) rfl ⟨trivial, trivial⟩ (.refl _) hasNil))
/-- courant/live.ranks -/
def C250 (N : Nat → Nat) : AFunc := { n := 55, params := 1, res := [.tmp 2], body :=
 (.seq (.region false [⟨(some 1), .box (.t 0), none, []⟩,
   ⟨(some 2), .mv (.k .nils), none, []⟩])
  (.seq (.region false [⟨(some 9), .faddr (.t 1) 0, none, []⟩,
    ⟨(some 10), .load (.t 9) 1 false, none, [0]⟩,
    ⟨(some 11), .len (.t 10), none, [1]⟩,
    ⟨(some 12), .mksl (.t 11) (.t 11) 1 8 [(.int .i64 0)], none, [2]⟩,
    ⟨(some 3), .mv (.t 12), none, [3, 0, 1, 2]⟩])
   (.seq (.seq (.region false [⟨(some 13), .mv (.t 3), none, []⟩,
      ⟨(some 14), .len (.t 13), none, [0]⟩,
      ⟨(some 15), .mv (.k (.d (.int .i64 0))), none, []⟩])
     (.block 0 (.loop (.seq (.region false [⟨(some 16), .bin .lss (.t 15) (.t 14), none, []⟩])
        (.seq (.cond (.t 16) (.skip)
          (.exit 0))
         (.seq (.block 1 (.seq (.region false [⟨(some 17), .mv (.t 15), none, []⟩,
             ⟨(some 4), .mv (.t 17), none, [0]⟩])
            (.region false [⟨(some 18), .mv (.t 3), none, []⟩,
             ⟨(some 19), .mv (.t 4), none, []⟩,
             ⟨(some 20), .iaddr (.t 18) (.t 19) 1, none, [0, 1]⟩,
             ⟨none, .store (.t 20) (.k (.d (.int .i64 (-1)))) 1, none, [2, 0, 1]⟩])))
          (.region false [⟨(some 21), .bin .add (.t 15) (.k (.d (.int .i64 1))), none, []⟩,
           ⟨(some 15), .mv (.t 21), none, [0]⟩])))))))
    (.seq (.seq (.region false [⟨(some 5), .mv (.k (.d (.bool true))), none, []⟩])
      (.block 2 (.loop (.seq (.seq (.region false [⟨(some 22), .mv (.t 5), none, []⟩])
          (.cond (.t 22) (.skip)
           (.exit 2)))
         (.block 3 (.scope (.seq (.region false [⟨(some 23), .mv (.t 3), none, []⟩,
             ⟨(some 24), .app (.k .nils) (.t 23) 1 8 [(.int .i64 0)], none, [0]⟩,
             ⟨(some 6), .mv (.t 24), none, [1, 0]⟩])
            (.seq (.region false [⟨(some 5), .mv (.k (.d (.bool false))), none, []⟩])
             (.seq (.label 0)
              (.seq (.seq (.region false [⟨(some 25), .faddr (.t 1) 0, none, []⟩,
                 ⟨(some 26), .load (.t 25) 1 false, none, [0]⟩,
                 ⟨(some 27), .len (.t 26), none, [1]⟩,
                 ⟨(some 28), .mv (.k (.d (.int .i64 0))), none, []⟩])
                (.block 4 (.loop (.seq (.region false [⟨(some 29), .bin .lss (.t 28) (.t 27), none, []⟩])
                   (.seq (.cond (.t 29) (.skip)
                     (.exit 4))
                    (.seq (.block 5 (.seq (.region false [⟨(some 30), .mv (.t 28), none, []⟩,
                        ⟨(some 31), .iaddr (.t 26) (.t 28) 10, none, []⟩,
                        ⟨(some 32), .load (.t 31) 10 true, none, [1]⟩,
                        ⟨(some 8), .alloc [(.int .i64 0), (.str []), (.sl []), (.sl []), (.sl []), (.bool false), (.str []), (.int .i64 0), (.sl []), (.int .i64 0)], none, []⟩,
                        ⟨(some 7), .mv (.t 30), none, [0, 1, 2, 3]⟩,
                        ⟨none, .store (.t 8) (.t 32) 10, none, [3, 2, 4, 0, 1]⟩])
                       (.seq (.seq (.region false [⟨(some 33), .mv (.t 3), none, []⟩,
                          ⟨(some 34), .mv (.t 7), none, []⟩,
                          ⟨(some 35), .iaddr (.t 33) (.t 34) 1, none, [0, 1]⟩,
                          ⟨(some 36), .load (.t 35) 1 false, none, [2]⟩,
                          ⟨(some 37), .bin .neq (.t 36) (.k (.d (.int .i64 (-1)))), none, [3]⟩])
                         (.cond (.t 37) (.exit 5)
                          (.skip)))
                        (.seq (.region false [⟨(some 38), .mv (.t 6), none, []⟩,
                          ⟨(some 39), .mv (.t 7), none, []⟩,
                          ⟨(some 40), .load (.t 8) 10 true, none, []⟩,
                          ⟨(some 41), .mv (.t 3), none, []⟩,
                          ⟨(some 42), .call (.k (.d (.fn (N 304)))) [(.t 40), (.t 41)], none, [2, 3]⟩,
                          ⟨(some 43), .iaddr (.t 38) (.t 39) 1, none, [0, 1, 2, 3, 4]⟩,
                          ⟨none, .store (.t 43) (.t 42) 1, none, [5, 4, 0, 1, 2, 3]⟩])
                         (.region false [⟨(some 44), .mv (.t 5), none, []⟩,
                          ⟨(some 45), .mv (.t 44), none, [0]⟩,
                          ⟨(some 46), .mv (.t 6), (some (45, false)), [1]⟩,
                          ⟨(some 47), .mv (.t 7), (some (45, false)), [1]⟩,
                          ⟨(some 48), .iaddr (.t 46) (.t 47) 1, (some (45, false)), [2, 3, 1]⟩,
                          ⟨(some 49), .load (.t 48) 1 false, (some (45, false)), [4, 1]⟩,
                          ⟨(some 50), .bin .neq (.t 49) (.k (.d (.int .i64 (-1)))), (some (45, false)), [5, 1]⟩,
                          ⟨(some 51), .pick (.t 45) (.k (.d (.bool true))) (.t 50), none, [1, 6]⟩,
                          ⟨(some 5), .mv (.t 51), none, [7, 1, 0, 2, 3, 4, 5, 6]⟩])))))
                     (.region false [⟨(some 52), .bin .add (.t 28) (.k (.d (.int .i64 1))), none, []⟩,
                      ⟨(some 28), .mv (.t 52), none, [0]⟩])))))))
               (.region false [⟨(some 53), .mv (.t 6), none, []⟩,
                ⟨(some 3), .mv (.t 53), none, [0]⟩])))))))))))
     (.seq (.region false [⟨(some 54), .mv (.t 3), none, []⟩,
       ⟨(some 2), .mv (.t 54), none, [0]⟩])
      .ret))))) }
def HC250 (P : Program) (N : Nat → Nat) : Prop := HasF P (N 250) (C250 N) ∧ HC304 P N
def f250_l85 (a0 : TSchema) (y53_1 : Nat) (y53_3 : (List Int)) : Nat → Bool → Int → (List Int) → Option (LR2 (Bool × (List Int)) Unit (List Int))
  | 0, _, _, _ => none
  | k + 1, y85_1, y85_2, y85_3 => cond (decide (y85_2 < ((a0.fNodes.length : Nat) : Int))) (gd (0 ≤ y85_2 ∧ y85_2 < ((a0.fNodes.length : Nat) : Int)) (gd (0 ≤ y85_2 ∧ y85_2 < ((y53_1 : Nat) : Int)) (gd ((y85_2).toNat < y53_3.length) (cond (decide ((List.getD y53_3 (y85_2).toNat default) ≠ (-1 : Int))) (f250_l85 a0 y53_1 y53_3 k y85_1 (IntKind.i64.wrap (y85_2 + (1 : Int))) y85_3) (gd (y53_1 ≤ y53_3.length) ((f304 k (TNode.mk ((rd a0.fNodes y85_2).fKind) ((rd a0.fNodes y85_2).fName) ((rd a0.fNodes y85_2).fAliases) ((rd a0.fNodes y85_2).fFields) ((rd a0.fNodes y85_2).fSymbols) ((rd a0.fNodes y85_2).fHas) ((rd a0.fNodes y85_2).fDefault) ((rd a0.fNodes y85_2).fItems) ((rd a0.fNodes y85_2).fBranches) ((rd a0.fNodes y85_2).fSize)) (List.take y53_1 y53_3)).bind fun r125 => gd (0 ≤ y85_2 ∧ y85_2 < (((List.take y53_1 y53_3).length : Nat) : Int)) (gd ((y85_2).toNat < y85_3.length) (cond y85_1 (f250_l85 a0 y53_1 y53_3 k true (IntKind.i64.wrap (y85_2 + (1 : Int))) (List.set y85_3 (y85_2).toNat r125)) (gd (0 ≤ y85_2 ∧ y85_2 < (((List.take y53_1 y53_3).length : Nat) : Int)) (gd ((y85_2).toNat < (List.set y85_3 (y85_2).toNat r125).length) (f250_l85 a0 y53_1 y53_3 k (decide ((List.getD (List.set y85_3 (y85_2).toNat r125) (y85_2).toNat default) ≠ (-1 : Int))) (IntKind.i64.wrap (y85_2 + (1 : Int))) (List.set y85_3 (y85_2).toNat r125)))))))))))) (some (.b0 (y85_1, y85_3)))
def f250_l53 (a0 : TSchema) : Nat → Nat → Bool → (List Int) → Option (LR2 (Nat × (List Int)) Unit (List Int))
  | 0, _, _, _ => none
  | k + 1, y53_1, y53_2, y53_3 => cond y53_2 (gd (y53_1 ≤ y53_3.length) (gd ((List.take y53_1 y53_3).length * 8 ≤ 281474976710656) ((f250_l85 a0 y53_1 y53_3 k false (0 : Int) (List.take y53_1 y53_3)).bind fun o85 => match o85 with | .b0 (x85_1, x85_2) => f250_l53 a0 k ((List.take y53_1 y53_3).length) x85_1 x85_2 | _ => none))) (some (.b0 (y53_1, y53_3)))
def f250_j48 (k : Nat) (a0 : TSchema) (j48_1 : (List Int)) : Option (List Int) := (f250_l53 a0 k ((((a0.fNodes.length : Nat) : Int)).toNat) true j48_1).bind fun o53 => match o53 with | .b0 (x53_1, x53_2) => gd (x53_1 ≤ x53_2.length) (some (List.take x53_1 x53_2)) | _ => none
def f250_l21 (a0 : TSchema) : Nat → Int → (List Int) → Option (LR2 (List Int) Unit (List Int))
  | 0, _, _ => none
  | k + 1, y21_1, y21_2 => cond (decide (y21_1 < (((((a0.fNodes.length : Nat) : Int)).toNat : Nat) : Int))) (gd (0 ≤ y21_1 ∧ y21_1 < (((((a0.fNodes.length : Nat) : Int)).toNat : Nat) : Int)) (gd ((y21_1).toNat < y21_2.length) (f250_l21 a0 k (IntKind.i64.wrap (y21_1 + (1 : Int))) (List.set y21_2 (y21_1).toNat (-1 : Int))))) (some (.b0 y21_2))
def f250 (k : Nat) (a0 : TSchema) : Option (List Int) := gd (0 ≤ ((a0.fNodes.length : Nat) : Int) ∧ ((a0.fNodes.length : Nat) : Int) ≤ ((a0.fNodes.length : Nat) : Int) ∧ ((a0.fNodes.length : Nat) : Int) * 8 ≤ 281474976710656) ((f250_l21 a0 k (0 : Int) (List.replicate (((a0.fNodes.length : Nat) : Int)).toNat (default : Int))).bind fun o21 => match o21 with | .b0 x21_1 => f250_j48 k a0 x21_1 | _ => none)
theorem F250 {P : Program} {N : Nat → Nat} (hmix : P.follows .mixedOrders = true) (hc : HC250 P N) {k : Nat} {a0 : TSchema} {r : (List Int)} (h : f250 k a0 = some r) :
    ACalls P (N 250) [(.d (TSchema.enc a0))] [] (.d (.sl (List.map (D.int .i64) r))) [] := by
  refine acalls_canon (F := C250 N) hc.1 0 0 rfl ?_
  unfold f250 at h
  dsimp only [C250, startL]
  refine AWc.seq ?_
  refine AWc.rg hmix rfl rfl ?_
  refine RegV.evS (own := false) (v := (.ptr 0 0)) (H' := [(0, (.cells [(.d (.sl (List.map TNode.enc a0.fNodes)))]))]) (c' := 1) rfl rfl trivial rfl rfl rfl rfl rfl rfl ?_
  refine RegV.p0 rfl rfl rfl ?_
  refine RegV.nil0 ?_
  refine AWc.seq ?_
  refine AWc.rg hmix rfl rfl ?_
  refine RegV.p0 (v := (.ptr 0 0)) rfl rfl rfl ?_
  refine RegV.ld (v := (.d (.sl (List.map TNode.enc a0.fNodes)))) (H' := [(0, (.cells [(.d (.sl (List.map TNode.enc a0.fNodes)))]))]) rfl rfl trivial rfl rfl rfl rfl rfl ?_
  refine RegV.len (xs := a0.fNodes) (e := TNode.enc) rfl rfl rfl rfl ?_
  obtain ⟨b12, h⟩ := gd_some h
  refine RegV.mkR (e := (D.int .i64)) (a0 := default) rfl rfl rfl (int_ok _) rfl rfl b12 rfl rfl ?_
  refine RegV.p0 rfl rfl rfl ?_
  refine RegV.nil0 ?_
  refine AWc.seqS (N := 55) 2 (fun (z : (List Int)) => [(1, (.ptr 0 0)), (3, (.row 1 1 ((((a0.fNodes.length : Nat) : Int)).toNat)))]) (fun z => [(0, (.cells [(.d (.sl (List.map TNode.enc a0.fNodes)))])), (1, (rowO (D.int .i64) z))]) (fun z => f250_j48 k a0 z = some r) rfl_le ?_ ?_
  · refine AWc.seq ?_
    refine AWc.rg hmix rfl rfl ?_
    refine RegV.p0 rfl rfl rfl ?_
    refine RegV.lenR (len := (((a0.fNodes.length : Nat) : Int)).toNat) rfl rfl rfl ?_
    refine RegV.p0 rfl rfl rfl ?_
    refine RegV.nil0 ?_
    obtain ⟨o21, h21, h⟩ := bind_some h
    refine AWc.block ?_
    refine AWc.loopK (N := 55) 2 (fun (x : (Int × (List Int))) => [(1, (.ptr 0 0)), (3, (.row 1 1 ((((a0.fNodes.length : Nat) : Int)).toNat))), (14, (.d (.int .i64 (((((a0.fNodes.length : Nat) : Int)).toNat : Nat) : Int)))), (15, (.d (.int .i64 x.1)))]) (fun x => [(0, (.cells [(.d (.sl (List.map TNode.enc a0.fNodes)))])), (1, (rowO (D.int .i64) x.2))]) (fun k x => f250_l21 a0 k x.1 x.2 = some o21) k ((0 : Int), (List.replicate (((a0.fNodes.length : Nat) : Int)).toNat (default : Int))) rfl_le (fun x hx => by cases hx) h21 ⟨rfl, [], [], rfl, rfl, ⟨⟨_, rfl, (.refl _)⟩, rfl, ⟨⟨_, rfl, (.refl _)⟩, rfl, ⟨⟨_, rfl, (.refl _)⟩, rfl, ⟨⟨_, rfl, (.refl _)⟩, rfl, trivial⟩⟩⟩⟩, ⟨⟨_, rfl, (.refl _)⟩, rfl, rfl, ⟨⟨_, rfl, (.refl _)⟩, rfl, rfl, trivial⟩⟩⟩ ?_
    clear h21
    intro k
    rintro ⟨y21_1, y21_2⟩ h21
    dsimp only at h21 ⊢
    rw [f250_l21] at h21
    refine AWc.seq ?_
    refine AWc.rg hmix rfl rfl ?_
    refine RegV.p0 (v := (.d (.bool (decide (y21_1 < (((((a0.fNodes.length : Nat) : Int)).toNat : Nat) : Int)))))) rfl rfl rfl ?_
    refine RegV.nil0 ?_
    refine AWc.seq ?_
    refine AWc.cond rfl (fun c28 => ?_) (fun c28 => ?_)
    · have h21 := cond_pos c28 h21
      refine AWc.skip ?_
      refine AWc.seq ?_
      refine AWc.block ?_
      refine AWc.seq ?_
      refine AWc.rg hmix rfl rfl ?_
      refine RegV.p0 rfl rfl rfl ?_
      refine RegV.p0 rfl rfl rfl ?_
      refine RegV.nil0 ?_
      refine AWc.rg hmix rfl rfl ?_
      refine RegV.p0 rfl rfl rfl ?_
      refine RegV.p0 rfl rfl rfl ?_
      obtain ⟨b42, h21⟩ := gd_some h21
      refine RegV.iaR (z := 1) rfl rfl (fun _ => rfl) b42 rfl ?_
      obtain ⟨b43, h21⟩ := gd_some h21
      refine RegV.stR (e := (D.int .i64)) (xs := y21_2) (i := (y21_1).toNat) (v := (-1 : Int)) (H' := [(1, (rowO (D.int .i64) (List.set y21_2 (y21_1).toNat (-1 : Int)))), (0, (.cells [(.d (.sl (List.map TNode.enc a0.fNodes)))]))]) rfl rfl rfl rfl rfl (int_ok _) rfl b43 rfl rfl rfl ?_
      refine RegV.nil0 ?_
      refine AWc.rg hmix rfl rfl ?_
      refine RegV.p0 (v := (.d (.int .i64 (IntKind.i64.wrap (y21_1 + (1 : Int)))))) rfl rfl rfl ?_
      refine RegV.p0 rfl rfl rfl ?_
      refine RegV.nil0 ?_
      exact ⟨((IntKind.i64.wrap (y21_1 + (1 : Int))), (List.set y21_2 (y21_1).toNat (-1 : Int))), h21, ⟨rfl, [], [], rfl, rfl, ⟨⟨_, rfl, (.refl _)⟩, rfl, ⟨⟨_, rfl, (.refl _)⟩, rfl, ⟨⟨_, rfl, (.refl _)⟩, rfl, ⟨⟨_, rfl, (.refl _)⟩, rfl, trivial⟩⟩⟩⟩, ⟨⟨_, rfl, (.refl _)⟩, rfl, rfl, ⟨⟨_, rfl, (.refl _)⟩, rfl, rfl, trivial⟩⟩⟩⟩
    · have h21 := cond_neg c28 h21
      cases h21
      dsimp only at h
      refine AWc.exit ?_
      refine inBlk_eq ?_
      exact ⟨y21_2, h, ⟨rfl, [], [], rfl, rfl, ⟨⟨_, rfl, (.refl _)⟩, rfl, ⟨⟨_, rfl, (.refl _)⟩, rfl, trivial⟩⟩, ⟨⟨_, rfl, (.refl _)⟩, rfl, rfl, ⟨⟨_, rfl, (.refl _)⟩, rfl, rfl, trivial⟩⟩⟩⟩
  · intro j48_1 h
    unfold f250_j48 at h
    refine AWc.seq ?_
    refine AWc.seq ?_
    refine AWc.rg hmix rfl rfl ?_
    refine RegV.p0 rfl rfl rfl ?_
    refine RegV.nil0 ?_
    obtain ⟨o53, h53, h⟩ := bind_some h
    refine AWc.block ?_
    refine AWc.loopK (N := 55) 2 (fun (x : (Nat × Bool × (List Int))) => [(1, (.ptr 0 0)), (3, (.row 1 1 x.1)), (5, (.d (.bool x.2.1)))]) (fun x => [(0, (.cells [(.d (.sl (List.map TNode.enc a0.fNodes)))])), (1, (rowO (D.int .i64) x.2.2))]) (fun k x => f250_l53 a0 k x.1 x.2.1 x.2.2 = some o53) k ((((a0.fNodes.length : Nat) : Int)).toNat, true, j48_1) rfl_le (fun x hx => by cases hx) h53 ⟨rfl, [], [], rfl, rfl, ⟨⟨_, rfl, (.refl _)⟩, rfl, ⟨⟨_, rfl, (.refl _)⟩, rfl, ⟨⟨_, rfl, (.refl _)⟩, rfl, trivial⟩⟩⟩, ⟨⟨_, rfl, (.refl _)⟩, rfl, rfl, ⟨⟨_, rfl, (.refl _)⟩, rfl, rfl, trivial⟩⟩⟩ ?_
    clear h53
    intro k
    rintro ⟨y53_1, y53_2, y53_3⟩ h53
    dsimp only at h53 ⊢
    rw [f250_l53] at h53
    refine AWc.seq ?_
    refine AWc.seq ?_
    refine AWc.rg hmix rfl rfl ?_
    refine RegV.p0 rfl rfl rfl ?_
    refine RegV.nil0 ?_
    refine AWc.cond rfl (fun c60 => ?_) (fun c60 => ?_)
    · have h53 := cond_pos c60 h53
      refine AWc.skip ?_
      refine AWc.block ?_
      refine AWc.scope ?_
      refine AWc.seq ?_
      refine AWc.rg hmix rfl rfl ?_
      refine RegV.p0 rfl rfl rfl ?_
      obtain ⟨bs69, h53⟩ := gd_some h53
      obtain ⟨b69, h53⟩ := gd_some h53
      refine RegV.appG (xs := y53_3) (ys := (List.take y53_1 y53_3)) (e := (D.int .i64)) (H' := [(2, (rowO (D.int .i64) (List.take y53_1 y53_3))), (1, (rowO (D.int .i64) y53_3)), (0, (.cells [(.d (.sl (List.map TNode.enc a0.fNodes)))]))]) rfl rfl rfl (.row bs69) (int_ok _) rfl (.inr rfl) rfl rfl b69 rfl rfl rfl rfl rfl rfl ?_
      refine RegV.p0 rfl rfl rfl ?_
      refine RegV.nil0 ?_
      refine AWc.seq ?_
      refine AWc.rg hmix rfl rfl ?_
      refine RegV.p0 rfl rfl rfl ?_
      refine RegV.nil0 ?_
      refine AWc.seq ?_
      refine AWc.label ?_
      refine AWc.seq ?_
      refine AWc.seq ?_
      refine AWc.rg hmix rfl rfl ?_
      refine RegV.p0 (v := (.ptr 0 0)) rfl rfl rfl ?_
      refine RegV.ld (v := (.d (.sl (List.map TNode.enc a0.fNodes)))) (H' := [(0, (.cells [(.d (.sl (List.map TNode.enc a0.fNodes)))])), (2, (rowO (D.int .i64) (List.take y53_1 y53_3))), (1, (rowO (D.int .i64) y53_3))]) rfl rfl trivial rfl rfl rfl rfl rfl ?_
      refine RegV.len (xs := a0.fNodes) (e := TNode.enc) rfl rfl rfl rfl ?_
      refine RegV.p0 rfl rfl rfl ?_
      refine RegV.nil0 ?_
      obtain ⟨o85, h85, h53⟩ := bind_some h53
      refine AWc.block ?_
      refine AWc.loopK (N := 55) 3 (fun (x : (Bool × Int × (List Int))) => [(1, (.ptr 0 0)), (3, (.row 1 1 y53_1)), (5, (.d (.bool x.1))), (6, (.row 2 1 ((List.take y53_1 y53_3).length))), (26, (.d (.sl (List.map TNode.enc a0.fNodes)))), (27, (.d (.int .i64 ((a0.fNodes.length : Nat) : Int)))), (28, (.d (.int .i64 x.2.1)))]) (fun x => [(0, (.cells [(.d (.sl (List.map TNode.enc a0.fNodes)))])), (1, (rowO (D.int .i64) y53_3)), (2, (rowO (D.int .i64) x.2.2))]) (fun k x => f250_l85 a0 y53_1 y53_3 k x.1 x.2.1 x.2.2 = some o85) k (false, (0 : Int), (List.take y53_1 y53_3)) rfl_le (fun x hx => by cases hx) h85 ⟨rfl, [], [], rfl, rfl, ⟨⟨_, rfl, (.refl _)⟩, rfl, ⟨⟨_, rfl, (.refl _)⟩, rfl, ⟨⟨_, rfl, (.refl _)⟩, rfl, ⟨⟨_, rfl, (.refl _)⟩, rfl, ⟨⟨_, rfl, (.refl _)⟩, rfl, ⟨⟨_, rfl, (.refl _)⟩, rfl, ⟨⟨_, rfl, (.refl _)⟩, rfl, trivial⟩⟩⟩⟩⟩⟩⟩, ⟨⟨_, rfl, (.refl _)⟩, rfl, rfl, ⟨⟨_, rfl, (.refl _)⟩, rfl, rfl, ⟨⟨_, rfl, (.refl _)⟩, rfl, rfl, trivial⟩⟩⟩⟩ ?_
      clear h85
      intro k
      rintro ⟨y85_1, y85_2, y85_3⟩ h85
      dsimp only at h85 ⊢
      rw [f250_l85] at h85
      refine AWc.seq ?_
      refine AWc.rg hmix rfl rfl ?_
      refine RegV.p0 (v := (.d (.bool (decide (y85_2 < ((a0.fNodes.length : Nat) : Int)))))) rfl rfl rfl ?_
      refine RegV.nil0 ?_
      refine AWc.seq ?_
      refine AWc.cond rfl (fun c92 => ?_) (fun c92 => ?_)
      · have h85 := cond_pos c92 h85
        refine AWc.skip ?_
        refine AWc.seq ?_
        refine AWc.block ?_
        refine AWc.seq ?_
        refine AWc.rg hmix rfl rfl ?_
        refine RegV.p0 rfl rfl rfl ?_
        obtain ⟨b101, h85⟩ := gd_some h85
        refine RegV.iad (xs := a0.fNodes) (e := TNode.enc) rfl rfl rfl rfl (fun _ => rfl) b101 rfl ?_
        refine RegV.p1 (v := (.d (TNode.enc (rd a0.fNodes y85_2)))) rfl rfl rfl rfl rfl ?_
        refine RegV.evS (own := false) (v := (.ptr 3 0)) (H' := [(3, (.cells [(.d (.int .i64 (0 : Int))), (.d (.str ([] : List UInt8))), .nils, .nils, .nils, (.d (.bool false)), (.d (.str ([] : List UInt8))), (.d (.int .i64 (0 : Int))), .nils, (.d (.int .i64 (0 : Int)))])), (0, (.cells [(.d (.sl (List.map TNode.enc a0.fNodes)))])), (1, (rowO (D.int .i64) y53_3)), (2, (rowO (D.int .i64) y85_3))]) (c' := 4) rfl rfl trivial rfl rfl rfl rfl rfl rfl ?_
        refine RegV.p0 rfl rfl rfl ?_
        refine RegV.evN (own := false) (H' := [(3, (.cells [(.d (.int .i64 (rd a0.fNodes y85_2).fKind)), (.d (.str (rd a0.fNodes y85_2).fName)), (.d (.sl (List.map D.str (rd a0.fNodes y85_2).fAliases))), (.d (.sl (List.map TField.enc (rd a0.fNodes y85_2).fFields))), (.d (.sl (List.map D.str (rd a0.fNodes y85_2).fSymbols))), (.d (.bool (rd a0.fNodes y85_2).fHas)), (.d (.str (rd a0.fNodes y85_2).fDefault)), (.d (.int .i64 (rd a0.fNodes y85_2).fItems)), (.d (.sl (List.map (D.int .i64) (rd a0.fNodes y85_2).fBranches))), (.d (.int .i64 (rd a0.fNodes y85_2).fSize))])), (0, (.cells [(.d (.sl (List.map TNode.enc a0.fNodes)))])), (1, (rowO (D.int .i64) y53_3)), (2, (rowO (D.int .i64) y85_3))]) (c' := 4) rfl rfl (by exact ⟨rfl, Nat.le_of_ble_eq_true rfl, rfl⟩) rfl rfl rfl rfl ?_
        refine RegV.nil0 ?_
        refine AWc.seq ?_
        refine AWc.seq ?_
        refine AWc.rg hmix rfl rfl ?_
        refine RegV.p0 rfl rfl rfl ?_
        refine RegV.p0 rfl rfl rfl ?_
        obtain ⟨b112, h85⟩ := gd_some h85
        refine RegV.iaR (z := 1) rfl rfl (fun _ => rfl) b112 rfl ?_
        obtain ⟨b113, h85⟩ := gd_some h85
        refine RegV.ldR (e := (D.int .i64)) (xs := y53_3) (i := (y85_2).toNat) (H' := [(1, (rowO (D.int .i64) y53_3)), (3, (.cells [(.d (.int .i64 (rd a0.fNodes y85_2).fKind)), (.d (.str (rd a0.fNodes y85_2).fName)), (.d (.sl (List.map D.str (rd a0.fNodes y85_2).fAliases))), (.d (.sl (List.map TField.enc (rd a0.fNodes y85_2).fFields))), (.d (.sl (List.map D.str (rd a0.fNodes y85_2).fSymbols))), (.d (.bool (rd a0.fNodes y85_2).fHas)), (.d (.str (rd a0.fNodes y85_2).fDefault)), (.d (.int .i64 (rd a0.fNodes y85_2).fItems)), (.d (.sl (List.map (D.int .i64) (rd a0.fNodes y85_2).fBranches))), (.d (.int .i64 (rd a0.fNodes y85_2).fSize))])), (0, (.cells [(.d (.sl (List.map TNode.enc a0.fNodes)))])), (2, (rowO (D.int .i64) y85_3))]) rfl rfl rfl (int_ok _) rfl b113 rfl rfl rfl rfl ?_
        refine RegV.p0 (v := (.d (.bool (decide ((List.getD y53_3 (y85_2).toNat default) ≠ (-1 : Int)))))) rfl rfl rfl ?_
        refine RegV.nil0 ?_
        refine AWc.cond rfl (fun c115 => ?_) (fun c115 => ?_)
        · have h85 := cond_pos c115 h85
          refine AWc.exit ?_
          refine inBlk_eq ?_
          refine AWc.rg hmix rfl rfl ?_
          refine RegV.p0 (v := (.d (.int .i64 (IntKind.i64.wrap (y85_2 + (1 : Int)))))) rfl rfl rfl ?_
          refine RegV.p0 rfl rfl rfl ?_
          refine RegV.nil0 ?_
          exact ⟨(y85_1, (IntKind.i64.wrap (y85_2 + (1 : Int))), y85_3), h85, ⟨rfl, [], [], rfl, rfl, ⟨⟨_, rfl, (.refl _)⟩, rfl, ⟨⟨_, rfl, (.refl _)⟩, rfl, ⟨⟨_, rfl, (.refl _)⟩, rfl, ⟨⟨_, rfl, (.refl _)⟩, rfl, ⟨⟨_, rfl, (.refl _)⟩, rfl, ⟨⟨_, rfl, (.refl _)⟩, rfl, ⟨⟨_, rfl, (.refl _)⟩, rfl, trivial⟩⟩⟩⟩⟩⟩⟩, ⟨⟨_, rfl, (.refl _)⟩, rfl, rfl, ⟨⟨_, rfl, (.refl _)⟩, rfl, rfl, ⟨⟨_, rfl, (.refl _)⟩, rfl, rfl, trivial⟩⟩⟩⟩⟩
        · have h85 := cond_neg c115 h85
          refine AWc.skip ?_
          refine AWc.seq ?_
          refine AWc.rg hmix rfl rfl ?_
          refine RegV.p0 rfl rfl rfl ?_
          refine RegV.p0 rfl rfl rfl ?_
          refine RegV.ld (v := (.d (.agg [(.int .i64 (rd a0.fNodes y85_2).fKind), (.str (rd a0.fNodes y85_2).fName), (.sl (List.map D.str (rd a0.fNodes y85_2).fAliases)), (.sl (List.map TField.enc (rd a0.fNodes y85_2).fFields)), (.sl (List.map D.str (rd a0.fNodes y85_2).fSymbols)), (.bool (rd a0.fNodes y85_2).fHas), (.str (rd a0.fNodes y85_2).fDefault), (.int .i64 (rd a0.fNodes y85_2).fItems), (.sl (List.map (D.int .i64) (rd a0.fNodes y85_2).fBranches)), (.int .i64 (rd a0.fNodes y85_2).fSize)]))) (H' := [(3, (.cells [(.d (.int .i64 (rd a0.fNodes y85_2).fKind)), (.d (.str (rd a0.fNodes y85_2).fName)), (.d (.sl (List.map D.str (rd a0.fNodes y85_2).fAliases))), (.d (.sl (List.map TField.enc (rd a0.fNodes y85_2).fFields))), (.d (.sl (List.map D.str (rd a0.fNodes y85_2).fSymbols))), (.d (.bool (rd a0.fNodes y85_2).fHas)), (.d (.str (rd a0.fNodes y85_2).fDefault)), (.d (.int .i64 (rd a0.fNodes y85_2).fItems)), (.d (.sl (List.map (D.int .i64) (rd a0.fNodes y85_2).fBranches))), (.d (.int .i64 (rd a0.fNodes y85_2).fSize))])), (1, (rowO (D.int .i64) y53_3)), (0, (.cells [(.d (.sl (List.map TNode.enc a0.fNodes)))])), (2, (rowO (D.int .i64) y85_3))]) rfl rfl (Nat.le_of_ble_eq_true rfl) rfl rfl rfl rfl rfl ?_
          refine RegV.p0 rfl rfl rfl ?_
          obtain ⟨bw0, h85⟩ := gd_some h85
          obtain ⟨r125, e125, h85⟩ := bind_some h85
          refine RegV.callS (q := true) (H' := [(1, (rowO (D.int .i64) y53_3)), (3, (.cells [(.d (.int .i64 (rd a0.fNodes y85_2).fKind)), (.d (.str (rd a0.fNodes y85_2).fName)), (.d (.sl (List.map D.str (rd a0.fNodes y85_2).fAliases))), (.d (.sl (List.map TField.enc (rd a0.fNodes y85_2).fFields))), (.d (.sl (List.map D.str (rd a0.fNodes y85_2).fSymbols))), (.d (.bool (rd a0.fNodes y85_2).fHas)), (.d (.str (rd a0.fNodes y85_2).fDefault)), (.d (.int .i64 (rd a0.fNodes y85_2).fItems)), (.d (.sl (List.map (D.int .i64) (rd a0.fNodes y85_2).fBranches))), (.d (.int .i64 (rd a0.fNodes y85_2).fSize))])), (0, (.cells [(.d (.sl (List.map TNode.enc a0.fNodes)))])), (2, (rowO (D.int .i64) y85_3))]) (c' := 4) (show ACalls P (N 304) [(.d (.agg [(.int .i64 (rd a0.fNodes y85_2).fKind), (.str (rd a0.fNodes y85_2).fName), (.sl (List.map D.str (rd a0.fNodes y85_2).fAliases)), (.sl (List.map TField.enc (rd a0.fNodes y85_2).fFields)), (.sl (List.map D.str (rd a0.fNodes y85_2).fSymbols)), (.bool (rd a0.fNodes y85_2).fHas), (.str (rd a0.fNodes y85_2).fDefault), (.int .i64 (rd a0.fNodes y85_2).fItems), (.sl (List.map (D.int .i64) (rd a0.fNodes y85_2).fBranches)), (.int .i64 (rd a0.fNodes y85_2).fSize)])), (.row 1 1 y53_1)] [(1, (rowO (D.int .i64) y53_3))] (.d (.int .i64 r125)) [(1, (rowO (D.int .i64) y53_3))] from ACalls.borrow (e := (D.int .i64)) (xs := y53_3) (views := [(.d (.agg [(.int .i64 (rd a0.fNodes y85_2).fKind), (.str (rd a0.fNodes y85_2).fName), (.sl (List.map D.str (rd a0.fNodes y85_2).fAliases)), (.sl (List.map TField.enc (rd a0.fNodes y85_2).fFields)), (.sl (List.map D.str (rd a0.fNodes y85_2).fSymbols)), (.bool (rd a0.fNodes y85_2).fHas), (.str (rd a0.fNodes y85_2).fDefault), (.int .i64 (rd a0.fNodes y85_2).fItems), (.sl (List.map (D.int .i64) (rd a0.fNodes y85_2).fBranches)), (.int .i64 (rd a0.fNodes y85_2).fSize)])), (.d (.sl (List.map (D.int .i64) (List.take y53_1 y53_3))))]) (F304 hmix hc.2 e125) rfl (int_ok _) (.inr rfl) (.cons .same (.cons (.row bw0) .nil)) (.cons (.refl _) (.cons (.refl _) .nil)) .int) rfl rfl rfl rfl (SubL.refl _) (.refl _) (fun _ => rfl) rfl (hasCons rfl hasNil) rfl rfl rfl rfl ?_
          obtain ⟨b126, h85⟩ := gd_some h85
          refine RegV.iaR (z := 1) rfl rfl (fun _ => rfl) b126 rfl ?_
          obtain ⟨b127, h85⟩ := gd_some h85
          refine RegV.stR (e := (D.int .i64)) (xs := y85_3) (i := (y85_2).toNat) (v := r125) (H' := [(2, (rowO (D.int .i64) (List.set y85_3 (y85_2).toNat r125))), (1, (rowO (D.int .i64) y53_3)), (3, (.cells [(.d (.int .i64 (rd a0.fNodes y85_2).fKind)), (.d (.str (rd a0.fNodes y85_2).fName)), (.d (.sl (List.map D.str (rd a0.fNodes y85_2).fAliases))), (.d (.sl (List.map TField.enc (rd a0.fNodes y85_2).fFields))), (.d (.sl (List.map D.str (rd a0.fNodes y85_2).fSymbols))), (.d (.bool (rd a0.fNodes y85_2).fHas)), (.d (.str (rd a0.fNodes y85_2).fDefault)), (.d (.int .i64 (rd a0.fNodes y85_2).fItems)), (.d (.sl (List.map (D.int .i64) (rd a0.fNodes y85_2).fBranches))), (.d (.int .i64 (rd a0.fNodes y85_2).fSize))])), (0, (.cells [(.d (.sl (List.map TNode.enc a0.fNodes)))]))]) rfl rfl rfl rfl rfl (int_ok _) rfl b127 rfl rfl rfl ?_
          refine RegV.nil0 ?_
          refine AWc.rg hmix rfl rfl ?_
          refine RegV.p0 rfl rfl rfl ?_
          refine RegV.p0 rfl rfl rfl ?_
          refine RegV.split (fun c131 => ?_) (fun c131 => ?_)
          · have h85 := cond_pos c131 h85
            refine RegV.noS rfl rfl ?_
            refine RegV.noS rfl rfl ?_
            refine RegV.noS rfl rfl ?_
            refine RegV.noS rfl rfl ?_
            refine RegV.noS rfl rfl ?_
            refine RegV.p0 rfl rfl rfl ?_
            refine RegV.p0 rfl rfl rfl ?_
            refine RegV.nil0 ?_
            refine AWc.rg hmix rfl rfl ?_
            refine RegV.p0 (v := (.d (.int .i64 (IntKind.i64.wrap (y85_2 + (1 : Int)))))) rfl rfl rfl ?_
            refine RegV.p0 rfl rfl rfl ?_
            refine RegV.nil0 ?_
            exact ⟨(true, (IntKind.i64.wrap (y85_2 + (1 : Int))), (List.set y85_3 (y85_2).toNat r125)), h85, ⟨rfl, [], [], rfl, rfl, ⟨⟨_, rfl, (.refl _)⟩, rfl, ⟨⟨_, rfl, (.refl _)⟩, rfl, ⟨⟨_, rfl, (.refl _)⟩, rfl, ⟨⟨_, rfl, (.refl _)⟩, rfl, ⟨⟨_, rfl, (.refl _)⟩, rfl, ⟨⟨_, rfl, (.refl _)⟩, rfl, ⟨⟨_, rfl, (.refl _)⟩, rfl, trivial⟩⟩⟩⟩⟩⟩⟩, ⟨⟨_, rfl, (.refl _)⟩, rfl, rfl, ⟨⟨_, rfl, (.refl _)⟩, rfl, rfl, ⟨⟨_, rfl, (.refl _)⟩, rfl, rfl, trivial⟩⟩⟩⟩⟩
          · have h85 := cond_neg c131 h85
            refine RegV.p0 rfl rfl rfl ?_
            refine RegV.p0 rfl rfl rfl ?_
            obtain ⟨b134, h85⟩ := gd_some h85
            refine RegV.iaR (z := 1) rfl rfl (fun _ => rfl) b134 rfl ?_
            obtain ⟨b135, h85⟩ := gd_some h85
            refine RegV.ldR (e := (D.int .i64)) (xs := (List.set y85_3 (y85_2).toNat r125)) (i := (y85_2).toNat) (H' := [(2, (rowO (D.int .i64) (List.set y85_3 (y85_2).toNat r125))), (1, (rowO (D.int .i64) y53_3)), (3, (.cells [(.d (.int .i64 (rd a0.fNodes y85_2).fKind)), (.d (.str (rd a0.fNodes y85_2).fName)), (.d (.sl (List.map D.str (rd a0.fNodes y85_2).fAliases))), (.d (.sl (List.map TField.enc (rd a0.fNodes y85_2).fFields))), (.d (.sl (List.map D.str (rd a0.fNodes y85_2).fSymbols))), (.d (.bool (rd a0.fNodes y85_2).fHas)), (.d (.str (rd a0.fNodes y85_2).fDefault)), (.d (.int .i64 (rd a0.fNodes y85_2).fItems)), (.d (.sl (List.map (D.int .i64) (rd a0.fNodes y85_2).fBranches))), (.d (.int .i64 (rd a0.fNodes y85_2).fSize))])), (0, (.cells [(.d (.sl (List.map TNode.enc a0.fNodes)))]))]) rfl rfl rfl (int_ok _) rfl b135 rfl rfl rfl rfl ?_
            refine RegV.p0 (v := (.d (.bool (decide ((List.getD (List.set y85_3 (y85_2).toNat r125) (y85_2).toNat default) ≠ (-1 : Int)))))) rfl rfl rfl ?_
            refine RegV.p0 rfl rfl rfl ?_
            refine RegV.p0 rfl rfl rfl ?_
            refine RegV.nil0 ?_
            refine AWc.rg hmix rfl rfl ?_
            refine RegV.p0 (v := (.d (.int .i64 (IntKind.i64.wrap (y85_2 + (1 : Int)))))) rfl rfl rfl ?_
            refine RegV.p0 rfl rfl rfl ?_
            refine RegV.nil0 ?_
            exact ⟨((decide ((List.getD (List.set y85_3 (y85_2).toNat r125) (y85_2).toNat default) ≠ (-1 : Int))), (IntKind.i64.wrap (y85_2 + (1 : Int))), (List.set y85_3 (y85_2).toNat r125)), h85, ⟨rfl, [], [], rfl, rfl, ⟨⟨_, rfl, (.refl _)⟩, rfl, ⟨⟨_, rfl, (.refl _)⟩, rfl, ⟨⟨_, rfl, (.refl _)⟩, rfl, ⟨⟨_, rfl, (.refl _)⟩, rfl, ⟨⟨_, rfl, (.refl _)⟩, rfl, ⟨⟨_, rfl, (.refl _)⟩, rfl, ⟨⟨_, rfl, (.refl _)⟩, rfl, trivial⟩⟩⟩⟩⟩⟩⟩, ⟨⟨_, rfl, (.refl _)⟩, rfl, rfl, ⟨⟨_, rfl, (.refl _)⟩, rfl, rfl, ⟨⟨_, rfl, (.refl _)⟩, rfl, rfl, trivial⟩⟩⟩⟩⟩
      · have h85 := cond_neg c92 h85
        cases h85
        dsimp only at h53
        refine AWc.exit ?_
        refine inBlk_eq ?_
        refine AWc.rg hmix rfl rfl ?_
        refine RegV.p0 rfl rfl rfl ?_
        refine RegV.p0 rfl rfl rfl ?_
        refine RegV.nil0 ?_
        exact ⟨((List.take y53_1 y53_3).length, y85_1, y85_3), h53, ⟨rfl, [], [(1, 2)], rfl, rfl, ⟨⟨_, rfl, (.refl _)⟩, rfl, ⟨⟨_, rfl, (.refl _)⟩, rfl, ⟨⟨_, rfl, (.refl _)⟩, rfl, trivial⟩⟩⟩, ⟨⟨_, rfl, (.refl _)⟩, rfl, rfl, ⟨⟨_, rfl, (.refl _)⟩, rfl, rfl, trivial⟩⟩⟩⟩
    · have h53 := cond_neg c60 h53
      cases h53
      dsimp only at h
      refine AWc.exit ?_
      refine inBlk_eq ?_
      refine AWc.seq ?_
      refine AWc.rg hmix rfl rfl ?_
      refine RegV.p0 rfl rfl rfl ?_
      refine RegV.p0 rfl rfl rfl ?_
      refine RegV.nil0 ?_
      obtain ⟨bs1, h⟩ := gd_some h
      refine AWc.sealB (l0 := 1) (xs := y53_3) (l' := [(2, (.d (.sl (List.map (D.int .i64) (List.take y53_1 y53_3)))))]) (H' := [(0, (.cells [(.d (.sl (List.map TNode.enc a0.fNodes)))])), (1, (.tok (y53_3.length * 1)))]) (int_ok _) rfl (.inr rfl) ⟨⟨_, rfl, (.row bs1)⟩, trivial⟩ rfl ?_
      have hr := Option.some.inj h
      subst hr
      exact AWc.ret (canQ (N := 55) (k := 0) (l' := [(2, (.d (.sl (List.map (D.int .i64) (List.take y53_1 y53_3)))))]) (H' := []) rfl ⟨rfl, [], [], rfl, rfl, ⟨⟨_, rfl, (.refl _)⟩, rfl, trivial⟩,  trivial⟩ (doneA (.inr rfl) rfl ⟨trivial, trivial⟩ (.refl _) hasNil))
def RH306 (P : Program) (N : Nat → Nat) (rc306 : (List TNode) → (List Int) → Int → Int → Option (Bool × Int × Int × (List UInt8) × (List (RT 5)) × Int)) : Prop := ∀ (a0 : (List TNode)) (a1 : (List Int)) (a2 : Int) (a3 : Int) (r : (Bool × Int × Int × (List UInt8) × (List (RT 5)) × Int)), rc306 a0 a1 a2 a3 = some r → ACalls P (N 306) [(.ptr 0 0), (.d (.int .i64 a3))] [(0, (.cells [(.d (.sl (List.map TNode.enc a0))), (.d (.sl (List.map (D.int .i64) a1))), (.d (.int .i64 a2))]))] (.tup [(.d (.agg [(.int .i64 r.2.1), (.int .i64 r.2.2.1), (.sl (List.map byteD r.2.2.2.1)), (.sl (List.map (rtE (z := 5)) r.2.2.2.2.1)), (.sl (List.map D.str ([] : List (List UInt8))))])), (.d (.bool r.1))]) [(0, (.cells [(.d (.sl (List.map TNode.enc a0))), (.d (.sl (List.map (D.int .i64) a1))), (.d (.int .i64 r.2.2.2.2.2))]))]
/-- (*courant/live.maker).value -/
def C306 (N : Nat → Nat) : AFunc := { n := 161, params := 2, res := [.cell 4 5 true, .tmp 5], body :=
 (.seq (.region false [⟨(some 4), .alloc [(.int .i64 0), (.int .i64 0), (.sl []), (.sl []), (.sl [])], none, []⟩,
   ⟨(some 5), .mv (.k (.d (.bool false))), none, []⟩])
  (.seq (.seq (.region false [⟨(some 17), .mv (.t 0), none, []⟩,
     ⟨(some 18), .nilchk (.t 17), none, [0]⟩,
     ⟨(some 19), .faddr (.t 18) 2, none, [1]⟩,
     ⟨(some 20), .load (.t 19) 1 false, none, [2]⟩,
     ⟨(some 21), .bin .eql (.t 20) (.k (.d (.int .i64 0))), none, [3]⟩])
    (.cond (.t 21) (.seq (.region false [⟨(some 22), .build [(.int .i64 0), (.int .i64 0), (.sl []), (.sl []), (.sl [])] [], none, []⟩,
       ⟨none, .store (.t 4) (.t 22) 5, none, [0]⟩,
       ⟨(some 5), .mv (.k (.d (.bool false))), none, [1, 0]⟩])
      .ret)
     (.skip)))
   (.seq (.region false [⟨(some 23), .mv (.t 0), none, []⟩,
     ⟨(some 24), .nilchk (.t 23), none, [0]⟩,
     ⟨(some 25), .faddr (.t 24) 2, none, [1]⟩,
     ⟨(some 26), .load (.t 25) 1 false, none, [2]⟩,
     ⟨(some 27), .bin .sub (.t 26) (.k (.d (.int .i64 1))), none, [3]⟩,
     ⟨(some 28), .nilchk (.t 23), none, [0, 1, 2, 3, 4]⟩,
     ⟨(some 29), .faddr (.t 28) 2, none, [5, 0, 1, 2, 3, 4]⟩,
     ⟨none, .store (.t 29) (.t 27) 1, none, [6, 4, 0, 1, 2, 3]⟩])
    (.seq (.region false [⟨(some 30), .mv (.t 0), none, []⟩,
      ⟨(some 31), .nilchk (.t 30), none, [0]⟩,
      ⟨(some 32), .faddr (.t 31) 0, none, [1]⟩,
      ⟨(some 33), .faddr (.t 32) 0, none, [2]⟩,
      ⟨(some 34), .load (.t 33) 1 false, none, [3]⟩,
      ⟨(some 35), .mv (.t 1), none, []⟩,
      ⟨(some 36), .iaddr (.t 34) (.t 35) 10, none, [4, 5]⟩,
      ⟨(some 37), .load (.t 36) 10 true, none, [6]⟩,
      ⟨(some 6), .alloc [(.int .i64 0), (.str []), (.sl []), (.sl []), (.sl []), (.bool false), (.str []), (.int .i64 0), (.sl []), (.int .i64 0)], none, []⟩,
      ⟨none, .store (.t 6) (.t 37) 10, none, [8, 7, 0, 1, 2, 3, 4, 5, 6]⟩])
     (.seq (.region false [⟨(some 38), .faddr (.t 6) 0, none, []⟩,
       ⟨(some 39), .load (.t 38) 1 false, none, [0]⟩,
       ⟨(some 40), .build [(.int .i64 0), (.int .i64 0), (.sl []), (.sl []), (.sl [])] [(0, 1, (.t 39))], none, [1]⟩,
       ⟨(some 7), .alloc [(.int .i64 0), (.int .i64 0), (.sl []), (.sl []), (.sl [])], none, []⟩,
       ⟨none, .store (.t 7) (.t 40) 5, none, [3, 2, 0, 1]⟩])
      (.seq (.seq (.region false [⟨(some 41), .faddr (.t 6) 0, none, []⟩,
         ⟨(some 42), .load (.t 41) 1 false, none, [0]⟩])
        (.block 0 (.seq (.region false [⟨(some 44), .bin .eql (.t 42) (.k (.d (.int .i64 5))), none, []⟩,
           ⟨(some 43), .mv (.t 44), none, [0]⟩])
          (.cond (.t 43) (.region false [⟨(some 45), .mksl (.k (.d (.int .i64 4))) (.k (.d (.int .i64 4))) 1 1 [(.int .u8 0)], none, []⟩,
            ⟨(some 46), .faddr (.t 7) 2, none, [0]⟩,
            ⟨none, .store (.t 46) (.t 45) 1, none, [1, 0]⟩])
           (.seq (.region false [⟨(some 48), .bin .eql (.t 42) (.k (.d (.int .i64 6))), none, []⟩,
             ⟨(some 47), .mv (.t 48), none, [0]⟩])
            (.cond (.t 47) (.region false [⟨(some 49), .mksl (.k (.d (.int .i64 8))) (.k (.d (.int .i64 8))) 1 1 [(.int .u8 0)], none, []⟩,
              ⟨(some 50), .faddr (.t 7) 2, none, [0]⟩,
              ⟨none, .store (.t 50) (.t 49) 1, none, [1, 0]⟩])
             (.seq (.region false [⟨(some 52), .bin .eql (.t 42) (.k (.d (.int .i64 14))), none, []⟩,
               ⟨(some 51), .mv (.t 52), none, [0]⟩])
              (.cond (.t 51) (.region false [⟨(some 53), .faddr (.t 6) 9, none, []⟩,
                ⟨(some 54), .load (.t 53) 1 false, none, [0]⟩,
                ⟨(some 55), .mm true [(.t 54), (.k (.d (.int .i64 0)))], none, [1]⟩,
                ⟨(some 56), .mksl (.t 55) (.t 55) 1 1 [(.int .u8 0)], none, [2]⟩,
                ⟨(some 57), .faddr (.t 7) 2, none, [0, 1, 2, 3]⟩,
                ⟨none, .store (.t 57) (.t 56) 1, none, [4, 3, 0, 1, 2]⟩])
               (.seq (.region false [⟨(some 59), .bin .eql (.t 42) (.k (.d (.int .i64 9))), none, []⟩,
                 ⟨(some 58), .mv (.t 59), none, [0]⟩])
                (.cond (.t 58) (.seq (.region false [⟨(some 60), .faddr (.t 6) 3, none, []⟩,
                   ⟨(some 61), .load (.t 60) 1 false, none, [0]⟩,
                   ⟨(some 62), .len (.t 61), none, [1]⟩,
                   ⟨(some 63), .mv (.k (.d (.int .i64 0))), none, []⟩])
                  (.block 1 (.loop (.seq (.region false [⟨(some 64), .bin .lss (.t 63) (.t 62), none, []⟩])
                     (.seq (.cond (.t 64) (.skip)
                       (.exit 1))
                      (.seq (.block 2 (.seq (.region false [⟨(some 65), .iaddr (.t 61) (.t 63) 5, none, []⟩,
                          ⟨(some 66), .load (.t 65) 5 true, none, [0]⟩,
                          ⟨(some 9), .alloc [(.str []), (.sl []), (.int .i64 0), (.bool false), (.str [])], none, []⟩,
                          ⟨none, .store (.t 9) (.t 66) 5, none, [2, 1, 0]⟩])
                         (.seq (.region false [⟨(some 68), .mv (.t 0), none, []⟩,
                           ⟨(some 69), .faddr (.t 9) 2, none, []⟩,
                           ⟨(some 70), .load (.t 69) 1 false, none, [1]⟩,
                           ⟨(some 71), .call (.k (.d (.fn (N 306)))) [(.t 68), (.t 70)], none, [0, 2]⟩,
                           ⟨(some 67), .mv (.t 71), none, [3]⟩,
                           ⟨(some 72), .ext (.t 67) 0, none, [4]⟩,
                           ⟨(some 73), .ext (.t 67) 1, none, [4]⟩,
                           ⟨(some 10), .alloc [(.int .i64 0), (.int .i64 0), (.sl []), (.sl []), (.sl [])], none, []⟩,
                           ⟨none, .store (.t 10) (.t 72) 5, none, [7, 5, 3, 0, 1, 2, 4]⟩,
                           ⟨(some 11), .mv (.t 73), none, [6, 8, 0, 1, 2, 3, 4, 5, 7]⟩])
                          (.seq (.seq (.region false [⟨(some 74), .mv (.t 11), none, []⟩,
                             ⟨(some 75), .un .not (.t 74), none, [0]⟩])
                            (.cond (.t 75) (.seq (.region false [⟨(some 76), .build [(.int .i64 0), (.int .i64 0), (.sl []), (.sl []), (.sl [])] [], none, []⟩,
                               ⟨none, .store (.t 4) (.t 76) 5, none, [0]⟩,
                               ⟨(some 5), .mv (.k (.d (.bool false))), none, [1, 0]⟩])
                              .ret)
                             (.skip)))
                           (.region false [⟨(some 77), .faddr (.t 7) 3, none, []⟩,
                            ⟨(some 78), .load (.t 77) 1 false, none, [0]⟩,
                            ⟨(some 79), .load (.t 10) 5 true, none, []⟩,
                            ⟨(some 80), .bslice 1 5 [(.int .i64 0), (.int .i64 0), (.sl []), (.sl []), (.sl [])] [(0, (.t 79))], none, [2]⟩,
                            ⟨(some 81), .app (.t 78) (.t 80) 5 88 [(.int .i64 0), (.int .i64 0), (.sl []), (.sl []), (.sl [])], none, [1, 3]⟩,
                            ⟨(some 82), .faddr (.t 7) 3, none, [0, 1, 2, 3, 4]⟩,
                            ⟨none, .store (.t 82) (.t 81) 1, none, [5, 4, 0, 1, 2, 3]⟩])))))
                       (.region false [⟨(some 83), .bin .add (.t 63) (.k (.d (.int .i64 1))), none, []⟩,
                        ⟨(some 63), .mv (.t 83), none, [0]⟩])))))))
                 (.seq (.region false [⟨(some 85), .bin .eql (.t 42) (.k (.d (.int .i64 13))), none, []⟩,
                   ⟨(some 84), .mv (.t 85), none, [0]⟩])
                  (.cond (.t 84) (.seq (.region false [⟨(some 12), .mv (.k (.d (.int .i64 (-1)))), none, []⟩])
                    (.seq (.seq (.region false [⟨(some 86), .faddr (.t 6) 8, none, []⟩,
                       ⟨(some 87), .load (.t 86) 1 false, none, [0]⟩,
                       ⟨(some 88), .len (.t 87), none, [1]⟩,
                       ⟨(some 89), .mv (.k (.d (.int .i64 0))), none, []⟩])
                      (.block 3 (.loop (.seq (.region false [⟨(some 90), .bin .lss (.t 89) (.t 88), none, []⟩])
                         (.seq (.cond (.t 90) (.skip)
                           (.exit 3))
                          (.seq (.block 4 (.seq (.region false [⟨(some 91), .mv (.t 89), none, []⟩,
                              ⟨(some 92), .iaddr (.t 87) (.t 89) 1, none, []⟩,
                              ⟨(some 93), .load (.t 92) 1 false, none, [1]⟩,
                              ⟨(some 13), .mv (.t 91), none, [0, 1, 2]⟩,
                              ⟨(some 14), .mv (.t 93), none, [2, 3, 0, 1]⟩])
                             (.seq (.region true [⟨(some 94), .mv (.t 14), none, []⟩,
                               ⟨(some 95), .bin .geq (.t 94) (.k (.d (.int .i64 0))), none, [0]⟩,
                               ⟨(some 96), .mv (.t 95), none, [1]⟩,
                               ⟨(some 97), .mv (.t 14), (some (96, true)), [2]⟩,
                               ⟨(some 98), .mv (.t 0), (some (96, true)), [2]⟩,
                               ⟨(some 99), .nilchk (.t 98), (some (96, true)), [4, 2]⟩,
                               ⟨(some 100), .faddr (.t 99) 1, (some (96, true)), [5, 2]⟩,
                               ⟨(some 101), .load (.t 100) 1 false, (some (96, true)), [6, 2]⟩,
                               ⟨(some 102), .len (.t 101), (some (96, true)), [7, 2]⟩,
                               ⟨(some 103), .bin .lss (.t 97) (.t 102), (some (96, true)), [3, 8, 2]⟩,
                               ⟨(some 104), .pick (.t 96) (.t 103) (.k (.d (.bool false))), none, [2, 9]⟩,
                               ⟨(some 105), .mv (.t 104), none, [10, 2]⟩,
                               ⟨(some 106), .mv (.t 0), (some (105, true)), [11]⟩,
                               ⟨(some 107), .nilchk (.t 106), (some (105, true)), [12, 11]⟩,
                               ⟨(some 108), .faddr (.t 107) 1, (some (105, true)), [13, 11]⟩,
                               ⟨(some 109), .load (.t 108) 1 false, (some (105, true)), [14, 11]⟩,
                               ⟨(some 110), .mv (.t 14), (some (105, true)), [11]⟩,
                               ⟨(some 111), .iaddr (.t 109) (.t 110) 1, (some (105, true)), [15, 16, 11]⟩,
                               ⟨(some 112), .load (.t 111) 1 false, (some (105, true)), [17, 11]⟩,
                               ⟨(some 113), .bin .neq (.t 112) (.k (.d (.int .i64 (-1)))), (some (105, true)), [18, 11]⟩,
                               ⟨(some 114), .pick (.t 105) (.t 113) (.k (.d (.bool false))), none, [11, 19]⟩,
                               ⟨(some 115), .mv (.t 114), none, [20, 11]⟩,
                               ⟨(some 116), .mv (.t 12), (some (115, true)), [21]⟩,
                               ⟨(some 117), .bin .eql (.t 116) (.k (.d (.int .i64 (-1)))), (some (115, true)), [22, 21]⟩,
                               ⟨(some 118), .mv (.t 117), (some (115, true)), [23, 21]⟩,
                               ⟨(some 119), .mv (.t 0), (some (118, false)), [24]⟩,
                               ⟨(some 120), .nilchk (.t 119), (some (118, false)), [25, 24]⟩,
                               ⟨(some 121), .faddr (.t 120) 1, (some (118, false)), [26, 24]⟩,
                               ⟨(some 122), .load (.t 121) 1 false, (some (118, false)), [27, 24]⟩,
                               ⟨(some 123), .mv (.t 14), (some (118, false)), [24]⟩,
                               ⟨(some 124), .iaddr (.t 122) (.t 123) 1, (some (118, false)), [28, 29, 24]⟩,
                               ⟨(some 125), .load (.t 124) 1 false, (some (118, false)), [30, 24]⟩,
                               ⟨(some 126), .mv (.t 0), (some (118, false)), [24]⟩,
                               ⟨(some 127), .nilchk (.t 126), (some (118, false)), [32, 24]⟩,
                               ⟨(some 128), .faddr (.t 127) 1, (some (118, false)), [33, 24]⟩,
                               ⟨(some 129), .load (.t 128) 1 false, (some (118, false)), [34, 24]⟩,
                               ⟨(some 130), .faddr (.t 6) 8, (some (118, false)), [24]⟩,
                               ⟨(some 131), .load (.t 130) 1 false, (some (118, false)), [36, 24]⟩,
                               ⟨(some 132), .mv (.t 12), (some (118, false)), [24]⟩,
                               ⟨(some 133), .iaddr (.t 131) (.t 132) 1, (some (118, false)), [37, 38, 24]⟩,
                               ⟨(some 134), .load (.t 133) 1 false, (some (118, false)), [39, 24]⟩,
                               ⟨(some 135), .iaddr (.t 129) (.t 134) 1, (some (118, false)), [35, 40, 24]⟩,
                               ⟨(some 136), .load (.t 135) 1 false, (some (118, false)), [41, 24]⟩,
                               ⟨(some 137), .bin .lss (.t 125) (.t 136), (some (118, false)), [31, 42, 24]⟩,
                               ⟨(some 138), .pick (.t 118) (.k (.d (.bool true))) (.t 137), (some (115, true)), [24, 43, 21]⟩,
                               ⟨(some 139), .pick (.t 115) (.t 138) (.k (.d (.bool false))), none, [21, 44]⟩])
                              (.cond (.t 139) (.region false [⟨(some 140), .mv (.t 13), none, []⟩,
                                ⟨(some 12), .mv (.t 140), none, [0]⟩])
                               (.skip)))))
                           (.region false [⟨(some 141), .bin .add (.t 89) (.k (.d (.int .i64 1))), none, []⟩,
                            ⟨(some 89), .mv (.t 141), none, [0]⟩])))))))
                     (.seq (.region false [⟨(some 143), .mv (.t 0), none, []⟩,
                       ⟨(some 144), .faddr (.t 6) 8, none, []⟩,
                       ⟨(some 145), .load (.t 144) 1 false, none, [1]⟩,
                       ⟨(some 146), .mv (.t 12), none, []⟩,
                       ⟨(some 147), .iaddr (.t 145) (.t 146) 1, none, [2, 3]⟩,
                       ⟨(some 148), .load (.t 147) 1 false, none, [4]⟩,
                       ⟨(some 149), .call (.k (.d (.fn (N 306)))) [(.t 143), (.t 148)], none, [0, 5]⟩,
                       ⟨(some 142), .mv (.t 149), none, [6]⟩,
                       ⟨(some 150), .ext (.t 142) 0, none, [7]⟩,
                       ⟨(some 151), .ext (.t 142) 1, none, [7]⟩,
                       ⟨(some 15), .alloc [(.int .i64 0), (.int .i64 0), (.sl []), (.sl []), (.sl [])], none, []⟩,
                       ⟨none, .store (.t 15) (.t 150) 5, none, [10, 8, 6, 0, 1, 2, 3, 4, 5, 7]⟩,
                       ⟨(some 16), .mv (.t 151), none, [9, 11, 0, 1, 2, 3, 4, 5, 6, 7, 8, 10]⟩])
                      (.seq (.seq (.region false [⟨(some 152), .mv (.t 16), none, []⟩,
                         ⟨(some 153), .un .not (.t 152), none, [0]⟩])
                        (.cond (.t 153) (.seq (.region false [⟨(some 154), .build [(.int .i64 0), (.int .i64 0), (.sl []), (.sl []), (.sl [])] [], none, []⟩,
                           ⟨none, .store (.t 4) (.t 154) 5, none, [0]⟩,
                           ⟨(some 5), .mv (.k (.d (.bool false))), none, [1, 0]⟩])
                          .ret)
                         (.skip)))
                       (.region true [⟨(some 155), .mv (.t 12), none, []⟩,
                        ⟨(some 156), .load (.t 15) 5 true, none, []⟩,
                        ⟨(some 157), .bslice 1 5 [(.int .i64 0), (.int .i64 0), (.sl []), (.sl []), (.sl [])] [(0, (.t 156))], none, [1]⟩,
                        ⟨(some 158), .faddr (.t 7) 1, none, [0]⟩,
                        ⟨none, .store (.t 158) (.t 155) 1, none, [3, 0]⟩,
                        ⟨(some 159), .faddr (.t 7) 3, none, [0, 1, 2, 3, 4]⟩,
                        ⟨none, .store (.t 159) (.t 157) 1, none, [5, 2, 4, 0, 1, 3]⟩])))))
                   (.skip)))))))))))))
       (.seq (.region false [⟨(some 160), .load (.t 7) 5 true, none, []⟩,
         ⟨none, .store (.t 4) (.t 160) 5, none, [0]⟩,
         ⟨(some 5), .mv (.k (.d (.bool true))), none, [1, 0]⟩])
        .ret))))))) }
def HC306 (P : Program) (N : Nat → Nat) : Prop := HasF P (N 306) (C306 N)
def f306_j310 (k : Nat) (a0 : (List TNode)) (a3 : Int) (j310_1 : Int) (j310_2 : (List UInt8)) (j310_3 : (List (RT 5))) (j310_4 : Int) : Option (Bool × Int × Int × (List UInt8) × (List (RT 5)) × Int) := some (true, (rd a0 a3).fKind, j310_1, j310_2, j310_3, j310_4)
def f306_l112 (a0 : (List TNode)) (a3 : Int) (rc306 : (List TNode) → (List Int) → Int → Int → Option (Bool × Int × Int × (List UInt8) × (List (RT 5)) × Int)) (a1 : (List Int)) : Nat → Int → Int → (List (RT 5)) → Option (LR2 ((List (RT 5)) × Int) Unit (Bool × Int × Int × (List UInt8) × (List (RT 5)) × Int))
  | 0, _, _, _ => none
  | k + 1, y112_1, y112_2, y112_3 => cond (decide (y112_1 < ((((rd a0 a3).fFields).length : Nat) : Int))) (gd (0 ≤ y112_1 ∧ y112_1 < ((((rd a0 a3).fFields).length : Nat) : Int)) ((rc306 a0 a1 y112_2 ((rd ((rd a0 a3).fFields) y112_1).fType)).bind fun r137 => cond (!r137.1) (some (.r (false, (0 : Int), (0 : Int), ([] : List UInt8), ([] : List (RT 5)), r137.2.2.2.2.2))) (gd ((y112_3.length + ([(RT.of TValue.ok (TValue.mk r137.2.1 r137.2.2.1 r137.2.2.2.1 r137.2.2.2.2.1 ([] : List (List UInt8))))] : List (RT 5)).length) * 2 * 88 ≤ 281474976710656) (f306_l112 a0 a3 rc306 a1 k (IntKind.i64.wrap (y112_1 + (1 : Int))) r137.2.2.2.2.2 (y112_3 ++ ([(RT.of TValue.ok (TValue.mk r137.2.1 r137.2.2.1 r137.2.2.2.1 r137.2.2.2.2.1 ([] : List (List UInt8))))] : List (RT 5))))))) (some (.b0 (y112_3, y112_2)))
def f306_j269 (k : Nat) (a0 : (List TNode)) (a3 : Int) (rc306 : (List TNode) → (List Int) → Int → Int → Option (Bool × Int × Int × (List UInt8) × (List (RT 5)) × Int)) (a1 : (List Int)) (a2 : Int) (j269_1 : Int) : Option (Bool × Int × Int × (List UInt8) × (List (RT 5)) × Int) := gd (0 ≤ j269_1 ∧ j269_1 < ((((rd a0 a3).fBranches).length : Nat) : Int)) ((rc306 a0 a1 (IntKind.i64.wrap (a2 - (1 : Int))) (rd ((rd a0 a3).fBranches) j269_1)).bind fun r278 => cond (!r278.1) (some (false, (0 : Int), (0 : Int), ([] : List UInt8), ([] : List (RT 5)), r278.2.2.2.2.2)) (f306_j310 k a0 a3 j269_1 ([] : List UInt8) ([(RT.of TValue.ok (TValue.mk r278.2.1 r278.2.2.1 r278.2.2.2.1 r278.2.2.2.2.1 ([] : List (List UInt8))))] : List (RT 5)) r278.2.2.2.2.2))
def f306_l190 (a0 : (List TNode)) (a3 : Int) (a1 : (List Int)) : Nat → Int → Int → Option (LR2 Int Unit (Bool × Int × Int × (List UInt8) × (List (RT 5)) × Int))
  | 0, _, _ => none
  | k + 1, y190_1, y190_2 => cond (decide (y190_2 < ((((rd a0 a3).fBranches).length : Nat) : Int))) (gd (0 ≤ y190_2 ∧ y190_2 < ((((rd a0 a3).fBranches).length : Nat) : Int)) (cond (decide ((rd ((rd a0 a3).fBranches) y190_2) ≥ (0 : Int))) (cond (decide ((rd ((rd a0 a3).fBranches) y190_2) < ((a1.length : Nat) : Int))) (gd (0 ≤ (rd ((rd a0 a3).fBranches) y190_2) ∧ (rd ((rd a0 a3).fBranches) y190_2) < ((a1.length : Nat) : Int)) (cond (decide ((rd a1 (rd ((rd a0 a3).fBranches) y190_2)) ≠ (-1 : Int))) (cond (decide (y190_1 = (-1 : Int))) (f306_l190 a0 a3 a1 k y190_2 (IntKind.i64.wrap (y190_2 + (1 : Int)))) (gd (0 ≤ (rd ((rd a0 a3).fBranches) y190_2) ∧ (rd ((rd a0 a3).fBranches) y190_2) < ((a1.length : Nat) : Int)) (gd (0 ≤ y190_1 ∧ y190_1 < ((((rd a0 a3).fBranches).length : Nat) : Int)) (gd (0 ≤ (rd ((rd a0 a3).fBranches) y190_1) ∧ (rd ((rd a0 a3).fBranches) y190_1) < ((a1.length : Nat) : Int)) (cond (decide ((rd a1 (rd ((rd a0 a3).fBranches) y190_2)) < (rd a1 (rd ((rd a0 a3).fBranches) y190_1)))) (f306_l190 a0 a3 a1 k y190_2 (IntKind.i64.wrap (y190_2 + (1 : Int)))) (f306_l190 a0 a3 a1 k y190_1 (IntKind.i64.wrap (y190_2 + (1 : Int))))))))) (f306_l190 a0 a3 a1 k y190_1 (IntKind.i64.wrap (y190_2 + (1 : Int)))))) (f306_l190 a0 a3 a1 k y190_1 (IntKind.i64.wrap (y190_2 + (1 : Int))))) (f306_l190 a0 a3 a1 k y190_1 (IntKind.i64.wrap (y190_2 + (1 : Int)))))) (some (.b0 y190_1))
def f306_s (rc306 : (List TNode) → (List Int) → Int → Int → Option (Bool × Int × Int × (List UInt8) × (List (RT 5)) × Int)) (k : Nat) (a0 : (List TNode)) (a1 : (List Int)) (a2 : Int) (a3 : Int) : Option (Bool × Int × Int × (List UInt8) × (List (RT 5)) × Int) := cond (decide (a2 = (0 : Int))) (some (false, (0 : Int), (0 : Int), ([] : List UInt8), ([] : List (RT 5)), a2)) (gd (0 ≤ a3 ∧ a3 < ((a0.length : Nat) : Int)) (cond (decide ((rd a0 a3).fKind = (5 : Int))) (gd (0 ≤ (4 : Int) ∧ (4 : Int) ≤ (4 : Int) ∧ (4 : Int) * 1 ≤ 281474976710656) (f306_j310 k a0 a3 (0 : Int) (List.replicate ((4 : Int)).toNat (default : UInt8)) ([] : List (RT 5)) (IntKind.i64.wrap (a2 - (1 : Int))))) (cond (decide ((rd a0 a3).fKind = (6 : Int))) (gd (0 ≤ (8 : Int) ∧ (8 : Int) ≤ (8 : Int) ∧ (8 : Int) * 1 ≤ 281474976710656) (f306_j310 k a0 a3 (0 : Int) (List.replicate ((8 : Int)).toNat (default : UInt8)) ([] : List (RT 5)) (IntKind.i64.wrap (a2 - (1 : Int))))) (cond (decide ((rd a0 a3).fKind = (14 : Int))) (gd (0 ≤ (max (rd a0 a3).fSize (0 : Int)) ∧ (max (rd a0 a3).fSize (0 : Int)) ≤ (max (rd a0 a3).fSize (0 : Int)) ∧ (max (rd a0 a3).fSize (0 : Int)) * 1 ≤ 281474976710656) (f306_j310 k a0 a3 (0 : Int) (List.replicate ((max (rd a0 a3).fSize (0 : Int))).toNat (default : UInt8)) ([] : List (RT 5)) (IntKind.i64.wrap (a2 - (1 : Int))))) (cond (decide ((rd a0 a3).fKind = (9 : Int))) ((f306_l112 a0 a3 rc306 a1 k (0 : Int) (IntKind.i64.wrap (a2 - (1 : Int))) ([] : List (RT 5))).bind fun o112 => match o112 with | .b0 (x112_1, x112_2) => f306_j310 k a0 a3 (0 : Int) ([] : List UInt8) x112_1 x112_2 | .r x => some x | _ => none) (cond (decide ((rd a0 a3).fKind = (13 : Int))) ((f306_l190 a0 a3 a1 k (-1 : Int) (0 : Int)).bind fun o190 => match o190 with | .b0 x190_1 => f306_j269 k a0 a3 rc306 a1 a2 x190_1 | _ => none) (f306_j310 k a0 a3 (0 : Int) ([] : List UInt8) ([] : List (RT 5)) (IntKind.i64.wrap (a2 - (1 : Int))))))))))
theorem F306_s {P : Program} {N : Nat → Nat} (hmix : P.follows .mixedOrders = true) (hc : HC306 P N) {rc306 : (List TNode) → (List Int) → Int → Int → Option (Bool × Int × Int × (List UInt8) × (List (RT 5)) × Int)} (hrc306 : RH306 P N rc306) {k : Nat} {a0 : (List TNode)} {a1 : (List Int)} {a2 : Int} {a3 : Int} {r : (Bool × Int × Int × (List UInt8) × (List (RT 5)) × Int)} (h : f306_s rc306 k a0 a1 a2 a3 = some r) :
    ACalls P (N 306) [(.ptr 0 0), (.d (.int .i64 a3))] [(0, (.cells [(.d (.sl (List.map TNode.enc a0))), (.d (.sl (List.map (D.int .i64) a1))), (.d (.int .i64 a2))]))] (.tup [(.d (.agg [(.int .i64 r.2.1), (.int .i64 r.2.2.1), (.sl (List.map byteD r.2.2.2.1)), (.sl (List.map (rtE (z := 5)) r.2.2.2.2.1)), (.sl (List.map D.str ([] : List (List UInt8))))])), (.d (.bool r.1))]) [(0, (.cells [(.d (.sl (List.map TNode.enc a0))), (.d (.sl (List.map (D.int .i64) a1))), (.d (.int .i64 r.2.2.2.2.2))]))] := by
  refine acalls_canon (F := C306 N) hc 1 1 rfl ?_
  unfold f306_s at h
  dsimp only [C306, startL]
  refine AWc.seq ?_
  refine AWc.rg hmix rfl rfl ?_
  refine RegV.evS (own := false) (v := (.ptr 1 0)) (H' := [(1, (.cells [(.d (.int .i64 (0 : Int))), (.d (.int .i64 (0 : Int))), .nils, .nils, .nils])), (0, (.cells [(.d (.sl (List.map TNode.enc a0))), (.d (.sl (List.map (D.int .i64) a1))), (.d (.int .i64 a2))]))]) (c' := 2) rfl rfl trivial rfl rfl rfl rfl rfl rfl ?_
  refine RegV.p0 rfl rfl rfl ?_
  refine RegV.nil0 ?_
  refine AWc.seq ?_
  refine AWc.seq ?_
  refine AWc.rg hmix rfl rfl ?_
  refine RegV.p0 rfl rfl rfl ?_
  refine RegV.p0 rfl rfl rfl ?_
  refine RegV.p0 (v := (.ptr 0 2)) rfl rfl rfl ?_
  refine RegV.ld (v := (.d (.int .i64 a2))) (H' := [(0, (.cells [(.d (.sl (List.map TNode.enc a0))), (.d (.sl (List.map (D.int .i64) a1))), (.d (.int .i64 a2))])), (1, (.cells [(.d (.int .i64 (0 : Int))), (.d (.int .i64 (0 : Int))), .nils, .nils, .nils]))]) rfl rfl trivial rfl rfl rfl rfl rfl ?_
  refine RegV.p0 (v := (.d (.bool (decide (a2 = (0 : Int)))))) rfl rfl rfl ?_
  refine RegV.nil0 ?_
  refine AWc.cond rfl (fun c15 => ?_) (fun c15 => ?_)
  · have h := cond_pos c15 h
    refine AWc.seq ?_
    refine AWc.rg hmix rfl rfl ?_
    refine RegV.p1 (v := (.d (.agg [(.int .i64 (0 : Int)), (.int .i64 (0 : Int)), (.sl (List.map byteD ([] : List UInt8))), (.sl (List.map (rtE (z := 5)) ([] : List (RT 5)))), (.sl (List.map D.str ([] : List (List UInt8))))]))) rfl rfl trivial rfl rfl ?_
    refine RegV.evN (own := false) (H' := [(1, (.cells [(.d (.int .i64 (0 : Int))), (.d (.int .i64 (0 : Int))), (.d (.sl (List.map byteD ([] : List UInt8)))), (.d (.sl (List.map (rtE (z := 5)) ([] : List (RT 5))))), (.d (.sl (List.map D.str ([] : List (List UInt8)))))])), (0, (.cells [(.d (.sl (List.map TNode.enc a0))), (.d (.sl (List.map (D.int .i64) a1))), (.d (.int .i64 a2))]))]) (c' := 2) rfl rfl (by exact ⟨rfl, Nat.le_of_ble_eq_true rfl, rfl⟩) rfl rfl rfl rfl ?_
    refine RegV.p0 rfl rfl rfl ?_
    refine RegV.nil0 ?_
    have hr := Option.some.inj h
    subst hr
    exact AWc.ret (canQ (N := 161) (k := 2) (l' := [(4, (.ptr 1 0)), (5, (.d (.bool false)))]) (H' := [(1, (.cells [(.d (.int .i64 (0 : Int))), (.d (.int .i64 (0 : Int))), (.d (.sl (List.map byteD ([] : List UInt8)))), (.d (.sl (List.map (rtE (z := 5)) ([] : List (RT 5))))), (.d (.sl (List.map D.str ([] : List (List UInt8)))))])), (0, (.cells [(.d (.sl (List.map TNode.enc a0))), (.d (.sl (List.map (D.int .i64) a1))), (.d (.int .i64 a2))]))]) rfl ⟨rfl, [], [], rfl, rfl, ⟨⟨_, rfl, (.refl _)⟩, rfl, ⟨⟨_, rfl, (.refl _)⟩, rfl, trivial⟩⟩, ⟨⟨_, rfl, (.refl _)⟩, rfl, rfl, ⟨⟨_, rfl, (.refl _)⟩, rfl, rfl, trivial⟩⟩⟩ (doneA (.inr rfl) rfl ⟨(Nat.le_of_ble_eq_true rfl), ⟨trivial, trivial⟩⟩ (.refl _) (hasCons rfl hasNil)))
  · have h := cond_neg c15 h
    refine AWc.skip ?_
    refine AWc.seq ?_
    refine AWc.rg hmix rfl rfl ?_
    refine RegV.p0 rfl rfl rfl ?_
    refine RegV.p0 rfl rfl rfl ?_
    refine RegV.p0 (v := (.ptr 0 2)) rfl rfl rfl ?_
    refine RegV.ld (v := (.d (.int .i64 a2))) (H' := [(0, (.cells [(.d (.sl (List.map TNode.enc a0))), (.d (.sl (List.map (D.int .i64) a1))), (.d (.int .i64 a2))])), (1, (.cells [(.d (.int .i64 (0 : Int))), (.d (.int .i64 (0 : Int))), .nils, .nils, .nils]))]) rfl rfl trivial rfl rfl rfl rfl rfl ?_
    refine RegV.p0 (v := (.d (.int .i64 (IntKind.i64.wrap (a2 - (1 : Int)))))) rfl rfl rfl ?_
    refine RegV.p0 rfl rfl rfl ?_
    refine RegV.p0 (v := (.ptr 0 2)) rfl rfl rfl ?_
    refine RegV.evN (own := false) (H' := [(0, (.cells [(.d (.sl (List.map TNode.enc a0))), (.d (.sl (List.map (D.int .i64) a1))), (.d (.int .i64 (IntKind.i64.wrap (a2 - (1 : Int)))))])), (1, (.cells [(.d (.int .i64 (0 : Int))), (.d (.int .i64 (0 : Int))), .nils, .nils, .nils]))]) (c' := 2) rfl rfl (by exact ⟨rfl, Nat.le_of_ble_eq_true rfl, rfl⟩) rfl rfl rfl rfl ?_
    refine RegV.nil0 ?_
    refine AWc.seq ?_
    refine AWc.rg hmix rfl rfl ?_
    refine RegV.p0 rfl rfl rfl ?_
    refine RegV.p0 rfl rfl rfl ?_
    refine RegV.p0 (v := (.ptr 0 0)) rfl rfl rfl ?_
    refine RegV.p0 (v := (.ptr 0 0)) rfl rfl rfl ?_
    refine RegV.ld (v := (.d (.sl (List.map TNode.enc a0)))) (H' := [(0, (.cells [(.d (.sl (List.map TNode.enc a0))), (.d (.sl (List.map (D.int .i64) a1))), (.d (.int .i64 (IntKind.i64.wrap (a2 - (1 : Int)))))])), (1, (.cells [(.d (.int .i64 (0 : Int))), (.d (.int .i64 (0 : Int))), .nils, .nils, .nils]))]) rfl rfl trivial rfl rfl rfl rfl rfl ?_
    refine RegV.p0 rfl rfl rfl ?_
    obtain ⟨b44, h⟩ := gd_some h
    refine RegV.iad (xs := a0) (e := TNode.enc) rfl rfl rfl rfl (fun _ => rfl) b44 rfl ?_
    refine RegV.p1 (v := (.d (TNode.enc (rd a0 a3)))) rfl rfl rfl rfl rfl ?_
    refine RegV.evS (own := false) (v := (.ptr 2 0)) (H' := [(2, (.cells [(.d (.int .i64 (0 : Int))), (.d (.str ([] : List UInt8))), .nils, .nils, .nils, (.d (.bool false)), (.d (.str ([] : List UInt8))), (.d (.int .i64 (0 : Int))), .nils, (.d (.int .i64 (0 : Int)))])), (0, (.cells [(.d (.sl (List.map TNode.enc a0))), (.d (.sl (List.map (D.int .i64) a1))), (.d (.int .i64 (IntKind.i64.wrap (a2 - (1 : Int)))))])), (1, (.cells [(.d (.int .i64 (0 : Int))), (.d (.int .i64 (0 : Int))), .nils, .nils, .nils]))]) (c' := 3) rfl rfl trivial rfl rfl rfl rfl rfl rfl ?_
    refine RegV.evN (own := false) (H' := [(2, (.cells [(.d (.int .i64 (rd a0 a3).fKind)), (.d (.str (rd a0 a3).fName)), (.d (.sl (List.map D.str (rd a0 a3).fAliases))), (.d (.sl (List.map TField.enc (rd a0 a3).fFields))), (.d (.sl (List.map D.str (rd a0 a3).fSymbols))), (.d (.bool (rd a0 a3).fHas)), (.d (.str (rd a0 a3).fDefault)), (.d (.int .i64 (rd a0 a3).fItems)), (.d (.sl (List.map (D.int .i64) (rd a0 a3).fBranches))), (.d (.int .i64 (rd a0 a3).fSize))])), (0, (.cells [(.d (.sl (List.map TNode.enc a0))), (.d (.sl (List.map (D.int .i64) a1))), (.d (.int .i64 (IntKind.i64.wrap (a2 - (1 : Int)))))])), (1, (.cells [(.d (.int .i64 (0 : Int))), (.d (.int .i64 (0 : Int))), .nils, .nils, .nils]))]) (c' := 3) rfl rfl (by exact ⟨rfl, Nat.le_of_ble_eq_true rfl, rfl⟩) rfl rfl rfl rfl ?_
    refine RegV.nil0 ?_
    refine AWc.seq ?_
    refine AWc.rg hmix rfl rfl ?_
    refine RegV.p0 (v := (.ptr 2 0)) rfl rfl rfl ?_
    refine RegV.ld (v := (.d (.int .i64 (rd a0 a3).fKind))) (H' := [(2, (.cells [(.d (.int .i64 (rd a0 a3).fKind)), (.d (.str (rd a0 a3).fName)), (.d (.sl (List.map D.str (rd a0 a3).fAliases))), (.d (.sl (List.map TField.enc (rd a0 a3).fFields))), (.d (.sl (List.map D.str (rd a0 a3).fSymbols))), (.d (.bool (rd a0 a3).fHas)), (.d (.str (rd a0 a3).fDefault)), (.d (.int .i64 (rd a0 a3).fItems)), (.d (.sl (List.map (D.int .i64) (rd a0 a3).fBranches))), (.d (.int .i64 (rd a0 a3).fSize))])), (0, (.cells [(.d (.sl (List.map TNode.enc a0))), (.d (.sl (List.map (D.int .i64) a1))), (.d (.int .i64 (IntKind.i64.wrap (a2 - (1 : Int)))))])), (1, (.cells [(.d (.int .i64 (0 : Int))), (.d (.int .i64 (0 : Int))), .nils, .nils, .nils]))]) rfl rfl trivial rfl rfl rfl rfl rfl ?_
    refine RegV.bld (L' := [(.d (.int .i64 (rd a0 a3).fKind)), (.d (.int .i64 (0 : Int))), .nils, .nils, .nils]) rfl rfl (by exact ⟨⟨rfl, Nat.le_of_ble_eq_true rfl⟩, trivial⟩) rfl rfl ?_
    refine RegV.evS (own := false) (v := (.ptr 3 0)) (H' := [(3, (.cells [(.d (.int .i64 (0 : Int))), (.d (.int .i64 (0 : Int))), .nils, .nils, .nils])), (2, (.cells [(.d (.int .i64 (rd a0 a3).fKind)), (.d (.str (rd a0 a3).fName)), (.d (.sl (List.map D.str (rd a0 a3).fAliases))), (.d (.sl (List.map TField.enc (rd a0 a3).fFields))), (.d (.sl (List.map D.str (rd a0 a3).fSymbols))), (.d (.bool (rd a0 a3).fHas)), (.d (.str (rd a0 a3).fDefault)), (.d (.int .i64 (rd a0 a3).fItems)), (.d (.sl (List.map (D.int .i64) (rd a0 a3).fBranches))), (.d (.int .i64 (rd a0 a3).fSize))])), (0, (.cells [(.d (.sl (List.map TNode.enc a0))), (.d (.sl (List.map (D.int .i64) a1))), (.d (.int .i64 (IntKind.i64.wrap (a2 - (1 : Int)))))])), (1, (.cells [(.d (.int .i64 (0 : Int))), (.d (.int .i64 (0 : Int))), .nils, .nils, .nils]))]) (c' := 4) rfl rfl trivial rfl rfl rfl rfl rfl rfl ?_
    refine RegV.evN (own := false) (H' := [(3, (.cells [(.d (.int .i64 (rd a0 a3).fKind)), (.d (.int .i64 (0 : Int))), .nils, .nils, .nils])), (2, (.cells [(.d (.int .i64 (rd a0 a3).fKind)), (.d (.str (rd a0 a3).fName)), (.d (.sl (List.map D.str (rd a0 a3).fAliases))), (.d (.sl (List.map TField.enc (rd a0 a3).fFields))), (.d (.sl (List.map D.str (rd a0 a3).fSymbols))), (.d (.bool (rd a0 a3).fHas)), (.d (.str (rd a0 a3).fDefault)), (.d (.int .i64 (rd a0 a3).fItems)), (.d (.sl (List.map (D.int .i64) (rd a0 a3).fBranches))), (.d (.int .i64 (rd a0 a3).fSize))])), (0, (.cells [(.d (.sl (List.map TNode.enc a0))), (.d (.sl (List.map (D.int .i64) a1))), (.d (.int .i64 (IntKind.i64.wrap (a2 - (1 : Int)))))])), (1, (.cells [(.d (.int .i64 (0 : Int))), (.d (.int .i64 (0 : Int))), .nils, .nils, .nils]))]) (c' := 4) rfl rfl (by exact ⟨rfl, Nat.le_of_ble_eq_true rfl, rfl⟩) rfl rfl rfl rfl ?_
    refine RegV.nil0 ?_
    refine AWc.seqS (N := 161) 3 (fun (z : (Int × (List UInt8) × (List (RT 5)) × Int)) => [(4, (.ptr 1 0)), (7, (.ptr 2 0))]) (fun z => [(1, (.cells [(.d (.int .i64 (0 : Int))), (.d (.int .i64 (0 : Int))), .nils, .nils, .nils])), (2, (.cells [(.d (.int .i64 (rd a0 a3).fKind)), (.d (.int .i64 z.1)), (.d (.sl (List.map byteD z.2.1))), (.d (.sl (List.map (rtE (z := 5)) z.2.2.1))), .nils])), (0, (.cells [(.d (.sl (List.map TNode.enc a0))), (.d (.sl (List.map (D.int .i64) a1))), (.d (.int .i64 z.2.2.2))]))]) (fun z => f306_j310 k a0 a3 z.1 z.2.1 z.2.2.1 z.2.2.2 = some r) rfl_le ?_ ?_
    · refine AWc.seq ?_
      refine AWc.rg hmix rfl rfl ?_
      refine RegV.p0 (v := (.ptr 2 0)) rfl rfl rfl ?_
      refine RegV.ld (v := (.d (.int .i64 (rd a0 a3).fKind))) (H' := [(2, (.cells [(.d (.int .i64 (rd a0 a3).fKind)), (.d (.str (rd a0 a3).fName)), (.d (.sl (List.map D.str (rd a0 a3).fAliases))), (.d (.sl (List.map TField.enc (rd a0 a3).fFields))), (.d (.sl (List.map D.str (rd a0 a3).fSymbols))), (.d (.bool (rd a0 a3).fHas)), (.d (.str (rd a0 a3).fDefault)), (.d (.int .i64 (rd a0 a3).fItems)), (.d (.sl (List.map (D.int .i64) (rd a0 a3).fBranches))), (.d (.int .i64 (rd a0 a3).fSize))])), (3, (.cells [(.d (.int .i64 (rd a0 a3).fKind)), (.d (.int .i64 (0 : Int))), .nils, .nils, .nils])), (0, (.cells [(.d (.sl (List.map TNode.enc a0))), (.d (.sl (List.map (D.int .i64) a1))), (.d (.int .i64 (IntKind.i64.wrap (a2 - (1 : Int)))))])), (1, (.cells [(.d (.int .i64 (0 : Int))), (.d (.int .i64 (0 : Int))), .nils, .nils, .nils]))]) rfl rfl trivial rfl rfl rfl rfl rfl ?_
      refine RegV.nil0 ?_
      refine AWc.block ?_
      refine AWc.seq ?_
      refine AWc.rg hmix rfl rfl ?_
      refine RegV.p0 (v := (.d (.bool (decide ((rd a0 a3).fKind = (5 : Int)))))) rfl rfl rfl ?_
      refine RegV.p0 rfl rfl rfl ?_
      refine RegV.nil0 ?_
      refine AWc.cond rfl (fun c68 => ?_) (fun c68 => ?_)
      · have h := cond_pos c68 h
        refine AWc.rg hmix rfl rfl ?_
        obtain ⟨b71, h⟩ := gd_some h
        refine RegV.mkD (e := byteD) (a0 := default) rfl rfl rfl rfl rfl rfl rfl b71 rfl ?_
        refine RegV.p0 (v := (.ptr 3 2)) rfl rfl rfl ?_
        refine RegV.evN (own := false) (H' := [(3, (.cells [(.d (.int .i64 (rd a0 a3).fKind)), (.d (.int .i64 (0 : Int))), (.d (.sl (List.map byteD (List.replicate ((4 : Int)).toNat (default : UInt8))))), .nils, .nils])), (2, (.cells [(.d (.int .i64 (rd a0 a3).fKind)), (.d (.str (rd a0 a3).fName)), (.d (.sl (List.map D.str (rd a0 a3).fAliases))), (.d (.sl (List.map TField.enc (rd a0 a3).fFields))), (.d (.sl (List.map D.str (rd a0 a3).fSymbols))), (.d (.bool (rd a0 a3).fHas)), (.d (.str (rd a0 a3).fDefault)), (.d (.int .i64 (rd a0 a3).fItems)), (.d (.sl (List.map (D.int .i64) (rd a0 a3).fBranches))), (.d (.int .i64 (rd a0 a3).fSize))])), (0, (.cells [(.d (.sl (List.map TNode.enc a0))), (.d (.sl (List.map (D.int .i64) a1))), (.d (.int .i64 (IntKind.i64.wrap (a2 - (1 : Int)))))])), (1, (.cells [(.d (.int .i64 (0 : Int))), (.d (.int .i64 (0 : Int))), .nils, .nils, .nils]))]) (c' := 4) rfl rfl (by exact ⟨rfl, Nat.le_of_ble_eq_true rfl, rfl⟩) rfl rfl rfl rfl ?_
        refine RegV.nil0 ?_
        exact ⟨((0 : Int), (List.replicate ((4 : Int)).toNat (default : UInt8)), ([] : List (RT 5)), (IntKind.i64.wrap (a2 - (1 : Int)))), h, ⟨rfl, [], [(2, 3)], rfl, rfl, ⟨⟨_, rfl, (.refl _)⟩, rfl, ⟨⟨_, rfl, (.refl _)⟩, rfl, trivial⟩⟩, ⟨⟨_, rfl, (.refl _)⟩, rfl, rfl, ⟨⟨_, rfl, (.cells (.cons (.refl _) (.cons (.refl _) (.cons (.refl _) (.cons (.sl rfl) (.cons (.refl _) .nil))))))⟩, rfl, rfl, ⟨⟨_, rfl, (.refl _)⟩, rfl, rfl, trivial⟩⟩⟩⟩⟩
      · have h := cond_neg c68 h
        refine AWc.seq ?_
        refine AWc.rg hmix rfl rfl ?_
        refine RegV.p0 (v := (.d (.bool (decide ((rd a0 a3).fKind = (6 : Int)))))) rfl rfl rfl ?_
        refine RegV.p0 rfl rfl rfl ?_
        refine RegV.nil0 ?_
        refine AWc.cond rfl (fun c79 => ?_) (fun c79 => ?_)
        · have h := cond_pos c79 h
          refine AWc.rg hmix rfl rfl ?_
          obtain ⟨b82, h⟩ := gd_some h
          refine RegV.mkD (e := byteD) (a0 := default) rfl rfl rfl rfl rfl rfl rfl b82 rfl ?_
          refine RegV.p0 (v := (.ptr 3 2)) rfl rfl rfl ?_
          refine RegV.evN (own := false) (H' := [(3, (.cells [(.d (.int .i64 (rd a0 a3).fKind)), (.d (.int .i64 (0 : Int))), (.d (.sl (List.map byteD (List.replicate ((8 : Int)).toNat (default : UInt8))))), .nils, .nils])), (2, (.cells [(.d (.int .i64 (rd a0 a3).fKind)), (.d (.str (rd a0 a3).fName)), (.d (.sl (List.map D.str (rd a0 a3).fAliases))), (.d (.sl (List.map TField.enc (rd a0 a3).fFields))), (.d (.sl (List.map D.str (rd a0 a3).fSymbols))), (.d (.bool (rd a0 a3).fHas)), (.d (.str (rd a0 a3).fDefault)), (.d (.int .i64 (rd a0 a3).fItems)), (.d (.sl (List.map (D.int .i64) (rd a0 a3).fBranches))), (.d (.int .i64 (rd a0 a3).fSize))])), (0, (.cells [(.d (.sl (List.map TNode.enc a0))), (.d (.sl (List.map (D.int .i64) a1))), (.d (.int .i64 (IntKind.i64.wrap (a2 - (1 : Int)))))])), (1, (.cells [(.d (.int .i64 (0 : Int))), (.d (.int .i64 (0 : Int))), .nils, .nils, .nils]))]) (c' := 4) rfl rfl (by exact ⟨rfl, Nat.le_of_ble_eq_true rfl, rfl⟩) rfl rfl rfl rfl ?_
          refine RegV.nil0 ?_
          exact ⟨((0 : Int), (List.replicate ((8 : Int)).toNat (default : UInt8)), ([] : List (RT 5)), (IntKind.i64.wrap (a2 - (1 : Int)))), h, ⟨rfl, [], [(2, 3)], rfl, rfl, ⟨⟨_, rfl, (.refl _)⟩, rfl, ⟨⟨_, rfl, (.refl _)⟩, rfl, trivial⟩⟩, ⟨⟨_, rfl, (.refl _)⟩, rfl, rfl, ⟨⟨_, rfl, (.cells (.cons (.refl _) (.cons (.refl _) (.cons (.refl _) (.cons (.sl rfl) (.cons (.refl _) .nil))))))⟩, rfl, rfl, ⟨⟨_, rfl, (.refl _)⟩, rfl, rfl, trivial⟩⟩⟩⟩⟩
        · have h := cond_neg c79 h
          refine AWc.seq ?_
          refine AWc.rg hmix rfl rfl ?_
          refine RegV.p0 (v := (.d (.bool (decide ((rd a0 a3).fKind = (14 : Int)))))) rfl rfl rfl ?_
          refine RegV.p0 rfl rfl rfl ?_
          refine RegV.nil0 ?_
          refine AWc.cond rfl (fun c90 => ?_) (fun c90 => ?_)
          · have h := cond_pos c90 h
            refine AWc.rg hmix rfl rfl ?_
            refine RegV.p0 (v := (.ptr 2 9)) rfl rfl rfl ?_
            refine RegV.ld (v := (.d (.int .i64 (rd a0 a3).fSize))) (H' := [(2, (.cells [(.d (.int .i64 (rd a0 a3).fKind)), (.d (.str (rd a0 a3).fName)), (.d (.sl (List.map D.str (rd a0 a3).fAliases))), (.d (.sl (List.map TField.enc (rd a0 a3).fFields))), (.d (.sl (List.map D.str (rd a0 a3).fSymbols))), (.d (.bool (rd a0 a3).fHas)), (.d (.str (rd a0 a3).fDefault)), (.d (.int .i64 (rd a0 a3).fItems)), (.d (.sl (List.map (D.int .i64) (rd a0 a3).fBranches))), (.d (.int .i64 (rd a0 a3).fSize))])), (3, (.cells [(.d (.int .i64 (rd a0 a3).fKind)), (.d (.int .i64 (0 : Int))), .nils, .nils, .nils])), (0, (.cells [(.d (.sl (List.map TNode.enc a0))), (.d (.sl (List.map (D.int .i64) a1))), (.d (.int .i64 (IntKind.i64.wrap (a2 - (1 : Int)))))])), (1, (.cells [(.d (.int .i64 (0 : Int))), (.d (.int .i64 (0 : Int))), .nils, .nils, .nils]))]) rfl rfl trivial rfl rfl rfl rfl rfl ?_
            refine RegV.p0 (v := (.d (.int .i64 (max (rd a0 a3).fSize (0 : Int))))) rfl rfl rfl ?_
            obtain ⟨b96, h⟩ := gd_some h
            refine RegV.mkD (e := byteD) (a0 := default) rfl rfl rfl rfl rfl rfl rfl b96 rfl ?_
            refine RegV.p0 (v := (.ptr 3 2)) rfl rfl rfl ?_
            refine RegV.evN (own := false) (H' := [(3, (.cells [(.d (.int .i64 (rd a0 a3).fKind)), (.d (.int .i64 (0 : Int))), (.d (.sl (List.map byteD (List.replicate ((max (rd a0 a3).fSize (0 : Int))).toNat (default : UInt8))))), .nils, .nils])), (2, (.cells [(.d (.int .i64 (rd a0 a3).fKind)), (.d (.str (rd a0 a3).fName)), (.d (.sl (List.map D.str (rd a0 a3).fAliases))), (.d (.sl (List.map TField.enc (rd a0 a3).fFields))), (.d (.sl (List.map D.str (rd a0 a3).fSymbols))), (.d (.bool (rd a0 a3).fHas)), (.d (.str (rd a0 a3).fDefault)), (.d (.int .i64 (rd a0 a3).fItems)), (.d (.sl (List.map (D.int .i64) (rd a0 a3).fBranches))), (.d (.int .i64 (rd a0 a3).fSize))])), (0, (.cells [(.d (.sl (List.map TNode.enc a0))), (.d (.sl (List.map (D.int .i64) a1))), (.d (.int .i64 (IntKind.i64.wrap (a2 - (1 : Int)))))])), (1, (.cells [(.d (.int .i64 (0 : Int))), (.d (.int .i64 (0 : Int))), .nils, .nils, .nils]))]) (c' := 4) rfl rfl (by exact ⟨rfl, Nat.le_of_ble_eq_true rfl, rfl⟩) rfl rfl rfl rfl ?_
            refine RegV.nil0 ?_
            exact ⟨((0 : Int), (List.replicate ((max (rd a0 a3).fSize (0 : Int))).toNat (default : UInt8)), ([] : List (RT 5)), (IntKind.i64.wrap (a2 - (1 : Int)))), h, ⟨rfl, [], [(2, 3)], rfl, rfl, ⟨⟨_, rfl, (.refl _)⟩, rfl, ⟨⟨_, rfl, (.refl _)⟩, rfl, trivial⟩⟩, ⟨⟨_, rfl, (.refl _)⟩, rfl, rfl, ⟨⟨_, rfl, (.cells (.cons (.refl _) (.cons (.refl _) (.cons (.refl _) (.cons (.sl rfl) (.cons (.refl _) .nil))))))⟩, rfl, rfl, ⟨⟨_, rfl, (.refl _)⟩, rfl, rfl, trivial⟩⟩⟩⟩⟩
          · have h := cond_neg c90 h
            refine AWc.seq ?_
            refine AWc.rg hmix rfl rfl ?_
            refine RegV.p0 (v := (.d (.bool (decide ((rd a0 a3).fKind = (9 : Int)))))) rfl rfl rfl ?_
            refine RegV.p0 rfl rfl rfl ?_
            refine RegV.nil0 ?_
            refine AWc.cond rfl (fun c104 => ?_) (fun c104 => ?_)
            · have h := cond_pos c104 h
              refine AWc.seq ?_
              refine AWc.rg hmix rfl rfl ?_
              refine RegV.p0 (v := (.ptr 2 3)) rfl rfl rfl ?_
              refine RegV.ld (v := (.d (.sl (List.map TField.enc (rd a0 a3).fFields)))) (H' := [(2, (.cells [(.d (.int .i64 (rd a0 a3).fKind)), (.d (.str (rd a0 a3).fName)), (.d (.sl (List.map D.str (rd a0 a3).fAliases))), (.d (.sl (List.map TField.enc (rd a0 a3).fFields))), (.d (.sl (List.map D.str (rd a0 a3).fSymbols))), (.d (.bool (rd a0 a3).fHas)), (.d (.str (rd a0 a3).fDefault)), (.d (.int .i64 (rd a0 a3).fItems)), (.d (.sl (List.map (D.int .i64) (rd a0 a3).fBranches))), (.d (.int .i64 (rd a0 a3).fSize))])), (3, (.cells [(.d (.int .i64 (rd a0 a3).fKind)), (.d (.int .i64 (0 : Int))), .nils, .nils, .nils])), (0, (.cells [(.d (.sl (List.map TNode.enc a0))), (.d (.sl (List.map (D.int .i64) a1))), (.d (.int .i64 (IntKind.i64.wrap (a2 - (1 : Int)))))])), (1, (.cells [(.d (.int .i64 (0 : Int))), (.d (.int .i64 (0 : Int))), .nils, .nils, .nils]))]) rfl rfl trivial rfl rfl rfl rfl rfl ?_
              refine RegV.len (xs := (rd a0 a3).fFields) (e := TField.enc) rfl rfl rfl rfl ?_
              refine RegV.p0 rfl rfl rfl ?_
              refine RegV.nil0 ?_
              obtain ⟨o112, h112, h⟩ := bind_some h
              refine AWc.block ?_
              refine AWc.loopK (N := 161) 4 (fun (x : (Int × Int × (List (RT 5)))) => [(0, (.ptr 0 0)), (4, (.ptr 1 0)), (7, (.ptr 2 0)), (61, (.d (.sl (List.map TField.enc (rd a0 a3).fFields)))), (62, (.d (.int .i64 ((((rd a0 a3).fFields).length : Nat) : Int)))), (63, (.d (.int .i64 x.1)))]) (fun x => [(0, (.cells [(.d (.sl (List.map TNode.enc a0))), (.d (.sl (List.map (D.int .i64) a1))), (.d (.int .i64 x.2.1))])), (1, (.cells [(.d (.int .i64 (0 : Int))), (.d (.int .i64 (0 : Int))), .nils, .nils, .nils])), (2, (.cells [(.d (.int .i64 (rd a0 a3).fKind)), (.d (.int .i64 (0 : Int))), .nils, (.ap 3 5 (List.map (rtE (z := 5)) x.2.2)), .nils])), (3, (.tok ((List.map (rtE (z := 5)) x.2.2).length * 5)))]) (fun k x => f306_l112 a0 a3 rc306 a1 k x.1 x.2.1 x.2.2 = some o112) k ((0 : Int), (IntKind.i64.wrap (a2 - (1 : Int))), ([] : List (RT 5))) rfl_le (fun x hx => by cases hx) h112 ⟨rfl, [.tok 0], [(2, 3), (3, 4)], rfl, rfl, ⟨⟨_, rfl, (.refl _)⟩, rfl, ⟨⟨_, rfl, (.refl _)⟩, rfl, ⟨⟨_, rfl, (.refl _)⟩, rfl, ⟨⟨_, rfl, (.refl _)⟩, rfl, ⟨⟨_, rfl, (.refl _)⟩, rfl, ⟨⟨_, rfl, (.refl _)⟩, rfl, trivial⟩⟩⟩⟩⟩⟩, ⟨⟨_, rfl, (.refl _)⟩, rfl, rfl, ⟨⟨_, rfl, (.refl _)⟩, rfl, rfl, ⟨⟨_, rfl, (.cells (.cons (.refl _) (.cons (.refl _) (.cons (.refl _) (.cons .nil (.cons (.refl _) .nil))))))⟩, rfl, rfl, ⟨⟨_, rfl, (.refl _)⟩, rfl, rfl, trivial⟩⟩⟩⟩⟩ ?_
              clear h112
              intro k
              rintro ⟨y112_1, y112_2, y112_3⟩ h112
              dsimp only at h112 ⊢
              rw [f306_l112] at h112
              refine AWc.seq ?_
              refine AWc.rg hmix rfl rfl ?_
              refine RegV.p0 (v := (.d (.bool (decide (y112_1 < ((((rd a0 a3).fFields).length : Nat) : Int)))))) rfl rfl rfl ?_
              refine RegV.nil0 ?_
              refine AWc.seq ?_
              refine AWc.cond rfl (fun c119 => ?_) (fun c119 => ?_)
              · have h112 := cond_pos c119 h112
                refine AWc.skip ?_
                refine AWc.seq ?_
                refine AWc.block ?_
                refine AWc.seq ?_
                refine AWc.rg hmix rfl rfl ?_
                obtain ⟨b127, h112⟩ := gd_some h112
                refine RegV.iad (xs := (rd a0 a3).fFields) (e := TField.enc) rfl rfl rfl rfl (fun _ => rfl) b127 rfl ?_
                refine RegV.p1 (v := (.d (TField.enc (rd ((rd a0 a3).fFields) y112_1)))) rfl rfl rfl rfl rfl ?_
                refine RegV.evS (own := false) (v := (.ptr 4 0)) (H' := [(4, (.cells [(.d (.str ([] : List UInt8))), .nils, (.d (.int .i64 (0 : Int))), (.d (.bool false)), (.d (.str ([] : List UInt8)))])), (0, (.cells [(.d (.sl (List.map TNode.enc a0))), (.d (.sl (List.map (D.int .i64) a1))), (.d (.int .i64 y112_2))])), (1, (.cells [(.d (.int .i64 (0 : Int))), (.d (.int .i64 (0 : Int))), .nils, .nils, .nils])), (2, (.cells [(.d (.int .i64 (rd a0 a3).fKind)), (.d (.int .i64 (0 : Int))), .nils, (.ap 3 5 (List.map (rtE (z := 5)) y112_3)), .nils])), (3, (.tok ((List.map (rtE (z := 5)) y112_3).length * 5)))]) (c' := 5) rfl rfl trivial rfl rfl rfl rfl rfl rfl ?_
                refine RegV.evN (own := false) (H' := [(4, (.cells [(.d (.str (rd ((rd a0 a3).fFields) y112_1).fName)), (.d (.sl (List.map D.str (rd ((rd a0 a3).fFields) y112_1).fAliases))), (.d (.int .i64 (rd ((rd a0 a3).fFields) y112_1).fType)), (.d (.bool (rd ((rd a0 a3).fFields) y112_1).fHas)), (.d (.str (rd ((rd a0 a3).fFields) y112_1).fDefault))])), (0, (.cells [(.d (.sl (List.map TNode.enc a0))), (.d (.sl (List.map (D.int .i64) a1))), (.d (.int .i64 y112_2))])), (1, (.cells [(.d (.int .i64 (0 : Int))), (.d (.int .i64 (0 : Int))), .nils, .nils, .nils])), (2, (.cells [(.d (.int .i64 (rd a0 a3).fKind)), (.d (.int .i64 (0 : Int))), .nils, (.ap 3 5 (List.map (rtE (z := 5)) y112_3)), .nils])), (3, (.tok ((List.map (rtE (z := 5)) y112_3).length * 5)))]) (c' := 5) rfl rfl (by exact ⟨rfl, Nat.le_of_ble_eq_true rfl, rfl⟩) rfl rfl rfl rfl ?_
                refine RegV.nil0 ?_
                refine AWc.seq ?_
                refine AWc.rg hmix rfl rfl ?_
                refine RegV.p0 rfl rfl rfl ?_
                refine RegV.p0 (v := (.ptr 4 2)) rfl rfl rfl ?_
                refine RegV.ld (v := (.d (.int .i64 (rd ((rd a0 a3).fFields) y112_1).fType))) (H' := [(4, (.cells [(.d (.str (rd ((rd a0 a3).fFields) y112_1).fName)), (.d (.sl (List.map D.str (rd ((rd a0 a3).fFields) y112_1).fAliases))), (.d (.int .i64 (rd ((rd a0 a3).fFields) y112_1).fType)), (.d (.bool (rd ((rd a0 a3).fFields) y112_1).fHas)), (.d (.str (rd ((rd a0 a3).fFields) y112_1).fDefault))])), (0, (.cells [(.d (.sl (List.map TNode.enc a0))), (.d (.sl (List.map (D.int .i64) a1))), (.d (.int .i64 y112_2))])), (1, (.cells [(.d (.int .i64 (0 : Int))), (.d (.int .i64 (0 : Int))), .nils, .nils, .nils])), (2, (.cells [(.d (.int .i64 (rd a0 a3).fKind)), (.d (.int .i64 (0 : Int))), .nils, (.ap 3 5 (List.map (rtE (z := 5)) y112_3)), .nils])), (3, (.tok ((List.map (rtE (z := 5)) y112_3).length * 5)))]) rfl rfl trivial rfl rfl rfl rfl rfl ?_
                obtain ⟨r137, e137, h112⟩ := bind_some h112
                refine RegV.callS (q := false) (H' := [(0, (.cells [(.d (.sl (List.map TNode.enc a0))), (.d (.sl (List.map (D.int .i64) a1))), (.d (.int .i64 r137.2.2.2.2.2))])), (4, (.cells [(.d (.str (rd ((rd a0 a3).fFields) y112_1).fName)), (.d (.sl (List.map D.str (rd ((rd a0 a3).fFields) y112_1).fAliases))), (.d (.int .i64 (rd ((rd a0 a3).fFields) y112_1).fType)), (.d (.bool (rd ((rd a0 a3).fFields) y112_1).fHas)), (.d (.str (rd ((rd a0 a3).fFields) y112_1).fDefault))])), (1, (.cells [(.d (.int .i64 (0 : Int))), (.d (.int .i64 (0 : Int))), .nils, .nils, .nils])), (2, (.cells [(.d (.int .i64 (rd a0 a3).fKind)), (.d (.int .i64 (0 : Int))), .nils, (.ap 3 5 (List.map (rtE (z := 5)) y112_3)), .nils])), (3, (.tok ((List.map (rtE (z := 5)) y112_3).length * 5)))]) (c' := 5) (show ACalls P (N 306) [(.ptr 0 0), (.d (.int .i64 ((rd ((rd a0 a3).fFields) y112_1).fType)))] [(0, (.cells [(.d (.sl (List.map TNode.enc a0))), (.d (.sl (List.map (D.int .i64) a1))), (.d (.int .i64 y112_2))]))] (.tup [(.d (.agg [(.int .i64 r137.2.1), (.int .i64 r137.2.2.1), (.sl (List.map byteD r137.2.2.2.1)), (.sl (List.map (rtE (z := 5)) r137.2.2.2.2.1)), (.sl (List.map D.str ([] : List (List UInt8))))])), (.d (.bool r137.1))]) [(0, (.cells [(.d (.sl (List.map TNode.enc a0))), (.d (.sl (List.map (D.int .i64) a1))), (.d (.int .i64 r137.2.2.2.2.2))]))] from ACalls.use (hrc306 _ _ _ _ _ e137) [(0, 0)] 1 rfl) rfl rfl rfl rfl (.cons (.refl _) (.cons (.refl _) .nil)) (.refl _) (fun h => by cases h) rfl (hasCons rfl hasNil) rfl rfl rfl rfl ?_
                refine RegV.p0 rfl rfl rfl ?_
                refine RegV.p0 rfl rfl rfl ?_
                refine RegV.p0 rfl rfl rfl ?_
                refine RegV.evS (own := false) (v := (.ptr 5 0)) (H' := [(5, (.cells [(.d (.int .i64 (0 : Int))), (.d (.int .i64 (0 : Int))), .nils, .nils, .nils])), (0, (.cells [(.d (.sl (List.map TNode.enc a0))), (.d (.sl (List.map (D.int .i64) a1))), (.d (.int .i64 r137.2.2.2.2.2))])), (4, (.cells [(.d (.str (rd ((rd a0 a3).fFields) y112_1).fName)), (.d (.sl (List.map D.str (rd ((rd a0 a3).fFields) y112_1).fAliases))), (.d (.int .i64 (rd ((rd a0 a3).fFields) y112_1).fType)), (.d (.bool (rd ((rd a0 a3).fFields) y112_1).fHas)), (.d (.str (rd ((rd a0 a3).fFields) y112_1).fDefault))])), (1, (.cells [(.d (.int .i64 (0 : Int))), (.d (.int .i64 (0 : Int))), .nils, .nils, .nils])), (2, (.cells [(.d (.int .i64 (rd a0 a3).fKind)), (.d (.int .i64 (0 : Int))), .nils, (.ap 3 5 (List.map (rtE (z := 5)) y112_3)), .nils])), (3, (.tok ((List.map (rtE (z := 5)) y112_3).length * 5)))]) (c' := 6) rfl rfl trivial rfl rfl rfl rfl rfl rfl ?_
                refine RegV.evN (own := false) (H' := [(5, (.cells [(.d (.int .i64 r137.2.1)), (.d (.int .i64 r137.2.2.1)), (.d (.sl (List.map byteD r137.2.2.2.1))), (.d (.sl (List.map (rtE (z := 5)) r137.2.2.2.2.1))), (.d (.sl (List.map D.str ([] : List (List UInt8)))))])), (0, (.cells [(.d (.sl (List.map TNode.enc a0))), (.d (.sl (List.map (D.int .i64) a1))), (.d (.int .i64 r137.2.2.2.2.2))])), (4, (.cells [(.d (.str (rd ((rd a0 a3).fFields) y112_1).fName)), (.d (.sl (List.map D.str (rd ((rd a0 a3).fFields) y112_1).fAliases))), (.d (.int .i64 (rd ((rd a0 a3).fFields) y112_1).fType)), (.d (.bool (rd ((rd a0 a3).fFields) y112_1).fHas)), (.d (.str (rd ((rd a0 a3).fFields) y112_1).fDefault))])), (1, (.cells [(.d (.int .i64 (0 : Int))), (.d (.int .i64 (0 : Int))), .nils, .nils, .nils])), (2, (.cells [(.d (.int .i64 (rd a0 a3).fKind)), (.d (.int .i64 (0 : Int))), .nils, (.ap 3 5 (List.map (rtE (z := 5)) y112_3)), .nils])), (3, (.tok ((List.map (rtE (z := 5)) y112_3).length * 5)))]) (c' := 6) rfl rfl (by exact ⟨rfl, Nat.le_of_ble_eq_true rfl, rfl⟩) rfl rfl rfl rfl ?_
                refine RegV.p0 rfl rfl rfl ?_
                refine RegV.nil0 ?_
                refine AWc.seq ?_
                refine AWc.seq ?_
                refine AWc.rg hmix rfl rfl ?_
                refine RegV.p0 rfl rfl rfl ?_
                refine RegV.p0 (v := (.d (.bool (!r137.1)))) rfl rfl rfl ?_
                refine RegV.nil0 ?_
                refine AWc.cond rfl (fun c150 => ?_) (fun c150 => ?_)
                · have h112 := cond_pos c150 h112
                  refine AWc.seq ?_
                  refine AWc.rg hmix rfl rfl ?_
                  refine RegV.p1 (v := (.d (.agg [(.int .i64 (0 : Int)), (.int .i64 (0 : Int)), (.sl (List.map byteD ([] : List UInt8))), (.sl (List.map (rtE (z := 5)) ([] : List (RT 5)))), (.sl (List.map D.str ([] : List (List UInt8))))]))) rfl rfl trivial rfl rfl ?_
                  refine RegV.evN (own := false) (H' := [(1, (.cells [(.d (.int .i64 (0 : Int))), (.d (.int .i64 (0 : Int))), (.d (.sl (List.map byteD ([] : List UInt8)))), (.d (.sl (List.map (rtE (z := 5)) ([] : List (RT 5))))), (.d (.sl (List.map D.str ([] : List (List UInt8)))))])), (5, (.cells [(.d (.int .i64 r137.2.1)), (.d (.int .i64 r137.2.2.1)), (.d (.sl (List.map byteD r137.2.2.2.1))), (.d (.sl (List.map (rtE (z := 5)) r137.2.2.2.2.1))), (.d (.sl (List.map D.str ([] : List (List UInt8)))))])), (0, (.cells [(.d (.sl (List.map TNode.enc a0))), (.d (.sl (List.map (D.int .i64) a1))), (.d (.int .i64 r137.2.2.2.2.2))])), (4, (.cells [(.d (.str (rd ((rd a0 a3).fFields) y112_1).fName)), (.d (.sl (List.map D.str (rd ((rd a0 a3).fFields) y112_1).fAliases))), (.d (.int .i64 (rd ((rd a0 a3).fFields) y112_1).fType)), (.d (.bool (rd ((rd a0 a3).fFields) y112_1).fHas)), (.d (.str (rd ((rd a0 a3).fFields) y112_1).fDefault))])), (2, (.cells [(.d (.int .i64 (rd a0 a3).fKind)), (.d (.int .i64 (0 : Int))), .nils, (.ap 3 5 (List.map (rtE (z := 5)) y112_3)), .nils])), (3, (.tok ((List.map (rtE (z := 5)) y112_3).length * 5)))]) (c' := 6) rfl rfl (by exact ⟨rfl, Nat.le_of_ble_eq_true rfl, rfl⟩) rfl rfl rfl rfl ?_
                  refine RegV.p0 rfl rfl rfl ?_
                  refine RegV.nil0 ?_
                  cases h112
                  dsimp only at h
                  have hr := Option.some.inj h
                  subst hr
                  exact AWc.ret (canQ (N := 161) (k := 2) (l' := [(4, (.ptr 1 0)), (5, (.d (.bool false)))]) (H' := [(1, (.cells [(.d (.int .i64 (0 : Int))), (.d (.int .i64 (0 : Int))), (.d (.sl (List.map byteD ([] : List UInt8)))), (.d (.sl (List.map (rtE (z := 5)) ([] : List (RT 5))))), (.d (.sl (List.map D.str ([] : List (List UInt8)))))])), (0, (.cells [(.d (.sl (List.map TNode.enc a0))), (.d (.sl (List.map (D.int .i64) a1))), (.d (.int .i64 r137.2.2.2.2.2))]))]) rfl ⟨rfl, [], [], rfl, rfl, ⟨⟨_, rfl, (.refl _)⟩, rfl, ⟨⟨_, rfl, (.refl _)⟩, rfl, trivial⟩⟩, ⟨⟨_, rfl, (.refl _)⟩, rfl, rfl, ⟨⟨_, rfl, (.refl _)⟩, rfl, rfl, trivial⟩⟩⟩ (doneA (.inr rfl) rfl ⟨(Nat.le_of_ble_eq_true rfl), ⟨trivial, trivial⟩⟩ (.refl _) (hasCons rfl hasNil)))
                · have h112 := cond_neg c150 h112
                  refine AWc.skip ?_
                  refine AWc.rg hmix rfl rfl ?_
                  refine RegV.p0 (v := (.ptr 2 3)) rfl rfl rfl ?_
                  refine RegV.ld (v := (.ap 3 5 (List.map (rtE (z := 5)) y112_3))) (H' := [(2, (.cells [(.d (.int .i64 (rd a0 a3).fKind)), (.d (.int .i64 (0 : Int))), .nils, (.ap 3 5 (List.map (rtE (z := 5)) y112_3)), .nils])), (5, (.cells [(.d (.int .i64 r137.2.1)), (.d (.int .i64 r137.2.2.1)), (.d (.sl (List.map byteD r137.2.2.2.1))), (.d (.sl (List.map (rtE (z := 5)) r137.2.2.2.2.1))), (.d (.sl (List.map D.str ([] : List (List UInt8)))))])), (0, (.cells [(.d (.sl (List.map TNode.enc a0))), (.d (.sl (List.map (D.int .i64) a1))), (.d (.int .i64 r137.2.2.2.2.2))])), (4, (.cells [(.d (.str (rd ((rd a0 a3).fFields) y112_1).fName)), (.d (.sl (List.map D.str (rd ((rd a0 a3).fFields) y112_1).fAliases))), (.d (.int .i64 (rd ((rd a0 a3).fFields) y112_1).fType)), (.d (.bool (rd ((rd a0 a3).fFields) y112_1).fHas)), (.d (.str (rd ((rd a0 a3).fFields) y112_1).fDefault))])), (1, (.cells [(.d (.int .i64 (0 : Int))), (.d (.int .i64 (0 : Int))), .nils, .nils, .nils])), (3, (.tok ((List.map (rtE (z := 5)) y112_3).length * 5)))]) rfl rfl trivial rfl rfl rfl rfl rfl ?_
                  refine RegV.ld (v := (.d (.agg [(.int .i64 r137.2.1), (.int .i64 r137.2.2.1), (.sl (List.map byteD r137.2.2.2.1)), (.sl (List.map (rtE (z := 5)) r137.2.2.2.2.1)), (.sl (List.map D.str ([] : List (List UInt8))))]))) (H' := [(5, (.cells [(.d (.int .i64 r137.2.1)), (.d (.int .i64 r137.2.2.1)), (.d (.sl (List.map byteD r137.2.2.2.1))), (.d (.sl (List.map (rtE (z := 5)) r137.2.2.2.2.1))), (.d (.sl (List.map D.str ([] : List (List UInt8)))))])), (2, (.cells [(.d (.int .i64 (rd a0 a3).fKind)), (.d (.int .i64 (0 : Int))), .nils, (.ap 3 5 (List.map (rtE (z := 5)) y112_3)), .nils])), (0, (.cells [(.d (.sl (List.map TNode.enc a0))), (.d (.sl (List.map (D.int .i64) a1))), (.d (.int .i64 r137.2.2.2.2.2))])), (4, (.cells [(.d (.str (rd ((rd a0 a3).fFields) y112_1).fName)), (.d (.sl (List.map D.str (rd ((rd a0 a3).fFields) y112_1).fAliases))), (.d (.int .i64 (rd ((rd a0 a3).fFields) y112_1).fType)), (.d (.bool (rd ((rd a0 a3).fFields) y112_1).fHas)), (.d (.str (rd ((rd a0 a3).fFields) y112_1).fDefault))])), (1, (.cells [(.d (.int .i64 (0 : Int))), (.d (.int .i64 (0 : Int))), .nils, .nils, .nils])), (3, (.tok ((List.map (rtE (z := 5)) y112_3).length * 5)))]) rfl rfl (Nat.le_of_ble_eq_true rfl) rfl rfl rfl rfl rfl ?_
                  refine RegV.p1 (v := (.d (.sl (List.map (rtE (z := 5)) ([(RT.of TValue.ok (TValue.mk r137.2.1 r137.2.2.1 r137.2.2.2.1 r137.2.2.2.2.1 ([] : List (List UInt8))))] : List (RT 5)))))) rfl rfl (by exact ⟨rfl, Nat.le_of_ble_eq_true rfl, mapLen (e := (rtE (z := 5))) (xs := ([(RT.of TValue.ok (TValue.mk r137.2.1 r137.2.2.1 r137.2.2.2.1 r137.2.2.2.2.1 ([] : List (List UInt8))))] : List (RT 5))) (z := 5) rtE_ok.len⟩) rfl rfl ?_
                  obtain ⟨b165, h112⟩ := gd_some h112
                  refine RegV.appA (xs := y112_3) (ys := ([(RT.of TValue.ok (TValue.mk r137.2.1 r137.2.2.1 r137.2.2.2.1 r137.2.2.2.2.1 ([] : List (List UInt8))))] : List (RT 5))) (e := (rtE (z := 5))) (H1 := [(5, (.cells [(.d (.int .i64 r137.2.1)), (.d (.int .i64 r137.2.2.1)), (.d (.sl (List.map byteD r137.2.2.2.1))), (.d (.sl (List.map (rtE (z := 5)) r137.2.2.2.2.1))), (.d (.sl (List.map D.str ([] : List (List UInt8)))))])), (2, (.cells [(.d (.int .i64 (rd a0 a3).fKind)), (.d (.int .i64 (0 : Int))), .nils, (.ap 3 5 (List.map (rtE (z := 5)) y112_3)), .nils])), (0, (.cells [(.d (.sl (List.map TNode.enc a0))), (.d (.sl (List.map (D.int .i64) a1))), (.d (.int .i64 r137.2.2.2.2.2))])), (4, (.cells [(.d (.str (rd ((rd a0 a3).fFields) y112_1).fName)), (.d (.sl (List.map D.str (rd ((rd a0 a3).fFields) y112_1).fAliases))), (.d (.int .i64 (rd ((rd a0 a3).fFields) y112_1).fType)), (.d (.bool (rd ((rd a0 a3).fFields) y112_1).fHas)), (.d (.str (rd ((rd a0 a3).fFields) y112_1).fDefault))])), (1, (.cells [(.d (.int .i64 (0 : Int))), (.d (.int .i64 (0 : Int))), .nils, .nils, .nils]))]) rfl rfl rfl rfl rtE_ok.len rfl rfl b165 rfl rfl rfl ?_
                  refine RegV.p0 (v := (.ptr 2 3)) rfl rfl rfl ?_
                  refine RegV.evN (own := false) (H' := [(2, (.cells [(.d (.int .i64 (rd a0 a3).fKind)), (.d (.int .i64 (0 : Int))), .nils, (.ap 6 5 (List.map (rtE (z := 5)) (y112_3 ++ ([(RT.of TValue.ok (TValue.mk r137.2.1 r137.2.2.1 r137.2.2.2.1 r137.2.2.2.2.1 ([] : List (List UInt8))))] : List (RT 5))))), .nils])), (6, (.tok ((List.map (rtE (z := 5)) (y112_3 ++ ([(RT.of TValue.ok (TValue.mk r137.2.1 r137.2.2.1 r137.2.2.2.1 r137.2.2.2.2.1 ([] : List (List UInt8))))] : List (RT 5)))).length * 5))), (5, (.cells [(.d (.int .i64 r137.2.1)), (.d (.int .i64 r137.2.2.1)), (.d (.sl (List.map byteD r137.2.2.2.1))), (.d (.sl (List.map (rtE (z := 5)) r137.2.2.2.2.1))), (.d (.sl (List.map D.str ([] : List (List UInt8)))))])), (0, (.cells [(.d (.sl (List.map TNode.enc a0))), (.d (.sl (List.map (D.int .i64) a1))), (.d (.int .i64 r137.2.2.2.2.2))])), (4, (.cells [(.d (.str (rd ((rd a0 a3).fFields) y112_1).fName)), (.d (.sl (List.map D.str (rd ((rd a0 a3).fFields) y112_1).fAliases))), (.d (.int .i64 (rd ((rd a0 a3).fFields) y112_1).fType)), (.d (.bool (rd ((rd a0 a3).fFields) y112_1).fHas)), (.d (.str (rd ((rd a0 a3).fFields) y112_1).fDefault))])), (1, (.cells [(.d (.int .i64 (0 : Int))), (.d (.int .i64 (0 : Int))), .nils, .nils, .nils]))]) (c' := 7) rfl rfl (by exact ⟨rfl, Nat.le_of_ble_eq_true rfl, rfl⟩) rfl rfl rfl rfl ?_
                  refine RegV.nil0 ?_
                  refine AWc.rg hmix rfl rfl ?_
                  refine RegV.p0 (v := (.d (.int .i64 (IntKind.i64.wrap (y112_1 + (1 : Int)))))) rfl rfl rfl ?_
                  refine RegV.p0 rfl rfl rfl ?_
                  refine RegV.nil0 ?_
                  exact ⟨((IntKind.i64.wrap (y112_1 + (1 : Int))), r137.2.2.2.2.2, (y112_3 ++ ([(RT.of TValue.ok (TValue.mk r137.2.1 r137.2.2.1 r137.2.2.2.1 r137.2.2.2.2.1 ([] : List (List UInt8))))] : List (RT 5)))), h112, ⟨rfl, [], [(3, 6)], rfl, rfl, ⟨⟨_, rfl, (.refl _)⟩, rfl, ⟨⟨_, rfl, (.refl _)⟩, rfl, ⟨⟨_, rfl, (.refl _)⟩, rfl, ⟨⟨_, rfl, (.refl _)⟩, rfl, ⟨⟨_, rfl, (.refl _)⟩, rfl, ⟨⟨_, rfl, (.refl _)⟩, rfl, trivial⟩⟩⟩⟩⟩⟩, ⟨⟨_, rfl, (.refl _)⟩, rfl, rfl, ⟨⟨_, rfl, (.refl _)⟩, rfl, rfl, ⟨⟨_, rfl, (.refl _)⟩, rfl, rfl, ⟨⟨_, rfl, (.refl _)⟩, rfl, rfl, trivial⟩⟩⟩⟩⟩⟩
              · have h112 := cond_neg c119 h112
                cases h112
                dsimp only at h
                refine AWc.exit ?_
                refine inBlk_eq ?_
                exact ⟨((0 : Int), ([] : List UInt8), y112_3, y112_2), h, ⟨rfl, [], [], rfl, rfl, ⟨⟨_, rfl, (.refl _)⟩, rfl, ⟨⟨_, rfl, (.refl _)⟩, rfl, trivial⟩⟩, ⟨⟨_, rfl, (.refl _)⟩, rfl, rfl, ⟨⟨_, rfl, (.cells (.cons (.refl _) (.cons (.refl _) (.cons (.sl rfl) (.cons (.sl rfl) (.cons (.refl _) .nil))))))⟩, rfl, rfl, ⟨⟨_, rfl, (.refl _)⟩, rfl, rfl, trivial⟩⟩⟩⟩⟩
            · have h := cond_neg c104 h
              refine AWc.seq ?_
              refine AWc.rg hmix rfl rfl ?_
              refine RegV.p0 (v := (.d (.bool (decide ((rd a0 a3).fKind = (13 : Int)))))) rfl rfl rfl ?_
              refine RegV.p0 rfl rfl rfl ?_
              refine RegV.nil0 ?_
              refine AWc.cond rfl (fun c177 => ?_) (fun c177 => ?_)
              · have h := cond_pos c177 h
                refine AWc.seq ?_
                refine AWc.rg hmix rfl rfl ?_
                refine RegV.p0 rfl rfl rfl ?_
                refine RegV.nil0 ?_
                refine AWc.seqS (N := 161) 4 (fun (z : Int) => [(0, (.ptr 0 0)), (4, (.ptr 1 0)), (6, (.ptr 2 0)), (7, (.ptr 3 0)), (12, (.d (.int .i64 z)))]) (fun z => [(0, (.cells [(.d (.sl (List.map TNode.enc a0))), (.d (.sl (List.map (D.int .i64) a1))), (.d (.int .i64 (IntKind.i64.wrap (a2 - (1 : Int)))))])), (1, (.cells [(.d (.int .i64 (0 : Int))), (.d (.int .i64 (0 : Int))), .nils, .nils, .nils])), (2, (.cells [(.d (.int .i64 (rd a0 a3).fKind)), (.d (.str (rd a0 a3).fName)), (.d (.sl (List.map D.str (rd a0 a3).fAliases))), (.d (.sl (List.map TField.enc (rd a0 a3).fFields))), (.d (.sl (List.map D.str (rd a0 a3).fSymbols))), (.d (.bool (rd a0 a3).fHas)), (.d (.str (rd a0 a3).fDefault)), (.d (.int .i64 (rd a0 a3).fItems)), (.d (.sl (List.map (D.int .i64) (rd a0 a3).fBranches))), (.d (.int .i64 (rd a0 a3).fSize))])), (3, (.cells [(.d (.int .i64 (rd a0 a3).fKind)), (.d (.int .i64 (0 : Int))), .nils, .nils, .nils]))]) (fun z => f306_j269 k a0 a3 rc306 a1 a2 z = some r) rfl_le ?_ ?_
                · refine AWc.seq ?_
                  refine AWc.rg hmix rfl rfl ?_
                  refine RegV.p0 (v := (.ptr 2 8)) rfl rfl rfl ?_
                  refine RegV.ld (v := (.d (.sl (List.map (D.int .i64) (rd a0 a3).fBranches)))) (H' := [(2, (.cells [(.d (.int .i64 (rd a0 a3).fKind)), (.d (.str (rd a0 a3).fName)), (.d (.sl (List.map D.str (rd a0 a3).fAliases))), (.d (.sl (List.map TField.enc (rd a0 a3).fFields))), (.d (.sl (List.map D.str (rd a0 a3).fSymbols))), (.d (.bool (rd a0 a3).fHas)), (.d (.str (rd a0 a3).fDefault)), (.d (.int .i64 (rd a0 a3).fItems)), (.d (.sl (List.map (D.int .i64) (rd a0 a3).fBranches))), (.d (.int .i64 (rd a0 a3).fSize))])), (3, (.cells [(.d (.int .i64 (rd a0 a3).fKind)), (.d (.int .i64 (0 : Int))), .nils, .nils, .nils])), (0, (.cells [(.d (.sl (List.map TNode.enc a0))), (.d (.sl (List.map (D.int .i64) a1))), (.d (.int .i64 (IntKind.i64.wrap (a2 - (1 : Int)))))])), (1, (.cells [(.d (.int .i64 (0 : Int))), (.d (.int .i64 (0 : Int))), .nils, .nils, .nils]))]) rfl rfl trivial rfl rfl rfl rfl rfl ?_
                  refine RegV.len (xs := (rd a0 a3).fBranches) (e := (D.int .i64)) rfl rfl rfl rfl ?_
                  refine RegV.p0 rfl rfl rfl ?_
                  refine RegV.nil0 ?_
                  obtain ⟨o190, h190, h⟩ := bind_some h
                  refine AWc.block ?_
                  refine AWc.loopK (N := 161) 4 (fun (x : (Int × Int)) => [(0, (.ptr 0 0)), (4, (.ptr 1 0)), (6, (.ptr 2 0)), (7, (.ptr 3 0)), (12, (.d (.int .i64 x.1))), (87, (.d (.sl (List.map (D.int .i64) (rd a0 a3).fBranches)))), (88, (.d (.int .i64 ((((rd a0 a3).fBranches).length : Nat) : Int)))), (89, (.d (.int .i64 x.2)))]) (fun x => [(0, (.cells [(.d (.sl (List.map TNode.enc a0))), (.d (.sl (List.map (D.int .i64) a1))), (.d (.int .i64 (IntKind.i64.wrap (a2 - (1 : Int)))))])), (1, (.cells [(.d (.int .i64 (0 : Int))), (.d (.int .i64 (0 : Int))), .nils, .nils, .nils])), (2, (.cells [(.d (.int .i64 (rd a0 a3).fKind)), (.d (.str (rd a0 a3).fName)), (.d (.sl (List.map D.str (rd a0 a3).fAliases))), (.d (.sl (List.map TField.enc (rd a0 a3).fFields))), (.d (.sl (List.map D.str (rd a0 a3).fSymbols))), (.d (.bool (rd a0 a3).fHas)), (.d (.str (rd a0 a3).fDefault)), (.d (.int .i64 (rd a0 a3).fItems)), (.d (.sl (List.map (D.int .i64) (rd a0 a3).fBranches))), (.d (.int .i64 (rd a0 a3).fSize))])), (3, (.cells [(.d (.int .i64 (rd a0 a3).fKind)), (.d (.int .i64 (0 : Int))), .nils, .nils, .nils]))]) (fun k x => f306_l190 a0 a3 a1 k x.1 x.2 = some o190) k ((-1 : Int), (0 : Int)) rfl_le (fun x hx => by cases hx) h190 ⟨rfl, [], [], rfl, rfl, ⟨⟨_, rfl, (.refl _)⟩, rfl, ⟨⟨_, rfl, (.refl _)⟩, rfl, ⟨⟨_, rfl, (.refl _)⟩, rfl, ⟨⟨_, rfl, (.refl _)⟩, rfl, ⟨⟨_, rfl, (.refl _)⟩, rfl, ⟨⟨_, rfl, (.refl _)⟩, rfl, ⟨⟨_, rfl, (.refl _)⟩, rfl, ⟨⟨_, rfl, (.refl _)⟩, rfl, trivial⟩⟩⟩⟩⟩⟩⟩⟩, ⟨⟨_, rfl, (.refl _)⟩, rfl, rfl, ⟨⟨_, rfl, (.refl _)⟩, rfl, rfl, ⟨⟨_, rfl, (.refl _)⟩, rfl, rfl, ⟨⟨_, rfl, (.refl _)⟩, rfl, rfl, trivial⟩⟩⟩⟩⟩ ?_
                  clear h190
                  intro k
                  rintro ⟨y190_1, y190_2⟩ h190
                  dsimp only at h190 ⊢
                  rw [f306_l190] at h190
                  refine AWc.seq ?_
                  refine AWc.rg hmix rfl rfl ?_
                  refine RegV.p0 (v := (.d (.bool (decide (y190_2 < ((((rd a0 a3).fBranches).length : Nat) : Int)))))) rfl rfl rfl ?_
                  refine RegV.nil0 ?_
                  refine AWc.seq ?_
                  refine AWc.cond rfl (fun c197 => ?_) (fun c197 => ?_)
                  · have h190 := cond_pos c197 h190
                    refine AWc.skip ?_
                    refine AWc.seq ?_
                    refine AWc.block ?_
                    refine AWc.seq ?_
                    refine AWc.rg hmix rfl rfl ?_
                    refine RegV.p0 rfl rfl rfl ?_
                    obtain ⟨b206, h190⟩ := gd_some h190
                    refine RegV.iad (xs := (rd a0 a3).fBranches) (e := (D.int .i64)) rfl rfl rfl rfl (fun _ => rfl) b206 rfl ?_
                    refine RegV.p0 (v := (.d (.int .i64 (rd ((rd a0 a3).fBranches) y190_2)))) rfl rfl rfl ?_
                    refine RegV.p0 rfl rfl rfl ?_
                    refine RegV.p0 rfl rfl rfl ?_
                    refine RegV.nil0 ?_
                    refine AWc.seq ?_
                    refine AWc.rg hmix rfl rfl ?_
                    refine RegV.p0 rfl rfl rfl ?_
                    refine RegV.p0 (v := (.d (.bool (decide ((rd ((rd a0 a3).fBranches) y190_2) ≥ (0 : Int)))))) rfl rfl rfl ?_
                    refine RegV.p0 rfl rfl rfl ?_
                    refine RegV.split (fun c215 => ?_) (fun c215 => ?_)
                    · have h190 := cond_pos c215 h190
                      refine RegV.p0 rfl rfl rfl ?_
                      refine RegV.p0 rfl rfl rfl ?_
                      refine RegV.p0 rfl rfl rfl ?_
                      refine RegV.p0 (v := (.ptr 0 1)) rfl rfl rfl ?_
                      refine RegV.ld (v := (.d (.sl (List.map (D.int .i64) a1)))) (H' := [(0, (.cells [(.d (.sl (List.map TNode.enc a0))), (.d (.sl (List.map (D.int .i64) a1))), (.d (.int .i64 (IntKind.i64.wrap (a2 - (1 : Int)))))])), (1, (.cells [(.d (.int .i64 (0 : Int))), (.d (.int .i64 (0 : Int))), .nils, .nils, .nils])), (2, (.cells [(.d (.int .i64 (rd a0 a3).fKind)), (.d (.str (rd a0 a3).fName)), (.d (.sl (List.map D.str (rd a0 a3).fAliases))), (.d (.sl (List.map TField.enc (rd a0 a3).fFields))), (.d (.sl (List.map D.str (rd a0 a3).fSymbols))), (.d (.bool (rd a0 a3).fHas)), (.d (.str (rd a0 a3).fDefault)), (.d (.int .i64 (rd a0 a3).fItems)), (.d (.sl (List.map (D.int .i64) (rd a0 a3).fBranches))), (.d (.int .i64 (rd a0 a3).fSize))])), (3, (.cells [(.d (.int .i64 (rd a0 a3).fKind)), (.d (.int .i64 (0 : Int))), .nils, .nils, .nils]))]) rfl rfl trivial rfl rfl rfl rfl rfl ?_
                      refine RegV.len (xs := a1) (e := (D.int .i64)) rfl rfl rfl rfl ?_
                      refine RegV.p0 (v := (.d (.bool (decide ((rd ((rd a0 a3).fBranches) y190_2) < ((a1.length : Nat) : Int)))))) rfl rfl rfl ?_
                      refine RegV.p0 rfl rfl rfl ?_
                      refine RegV.p0 rfl rfl rfl ?_
                      refine RegV.split (fun c224 => ?_) (fun c224 => ?_)
                      · have h190 := cond_pos c224 h190
                        refine RegV.p0 rfl rfl rfl ?_
                        refine RegV.p0 rfl rfl rfl ?_
                        refine RegV.p0 (v := (.ptr 0 1)) rfl rfl rfl ?_
                        refine RegV.ld (v := (.d (.sl (List.map (D.int .i64) a1)))) (H' := [(0, (.cells [(.d (.sl (List.map TNode.enc a0))), (.d (.sl (List.map (D.int .i64) a1))), (.d (.int .i64 (IntKind.i64.wrap (a2 - (1 : Int)))))])), (1, (.cells [(.d (.int .i64 (0 : Int))), (.d (.int .i64 (0 : Int))), .nils, .nils, .nils])), (2, (.cells [(.d (.int .i64 (rd a0 a3).fKind)), (.d (.str (rd a0 a3).fName)), (.d (.sl (List.map D.str (rd a0 a3).fAliases))), (.d (.sl (List.map TField.enc (rd a0 a3).fFields))), (.d (.sl (List.map D.str (rd a0 a3).fSymbols))), (.d (.bool (rd a0 a3).fHas)), (.d (.str (rd a0 a3).fDefault)), (.d (.int .i64 (rd a0 a3).fItems)), (.d (.sl (List.map (D.int .i64) (rd a0 a3).fBranches))), (.d (.int .i64 (rd a0 a3).fSize))])), (3, (.cells [(.d (.int .i64 (rd a0 a3).fKind)), (.d (.int .i64 (0 : Int))), .nils, .nils, .nils]))]) rfl rfl trivial rfl rfl rfl rfl rfl ?_
                        refine RegV.p0 rfl rfl rfl ?_
                        obtain ⟨b230, h190⟩ := gd_some h190
                        refine RegV.iad (xs := a1) (e := (D.int .i64)) rfl rfl rfl rfl (fun _ => rfl) b230 rfl ?_
                        refine RegV.p0 (v := (.d (.int .i64 (rd a1 (rd ((rd a0 a3).fBranches) y190_2))))) rfl rfl rfl ?_
                        refine RegV.p0 (v := (.d (.bool (decide ((rd a1 (rd ((rd a0 a3).fBranches) y190_2)) ≠ (-1 : Int)))))) rfl rfl rfl ?_
                        refine RegV.p0 rfl rfl rfl ?_
                        refine RegV.p0 rfl rfl rfl ?_
                        refine RegV.split (fun c234 => ?_) (fun c234 => ?_)
                        · have h190 := cond_pos c234 h190
                          refine RegV.p0 rfl rfl rfl ?_
                          refine RegV.p0 (v := (.d (.bool (decide (y190_1 = (-1 : Int)))))) rfl rfl rfl ?_
                          refine RegV.p0 rfl rfl rfl ?_
                          refine RegV.split (fun c237 => ?_) (fun c237 => ?_)
                          · have h190 := cond_pos c237 h190
                            refine RegV.noS rfl rfl ?_
                            refine RegV.noS rfl rfl ?_
                            refine RegV.noS rfl rfl ?_
                            refine RegV.noS rfl rfl ?_
                            refine RegV.noS rfl rfl ?_
                            refine RegV.noS rfl rfl ?_
                            refine RegV.noS rfl rfl ?_
                            refine RegV.noS rfl rfl ?_
                            refine RegV.noS rfl rfl ?_
                            refine RegV.noS rfl rfl ?_
                            refine RegV.noS rfl rfl ?_
                            refine RegV.noS rfl rfl ?_
                            refine RegV.noS rfl rfl ?_
                            refine RegV.noS rfl rfl ?_
                            refine RegV.noS rfl rfl ?_
                            refine RegV.noS rfl rfl ?_
                            refine RegV.noS rfl rfl ?_
                            refine RegV.noS rfl rfl ?_
                            refine RegV.noS rfl rfl ?_
                            refine RegV.p0 rfl rfl rfl ?_
                            refine RegV.p0 rfl rfl rfl ?_
                            refine RegV.nil1 (by kernel_rfl) ?_
                            refine AWc.cond rfl (fun _ => ?_) (fun hc => by cases hc)
                            refine AWc.rg hmix rfl rfl ?_
                            refine RegV.p0 rfl rfl rfl ?_
                            refine RegV.p0 rfl rfl rfl ?_
                            refine RegV.nil0 ?_
                            refine AWc.rg hmix rfl rfl ?_
                            refine RegV.p0 (v := (.d (.int .i64 (IntKind.i64.wrap (y190_2 + (1 : Int)))))) rfl rfl rfl ?_
                            refine RegV.p0 rfl rfl rfl ?_
                            refine RegV.nil0 ?_
                            exact ⟨(y190_2, (IntKind.i64.wrap (y190_2 + (1 : Int)))), h190, ⟨rfl, [], [], rfl, rfl, ⟨⟨_, rfl, (.refl _)⟩, rfl, ⟨⟨_, rfl, (.refl _)⟩, rfl, ⟨⟨_, rfl, (.refl _)⟩, rfl, ⟨⟨_, rfl, (.refl _)⟩, rfl, ⟨⟨_, rfl, (.refl _)⟩, rfl, ⟨⟨_, rfl, (.refl _)⟩, rfl, ⟨⟨_, rfl, (.refl _)⟩, rfl, ⟨⟨_, rfl, (.refl _)⟩, rfl, trivial⟩⟩⟩⟩⟩⟩⟩⟩, ⟨⟨_, rfl, (.refl _)⟩, rfl, rfl, ⟨⟨_, rfl, (.refl _)⟩, rfl, rfl, ⟨⟨_, rfl, (.refl _)⟩, rfl, rfl, ⟨⟨_, rfl, (.refl _)⟩, rfl, rfl, trivial⟩⟩⟩⟩⟩⟩
                          · have h190 := cond_neg c237 h190
                            refine RegV.p0 rfl rfl rfl ?_
                            refine RegV.p0 rfl rfl rfl ?_
                            refine RegV.p0 (v := (.ptr 0 1)) rfl rfl rfl ?_
                            refine RegV.ld (v := (.d (.sl (List.map (D.int .i64) a1)))) (H' := [(0, (.cells [(.d (.sl (List.map TNode.enc a0))), (.d (.sl (List.map (D.int .i64) a1))), (.d (.int .i64 (IntKind.i64.wrap (a2 - (1 : Int)))))])), (1, (.cells [(.d (.int .i64 (0 : Int))), (.d (.int .i64 (0 : Int))), .nils, .nils, .nils])), (2, (.cells [(.d (.int .i64 (rd a0 a3).fKind)), (.d (.str (rd a0 a3).fName)), (.d (.sl (List.map D.str (rd a0 a3).fAliases))), (.d (.sl (List.map TField.enc (rd a0 a3).fFields))), (.d (.sl (List.map D.str (rd a0 a3).fSymbols))), (.d (.bool (rd a0 a3).fHas)), (.d (.str (rd a0 a3).fDefault)), (.d (.int .i64 (rd a0 a3).fItems)), (.d (.sl (List.map (D.int .i64) (rd a0 a3).fBranches))), (.d (.int .i64 (rd a0 a3).fSize))])), (3, (.cells [(.d (.int .i64 (rd a0 a3).fKind)), (.d (.int .i64 (0 : Int))), .nils, .nils, .nils]))]) rfl rfl trivial rfl rfl rfl rfl rfl ?_
                            refine RegV.p0 rfl rfl rfl ?_
                            obtain ⟨b243, h190⟩ := gd_some h190
                            refine RegV.iad (xs := a1) (e := (D.int .i64)) rfl rfl rfl rfl (fun _ => rfl) b243 rfl ?_
                            refine RegV.p0 (v := (.d (.int .i64 (rd a1 (rd ((rd a0 a3).fBranches) y190_2))))) rfl rfl rfl ?_
                            refine RegV.p0 rfl rfl rfl ?_
                            refine RegV.p0 rfl rfl rfl ?_
                            refine RegV.p0 (v := (.ptr 0 1)) rfl rfl rfl ?_
                            refine RegV.ld (v := (.d (.sl (List.map (D.int .i64) a1)))) (H' := [(0, (.cells [(.d (.sl (List.map TNode.enc a0))), (.d (.sl (List.map (D.int .i64) a1))), (.d (.int .i64 (IntKind.i64.wrap (a2 - (1 : Int)))))])), (1, (.cells [(.d (.int .i64 (0 : Int))), (.d (.int .i64 (0 : Int))), .nils, .nils, .nils])), (2, (.cells [(.d (.int .i64 (rd a0 a3).fKind)), (.d (.str (rd a0 a3).fName)), (.d (.sl (List.map D.str (rd a0 a3).fAliases))), (.d (.sl (List.map TField.enc (rd a0 a3).fFields))), (.d (.sl (List.map D.str (rd a0 a3).fSymbols))), (.d (.bool (rd a0 a3).fHas)), (.d (.str (rd a0 a3).fDefault)), (.d (.int .i64 (rd a0 a3).fItems)), (.d (.sl (List.map (D.int .i64) (rd a0 a3).fBranches))), (.d (.int .i64 (rd a0 a3).fSize))])), (3, (.cells [(.d (.int .i64 (rd a0 a3).fKind)), (.d (.int .i64 (0 : Int))), .nils, .nils, .nils]))]) rfl rfl trivial rfl rfl rfl rfl rfl ?_
                            refine RegV.p0 (v := (.ptr 2 8)) rfl rfl rfl ?_
                            refine RegV.ld (v := (.d (.sl (List.map (D.int .i64) (rd a0 a3).fBranches)))) (H' := [(2, (.cells [(.d (.int .i64 (rd a0 a3).fKind)), (.d (.str (rd a0 a3).fName)), (.d (.sl (List.map D.str (rd a0 a3).fAliases))), (.d (.sl (List.map TField.enc (rd a0 a3).fFields))), (.d (.sl (List.map D.str (rd a0 a3).fSymbols))), (.d (.bool (rd a0 a3).fHas)), (.d (.str (rd a0 a3).fDefault)), (.d (.int .i64 (rd a0 a3).fItems)), (.d (.sl (List.map (D.int .i64) (rd a0 a3).fBranches))), (.d (.int .i64 (rd a0 a3).fSize))])), (0, (.cells [(.d (.sl (List.map TNode.enc a0))), (.d (.sl (List.map (D.int .i64) a1))), (.d (.int .i64 (IntKind.i64.wrap (a2 - (1 : Int)))))])), (1, (.cells [(.d (.int .i64 (0 : Int))), (.d (.int .i64 (0 : Int))), .nils, .nils, .nils])), (3, (.cells [(.d (.int .i64 (rd a0 a3).fKind)), (.d (.int .i64 (0 : Int))), .nils, .nils, .nils]))]) rfl rfl trivial rfl rfl rfl rfl rfl ?_
                            refine RegV.p0 rfl rfl rfl ?_
                            obtain ⟨b252, h190⟩ := gd_some h190
                            refine RegV.iad (xs := (rd a0 a3).fBranches) (e := (D.int .i64)) rfl rfl rfl rfl (fun _ => rfl) b252 rfl ?_
                            refine RegV.p0 (v := (.d (.int .i64 (rd ((rd a0 a3).fBranches) y190_1)))) rfl rfl rfl ?_
                            obtain ⟨b254, h190⟩ := gd_some h190
                            refine RegV.iad (xs := a1) (e := (D.int .i64)) rfl rfl rfl rfl (fun _ => rfl) b254 rfl ?_
                            refine RegV.p0 (v := (.d (.int .i64 (rd a1 (rd ((rd a0 a3).fBranches) y190_1))))) rfl rfl rfl ?_
                            refine RegV.p0 (v := (.d (.bool (decide ((rd a1 (rd ((rd a0 a3).fBranches) y190_2)) < (rd a1 (rd ((rd a0 a3).fBranches) y190_1))))))) rfl rfl rfl ?_
                            refine RegV.p0 rfl rfl rfl ?_
                            refine RegV.p0 rfl rfl rfl ?_
                            refine RegV.nil1 (by kernel_rfl) ?_
                            refine AWc.cond rfl (fun c259 => ?_) (fun c259 => ?_)
                            · have h190 := cond_pos c259 h190
                              refine AWc.rg hmix rfl rfl ?_
                              refine RegV.p0 rfl rfl rfl ?_
                              refine RegV.p0 rfl rfl rfl ?_
                              refine RegV.nil0 ?_
                              refine AWc.rg hmix rfl rfl ?_
                              refine RegV.p0 (v := (.d (.int .i64 (IntKind.i64.wrap (y190_2 + (1 : Int)))))) rfl rfl rfl ?_
                              refine RegV.p0 rfl rfl rfl ?_
                              refine RegV.nil0 ?_
                              exact ⟨(y190_2, (IntKind.i64.wrap (y190_2 + (1 : Int)))), h190, ⟨rfl, [], [], rfl, rfl, ⟨⟨_, rfl, (.refl _)⟩, rfl, ⟨⟨_, rfl, (.refl _)⟩, rfl, ⟨⟨_, rfl, (.refl _)⟩, rfl, ⟨⟨_, rfl, (.refl _)⟩, rfl, ⟨⟨_, rfl, (.refl _)⟩, rfl, ⟨⟨_, rfl, (.refl _)⟩, rfl, ⟨⟨_, rfl, (.refl _)⟩, rfl, ⟨⟨_, rfl, (.refl _)⟩, rfl, trivial⟩⟩⟩⟩⟩⟩⟩⟩, ⟨⟨_, rfl, (.refl _)⟩, rfl, rfl, ⟨⟨_, rfl, (.refl _)⟩, rfl, rfl, ⟨⟨_, rfl, (.refl _)⟩, rfl, rfl, ⟨⟨_, rfl, (.refl _)⟩, rfl, rfl, trivial⟩⟩⟩⟩⟩⟩
                            · have h190 := cond_neg c259 h190
                              refine AWc.skip ?_
                              refine AWc.rg hmix rfl rfl ?_
                              refine RegV.p0 (v := (.d (.int .i64 (IntKind.i64.wrap (y190_2 + (1 : Int)))))) rfl rfl rfl ?_
                              refine RegV.p0 rfl rfl rfl ?_
                              refine RegV.nil0 ?_
                              exact ⟨(y190_1, (IntKind.i64.wrap (y190_2 + (1 : Int)))), h190, ⟨rfl, [], [], rfl, rfl, ⟨⟨_, rfl, (.refl _)⟩, rfl, ⟨⟨_, rfl, (.refl _)⟩, rfl, ⟨⟨_, rfl, (.refl _)⟩, rfl, ⟨⟨_, rfl, (.refl _)⟩, rfl, ⟨⟨_, rfl, (.refl _)⟩, rfl, ⟨⟨_, rfl, (.refl _)⟩, rfl, ⟨⟨_, rfl, (.refl _)⟩, rfl, ⟨⟨_, rfl, (.refl _)⟩, rfl, trivial⟩⟩⟩⟩⟩⟩⟩⟩, ⟨⟨_, rfl, (.refl _)⟩, rfl, rfl, ⟨⟨_, rfl, (.refl _)⟩, rfl, rfl, ⟨⟨_, rfl, (.refl _)⟩, rfl, rfl, ⟨⟨_, rfl, (.refl _)⟩, rfl, rfl, trivial⟩⟩⟩⟩⟩⟩
                        · have h190 := cond_neg c234 h190
                          refine RegV.noS rfl rfl ?_
                          refine RegV.noS rfl rfl ?_
                          refine RegV.noS rfl rfl ?_
                          refine RegV.noS rfl rfl ?_
                          refine RegV.noS rfl rfl ?_
                          refine RegV.noS rfl rfl ?_
                          refine RegV.noS rfl rfl ?_
                          refine RegV.noS rfl rfl ?_
                          refine RegV.noS rfl rfl ?_
                          refine RegV.noS rfl rfl ?_
                          refine RegV.noS rfl rfl ?_
                          refine RegV.noS rfl rfl ?_
                          refine RegV.noS rfl rfl ?_
                          refine RegV.noS rfl rfl ?_
                          refine RegV.noS rfl rfl ?_
                          refine RegV.noS rfl rfl ?_
                          refine RegV.noS rfl rfl ?_
                          refine RegV.noS rfl rfl ?_
                          refine RegV.noS rfl rfl ?_
                          refine RegV.noS rfl rfl ?_
                          refine RegV.noS rfl rfl ?_
                          refine RegV.noS rfl rfl ?_
                          refine RegV.noS rfl rfl ?_
                          refine RegV.p0 rfl rfl rfl ?_
                          refine RegV.nil1 (by kernel_rfl) ?_
                          refine AWc.cond rfl (fun hc => by cases hc) (fun _ => ?_)
                          refine AWc.skip ?_
                          refine AWc.rg hmix rfl rfl ?_
                          refine RegV.p0 (v := (.d (.int .i64 (IntKind.i64.wrap (y190_2 + (1 : Int)))))) rfl rfl rfl ?_
                          refine RegV.p0 rfl rfl rfl ?_
                          refine RegV.nil0 ?_
                          exact ⟨(y190_1, (IntKind.i64.wrap (y190_2 + (1 : Int)))), h190, ⟨rfl, [], [], rfl, rfl, ⟨⟨_, rfl, (.refl _)⟩, rfl, ⟨⟨_, rfl, (.refl _)⟩, rfl, ⟨⟨_, rfl, (.refl _)⟩, rfl, ⟨⟨_, rfl, (.refl _)⟩, rfl, ⟨⟨_, rfl, (.refl _)⟩, rfl, ⟨⟨_, rfl, (.refl _)⟩, rfl, ⟨⟨_, rfl, (.refl _)⟩, rfl, ⟨⟨_, rfl, (.refl _)⟩, rfl, trivial⟩⟩⟩⟩⟩⟩⟩⟩, ⟨⟨_, rfl, (.refl _)⟩, rfl, rfl, ⟨⟨_, rfl, (.refl _)⟩, rfl, rfl, ⟨⟨_, rfl, (.refl _)⟩, rfl, rfl, ⟨⟨_, rfl, (.refl _)⟩, rfl, rfl, trivial⟩⟩⟩⟩⟩⟩
                      · have h190 := cond_neg c224 h190
                        refine RegV.noS rfl rfl ?_
                        refine RegV.noS rfl rfl ?_
                        refine RegV.noS rfl rfl ?_
                        refine RegV.noS rfl rfl ?_
                        refine RegV.noS rfl rfl ?_
                        refine RegV.noS rfl rfl ?_
                        refine RegV.noS rfl rfl ?_
                        refine RegV.noS rfl rfl ?_
                        refine RegV.p0 rfl rfl rfl ?_
                        refine RegV.p0 rfl rfl rfl ?_
                        refine RegV.noS rfl rfl ?_
                        refine RegV.noS rfl rfl ?_
                        refine RegV.noS rfl rfl ?_
                        refine RegV.noS rfl rfl ?_
                        refine RegV.noS rfl rfl ?_
                        refine RegV.noS rfl rfl ?_
                        refine RegV.noS rfl rfl ?_
                        refine RegV.noS rfl rfl ?_
                        refine RegV.noS rfl rfl ?_
                        refine RegV.noS rfl rfl ?_
                        refine RegV.noS rfl rfl ?_
                        refine RegV.noS rfl rfl ?_
                        refine RegV.noS rfl rfl ?_
                        refine RegV.noS rfl rfl ?_
                        refine RegV.noS rfl rfl ?_
                        refine RegV.noS rfl rfl ?_
                        refine RegV.noS rfl rfl ?_
                        refine RegV.noS rfl rfl ?_
                        refine RegV.noS rfl rfl ?_
                        refine RegV.noS rfl rfl ?_
                        refine RegV.noS rfl rfl ?_
                        refine RegV.noS rfl rfl ?_
                        refine RegV.noS rfl rfl ?_
                        refine RegV.p0 rfl rfl rfl ?_
                        refine RegV.nil1 (by kernel_rfl) ?_
                        refine AWc.cond rfl (fun hc => by cases hc) (fun _ => ?_)
                        refine AWc.skip ?_
                        refine AWc.rg hmix rfl rfl ?_
                        refine RegV.p0 (v := (.d (.int .i64 (IntKind.i64.wrap (y190_2 + (1 : Int)))))) rfl rfl rfl ?_
                        refine RegV.p0 rfl rfl rfl ?_
                        refine RegV.nil0 ?_
                        exact ⟨(y190_1, (IntKind.i64.wrap (y190_2 + (1 : Int)))), h190, ⟨rfl, [], [], rfl, rfl, ⟨⟨_, rfl, (.refl _)⟩, rfl, ⟨⟨_, rfl, (.refl _)⟩, rfl, ⟨⟨_, rfl, (.refl _)⟩, rfl, ⟨⟨_, rfl, (.refl _)⟩, rfl, ⟨⟨_, rfl, (.refl _)⟩, rfl, ⟨⟨_, rfl, (.refl _)⟩, rfl, ⟨⟨_, rfl, (.refl _)⟩, rfl, ⟨⟨_, rfl, (.refl _)⟩, rfl, trivial⟩⟩⟩⟩⟩⟩⟩⟩, ⟨⟨_, rfl, (.refl _)⟩, rfl, rfl, ⟨⟨_, rfl, (.refl _)⟩, rfl, rfl, ⟨⟨_, rfl, (.refl _)⟩, rfl, rfl, ⟨⟨_, rfl, (.refl _)⟩, rfl, rfl, trivial⟩⟩⟩⟩⟩⟩
                    · have h190 := cond_neg c215 h190
                      refine RegV.noS rfl rfl ?_
                      refine RegV.noS rfl rfl ?_
                      refine RegV.noS rfl rfl ?_
                      refine RegV.noS rfl rfl ?_
                      refine RegV.noS rfl rfl ?_
                      refine RegV.noS rfl rfl ?_
                      refine RegV.noS rfl rfl ?_
                      refine RegV.p0 rfl rfl rfl ?_
                      refine RegV.p0 rfl rfl rfl ?_
                      refine RegV.noS rfl rfl ?_
                      refine RegV.noS rfl rfl ?_
                      refine RegV.noS rfl rfl ?_
                      refine RegV.noS rfl rfl ?_
                      refine RegV.noS rfl rfl ?_
                      refine RegV.noS rfl rfl ?_
                      refine RegV.noS rfl rfl ?_
                      refine RegV.noS rfl rfl ?_
                      refine RegV.p0 rfl rfl rfl ?_
                      refine RegV.p0 rfl rfl rfl ?_
                      refine RegV.noS rfl rfl ?_
                      refine RegV.noS rfl rfl ?_
                      refine RegV.noS rfl rfl ?_
                      refine RegV.noS rfl rfl ?_
                      refine RegV.noS rfl rfl ?_
                      refine RegV.noS rfl rfl ?_
                      refine RegV.noS rfl rfl ?_
                      refine RegV.noS rfl rfl ?_
                      refine RegV.noS rfl rfl ?_
                      refine RegV.noS rfl rfl ?_
                      refine RegV.noS rfl rfl ?_
                      refine RegV.noS rfl rfl ?_
                      refine RegV.noS rfl rfl ?_
                      refine RegV.noS rfl rfl ?_
                      refine RegV.noS rfl rfl ?_
                      refine RegV.noS rfl rfl ?_
                      refine RegV.noS rfl rfl ?_
                      refine RegV.noS rfl rfl ?_
                      refine RegV.noS rfl rfl ?_
                      refine RegV.noS rfl rfl ?_
                      refine RegV.noS rfl rfl ?_
                      refine RegV.noS rfl rfl ?_
                      refine RegV.noS rfl rfl ?_
                      refine RegV.p0 rfl rfl rfl ?_
                      refine RegV.nil1 (by kernel_rfl) ?_
                      refine AWc.cond rfl (fun hc => by cases hc) (fun _ => ?_)
                      refine AWc.skip ?_
                      refine AWc.rg hmix rfl rfl ?_
                      refine RegV.p0 (v := (.d (.int .i64 (IntKind.i64.wrap (y190_2 + (1 : Int)))))) rfl rfl rfl ?_
                      refine RegV.p0 rfl rfl rfl ?_
                      refine RegV.nil0 ?_
                      exact ⟨(y190_1, (IntKind.i64.wrap (y190_2 + (1 : Int)))), h190, ⟨rfl, [], [], rfl, rfl, ⟨⟨_, rfl, (.refl _)⟩, rfl, ⟨⟨_, rfl, (.refl _)⟩, rfl, ⟨⟨_, rfl, (.refl _)⟩, rfl, ⟨⟨_, rfl, (.refl _)⟩, rfl, ⟨⟨_, rfl, (.refl _)⟩, rfl, ⟨⟨_, rfl, (.refl _)⟩, rfl, ⟨⟨_, rfl, (.refl _)⟩, rfl, ⟨⟨_, rfl, (.refl _)⟩, rfl, trivial⟩⟩⟩⟩⟩⟩⟩⟩, ⟨⟨_, rfl, (.refl _)⟩, rfl, rfl, ⟨⟨_, rfl, (.refl _)⟩, rfl, rfl, ⟨⟨_, rfl, (.refl _)⟩, rfl, rfl, ⟨⟨_, rfl, (.refl _)⟩, rfl, rfl, trivial⟩⟩⟩⟩⟩⟩
                  · have h190 := cond_neg c197 h190
                    cases h190
                    dsimp only at h
                    refine AWc.exit ?_
                    refine inBlk_eq ?_
                    exact ⟨y190_1, h, ⟨rfl, [], [], rfl, rfl, ⟨⟨_, rfl, (.refl _)⟩, rfl, ⟨⟨_, rfl, (.refl _)⟩, rfl, ⟨⟨_, rfl, (.refl _)⟩, rfl, ⟨⟨_, rfl, (.refl _)⟩, rfl, ⟨⟨_, rfl, (.refl _)⟩, rfl, trivial⟩⟩⟩⟩⟩, ⟨⟨_, rfl, (.refl _)⟩, rfl, rfl, ⟨⟨_, rfl, (.refl _)⟩, rfl, rfl, ⟨⟨_, rfl, (.refl _)⟩, rfl, rfl, ⟨⟨_, rfl, (.refl _)⟩, rfl, rfl, trivial⟩⟩⟩⟩⟩⟩
                · intro j269_1 h
                  unfold f306_j269 at h
                  refine AWc.seq ?_
                  refine AWc.rg hmix rfl rfl ?_
                  refine RegV.p0 rfl rfl rfl ?_
                  refine RegV.p0 (v := (.ptr 2 8)) rfl rfl rfl ?_
                  refine RegV.ld (v := (.d (.sl (List.map (D.int .i64) (rd a0 a3).fBranches)))) (H' := [(2, (.cells [(.d (.int .i64 (rd a0 a3).fKind)), (.d (.str (rd a0 a3).fName)), (.d (.sl (List.map D.str (rd a0 a3).fAliases))), (.d (.sl (List.map TField.enc (rd a0 a3).fFields))), (.d (.sl (List.map D.str (rd a0 a3).fSymbols))), (.d (.bool (rd a0 a3).fHas)), (.d (.str (rd a0 a3).fDefault)), (.d (.int .i64 (rd a0 a3).fItems)), (.d (.sl (List.map (D.int .i64) (rd a0 a3).fBranches))), (.d (.int .i64 (rd a0 a3).fSize))])), (0, (.cells [(.d (.sl (List.map TNode.enc a0))), (.d (.sl (List.map (D.int .i64) a1))), (.d (.int .i64 (IntKind.i64.wrap (a2 - (1 : Int)))))])), (1, (.cells [(.d (.int .i64 (0 : Int))), (.d (.int .i64 (0 : Int))), .nils, .nils, .nils])), (3, (.cells [(.d (.int .i64 (rd a0 a3).fKind)), (.d (.int .i64 (0 : Int))), .nils, .nils, .nils]))]) rfl rfl trivial rfl rfl rfl rfl rfl ?_
                  refine RegV.p0 rfl rfl rfl ?_
                  obtain ⟨b276, h⟩ := gd_some h
                  refine RegV.iad (xs := (rd a0 a3).fBranches) (e := (D.int .i64)) rfl rfl rfl rfl (fun _ => rfl) b276 rfl ?_
                  refine RegV.p0 (v := (.d (.int .i64 (rd ((rd a0 a3).fBranches) j269_1)))) rfl rfl rfl ?_
                  obtain ⟨r278, e278, h⟩ := bind_some h
                  refine RegV.callS (q := false) (H' := [(0, (.cells [(.d (.sl (List.map TNode.enc a0))), (.d (.sl (List.map (D.int .i64) a1))), (.d (.int .i64 r278.2.2.2.2.2))])), (2, (.cells [(.d (.int .i64 (rd a0 a3).fKind)), (.d (.str (rd a0 a3).fName)), (.d (.sl (List.map D.str (rd a0 a3).fAliases))), (.d (.sl (List.map TField.enc (rd a0 a3).fFields))), (.d (.sl (List.map D.str (rd a0 a3).fSymbols))), (.d (.bool (rd a0 a3).fHas)), (.d (.str (rd a0 a3).fDefault)), (.d (.int .i64 (rd a0 a3).fItems)), (.d (.sl (List.map (D.int .i64) (rd a0 a3).fBranches))), (.d (.int .i64 (rd a0 a3).fSize))])), (1, (.cells [(.d (.int .i64 (0 : Int))), (.d (.int .i64 (0 : Int))), .nils, .nils, .nils])), (3, (.cells [(.d (.int .i64 (rd a0 a3).fKind)), (.d (.int .i64 (0 : Int))), .nils, .nils, .nils]))]) (c' := 4) (show ACalls P (N 306) [(.ptr 0 0), (.d (.int .i64 (rd ((rd a0 a3).fBranches) j269_1)))] [(0, (.cells [(.d (.sl (List.map TNode.enc a0))), (.d (.sl (List.map (D.int .i64) a1))), (.d (.int .i64 (IntKind.i64.wrap (a2 - (1 : Int)))))]))] (.tup [(.d (.agg [(.int .i64 r278.2.1), (.int .i64 r278.2.2.1), (.sl (List.map byteD r278.2.2.2.1)), (.sl (List.map (rtE (z := 5)) r278.2.2.2.2.1)), (.sl (List.map D.str ([] : List (List UInt8))))])), (.d (.bool r278.1))]) [(0, (.cells [(.d (.sl (List.map TNode.enc a0))), (.d (.sl (List.map (D.int .i64) a1))), (.d (.int .i64 r278.2.2.2.2.2))]))] from ACalls.use (hrc306 _ _ _ _ _ e278) [(0, 0)] 1 rfl) rfl rfl rfl rfl (.cons (.refl _) (.cons (.refl _) .nil)) (.refl _) (fun h => by cases h) rfl (hasCons rfl hasNil) rfl rfl rfl rfl ?_
                  refine RegV.p0 rfl rfl rfl ?_
                  refine RegV.p0 rfl rfl rfl ?_
                  refine RegV.p0 rfl rfl rfl ?_
                  refine RegV.evS (own := false) (v := (.ptr 4 0)) (H' := [(4, (.cells [(.d (.int .i64 (0 : Int))), (.d (.int .i64 (0 : Int))), .nils, .nils, .nils])), (0, (.cells [(.d (.sl (List.map TNode.enc a0))), (.d (.sl (List.map (D.int .i64) a1))), (.d (.int .i64 r278.2.2.2.2.2))])), (2, (.cells [(.d (.int .i64 (rd a0 a3).fKind)), (.d (.str (rd a0 a3).fName)), (.d (.sl (List.map D.str (rd a0 a3).fAliases))), (.d (.sl (List.map TField.enc (rd a0 a3).fFields))), (.d (.sl (List.map D.str (rd a0 a3).fSymbols))), (.d (.bool (rd a0 a3).fHas)), (.d (.str (rd a0 a3).fDefault)), (.d (.int .i64 (rd a0 a3).fItems)), (.d (.sl (List.map (D.int .i64) (rd a0 a3).fBranches))), (.d (.int .i64 (rd a0 a3).fSize))])), (1, (.cells [(.d (.int .i64 (0 : Int))), (.d (.int .i64 (0 : Int))), .nils, .nils, .nils])), (3, (.cells [(.d (.int .i64 (rd a0 a3).fKind)), (.d (.int .i64 (0 : Int))), .nils, .nils, .nils]))]) (c' := 5) rfl rfl trivial rfl rfl rfl rfl rfl rfl ?_
                  refine RegV.evN (own := false) (H' := [(4, (.cells [(.d (.int .i64 r278.2.1)), (.d (.int .i64 r278.2.2.1)), (.d (.sl (List.map byteD r278.2.2.2.1))), (.d (.sl (List.map (rtE (z := 5)) r278.2.2.2.2.1))), (.d (.sl (List.map D.str ([] : List (List UInt8)))))])), (0, (.cells [(.d (.sl (List.map TNode.enc a0))), (.d (.sl (List.map (D.int .i64) a1))), (.d (.int .i64 r278.2.2.2.2.2))])), (2, (.cells [(.d (.int .i64 (rd a0 a3).fKind)), (.d (.str (rd a0 a3).fName)), (.d (.sl (List.map D.str (rd a0 a3).fAliases))), (.d (.sl (List.map TField.enc (rd a0 a3).fFields))), (.d (.sl (List.map D.str (rd a0 a3).fSymbols))), (.d (.bool (rd a0 a3).fHas)), (.d (.str (rd a0 a3).fDefault)), (.d (.int .i64 (rd a0 a3).fItems)), (.d (.sl (List.map (D.int .i64) (rd a0 a3).fBranches))), (.d (.int .i64 (rd a0 a3).fSize))])), (1, (.cells [(.d (.int .i64 (0 : Int))), (.d (.int .i64 (0 : Int))), .nils, .nils, .nils])), (3, (.cells [(.d (.int .i64 (rd a0 a3).fKind)), (.d (.int .i64 (0 : Int))), .nils, .nils, .nils]))]) (c' := 5) rfl rfl (by exact ⟨rfl, Nat.le_of_ble_eq_true rfl, rfl⟩) rfl rfl rfl rfl ?_
                  refine RegV.p0 rfl rfl rfl ?_
                  refine RegV.nil0 ?_
                  refine AWc.seq ?_
                  refine AWc.seq ?_
                  refine AWc.rg hmix rfl rfl ?_
                  refine RegV.p0 rfl rfl rfl ?_
                  refine RegV.p0 (v := (.d (.bool (!r278.1)))) rfl rfl rfl ?_
                  refine RegV.nil0 ?_
                  refine AWc.cond rfl (fun c291 => ?_) (fun c291 => ?_)
                  · have h := cond_pos c291 h
                    refine AWc.seq ?_
                    refine AWc.rg hmix rfl rfl ?_
                    refine RegV.p1 (v := (.d (.agg [(.int .i64 (0 : Int)), (.int .i64 (0 : Int)), (.sl (List.map byteD ([] : List UInt8))), (.sl (List.map (rtE (z := 5)) ([] : List (RT 5)))), (.sl (List.map D.str ([] : List (List UInt8))))]))) rfl rfl trivial rfl rfl ?_
                    refine RegV.evN (own := false) (H' := [(1, (.cells [(.d (.int .i64 (0 : Int))), (.d (.int .i64 (0 : Int))), (.d (.sl (List.map byteD ([] : List UInt8)))), (.d (.sl (List.map (rtE (z := 5)) ([] : List (RT 5))))), (.d (.sl (List.map D.str ([] : List (List UInt8)))))])), (4, (.cells [(.d (.int .i64 r278.2.1)), (.d (.int .i64 r278.2.2.1)), (.d (.sl (List.map byteD r278.2.2.2.1))), (.d (.sl (List.map (rtE (z := 5)) r278.2.2.2.2.1))), (.d (.sl (List.map D.str ([] : List (List UInt8)))))])), (0, (.cells [(.d (.sl (List.map TNode.enc a0))), (.d (.sl (List.map (D.int .i64) a1))), (.d (.int .i64 r278.2.2.2.2.2))])), (2, (.cells [(.d (.int .i64 (rd a0 a3).fKind)), (.d (.str (rd a0 a3).fName)), (.d (.sl (List.map D.str (rd a0 a3).fAliases))), (.d (.sl (List.map TField.enc (rd a0 a3).fFields))), (.d (.sl (List.map D.str (rd a0 a3).fSymbols))), (.d (.bool (rd a0 a3).fHas)), (.d (.str (rd a0 a3).fDefault)), (.d (.int .i64 (rd a0 a3).fItems)), (.d (.sl (List.map (D.int .i64) (rd a0 a3).fBranches))), (.d (.int .i64 (rd a0 a3).fSize))])), (3, (.cells [(.d (.int .i64 (rd a0 a3).fKind)), (.d (.int .i64 (0 : Int))), .nils, .nils, .nils]))]) (c' := 5) rfl rfl (by exact ⟨rfl, Nat.le_of_ble_eq_true rfl, rfl⟩) rfl rfl rfl rfl ?_
                    refine RegV.p0 rfl rfl rfl ?_
                    refine RegV.nil0 ?_
                    have hr := Option.some.inj h
                    subst hr
                    exact AWc.ret (canQ (N := 161) (k := 2) (l' := [(4, (.ptr 1 0)), (5, (.d (.bool false)))]) (H' := [(1, (.cells [(.d (.int .i64 (0 : Int))), (.d (.int .i64 (0 : Int))), (.d (.sl (List.map byteD ([] : List UInt8)))), (.d (.sl (List.map (rtE (z := 5)) ([] : List (RT 5))))), (.d (.sl (List.map D.str ([] : List (List UInt8)))))])), (0, (.cells [(.d (.sl (List.map TNode.enc a0))), (.d (.sl (List.map (D.int .i64) a1))), (.d (.int .i64 r278.2.2.2.2.2))]))]) rfl ⟨rfl, [], [], rfl, rfl, ⟨⟨_, rfl, (.refl _)⟩, rfl, ⟨⟨_, rfl, (.refl _)⟩, rfl, trivial⟩⟩, ⟨⟨_, rfl, (.refl _)⟩, rfl, rfl, ⟨⟨_, rfl, (.refl _)⟩, rfl, rfl, trivial⟩⟩⟩ (doneA (.inr rfl) rfl ⟨(Nat.le_of_ble_eq_true rfl), ⟨trivial, trivial⟩⟩ (.refl _) (hasCons rfl hasNil)))
                  · have h := cond_neg c291 h
                    refine AWc.skip ?_
                    refine AWc.rg hmix rfl rfl ?_
                    refine RegV.p0 rfl rfl rfl ?_
                    refine RegV.ld (v := (.d (.agg [(.int .i64 r278.2.1), (.int .i64 r278.2.2.1), (.sl (List.map byteD r278.2.2.2.1)), (.sl (List.map (rtE (z := 5)) r278.2.2.2.2.1)), (.sl (List.map D.str ([] : List (List UInt8))))]))) (H' := [(4, (.cells [(.d (.int .i64 r278.2.1)), (.d (.int .i64 r278.2.2.1)), (.d (.sl (List.map byteD r278.2.2.2.1))), (.d (.sl (List.map (rtE (z := 5)) r278.2.2.2.2.1))), (.d (.sl (List.map D.str ([] : List (List UInt8)))))])), (0, (.cells [(.d (.sl (List.map TNode.enc a0))), (.d (.sl (List.map (D.int .i64) a1))), (.d (.int .i64 r278.2.2.2.2.2))])), (2, (.cells [(.d (.int .i64 (rd a0 a3).fKind)), (.d (.str (rd a0 a3).fName)), (.d (.sl (List.map D.str (rd a0 a3).fAliases))), (.d (.sl (List.map TField.enc (rd a0 a3).fFields))), (.d (.sl (List.map D.str (rd a0 a3).fSymbols))), (.d (.bool (rd a0 a3).fHas)), (.d (.str (rd a0 a3).fDefault)), (.d (.int .i64 (rd a0 a3).fItems)), (.d (.sl (List.map (D.int .i64) (rd a0 a3).fBranches))), (.d (.int .i64 (rd a0 a3).fSize))])), (1, (.cells [(.d (.int .i64 (0 : Int))), (.d (.int .i64 (0 : Int))), .nils, .nils, .nils])), (3, (.cells [(.d (.int .i64 (rd a0 a3).fKind)), (.d (.int .i64 (0 : Int))), .nils, .nils, .nils]))]) rfl rfl (Nat.le_of_ble_eq_true rfl) rfl rfl rfl rfl rfl ?_
                    refine RegV.p1 (v := (.d (.sl (List.map (rtE (z := 5)) ([(RT.of TValue.ok (TValue.mk r278.2.1 r278.2.2.1 r278.2.2.2.1 r278.2.2.2.2.1 ([] : List (List UInt8))))] : List (RT 5)))))) rfl rfl (by exact ⟨rfl, Nat.le_of_ble_eq_true rfl, mapLen (e := (rtE (z := 5))) (xs := ([(RT.of TValue.ok (TValue.mk r278.2.1 r278.2.2.1 r278.2.2.2.1 r278.2.2.2.2.1 ([] : List (List UInt8))))] : List (RT 5))) (z := 5) rtE_ok.len⟩) rfl rfl ?_
                    refine RegV.p0 (v := (.ptr 3 1)) rfl rfl rfl ?_
                    refine RegV.evN (own := false) (H' := [(3, (.cells [(.d (.int .i64 (rd a0 a3).fKind)), (.d (.int .i64 j269_1)), .nils, .nils, .nils])), (4, (.cells [(.d (.int .i64 r278.2.1)), (.d (.int .i64 r278.2.2.1)), (.d (.sl (List.map byteD r278.2.2.2.1))), (.d (.sl (List.map (rtE (z := 5)) r278.2.2.2.2.1))), (.d (.sl (List.map D.str ([] : List (List UInt8)))))])), (0, (.cells [(.d (.sl (List.map TNode.enc a0))), (.d (.sl (List.map (D.int .i64) a1))), (.d (.int .i64 r278.2.2.2.2.2))])), (2, (.cells [(.d (.int .i64 (rd a0 a3).fKind)), (.d (.str (rd a0 a3).fName)), (.d (.sl (List.map D.str (rd a0 a3).fAliases))), (.d (.sl (List.map TField.enc (rd a0 a3).fFields))), (.d (.sl (List.map D.str (rd a0 a3).fSymbols))), (.d (.bool (rd a0 a3).fHas)), (.d (.str (rd a0 a3).fDefault)), (.d (.int .i64 (rd a0 a3).fItems)), (.d (.sl (List.map (D.int .i64) (rd a0 a3).fBranches))), (.d (.int .i64 (rd a0 a3).fSize))])), (1, (.cells [(.d (.int .i64 (0 : Int))), (.d (.int .i64 (0 : Int))), .nils, .nils, .nils]))]) (c' := 5) rfl rfl (by exact ⟨rfl, Nat.le_of_ble_eq_true rfl, rfl⟩) rfl rfl rfl rfl ?_
                    refine RegV.p0 (v := (.ptr 3 3)) rfl rfl rfl ?_
                    refine RegV.evN (own := false) (H' := [(3, (.cells [(.d (.int .i64 (rd a0 a3).fKind)), (.d (.int .i64 j269_1)), .nils, (.d (.sl (List.map (rtE (z := 5)) ([(RT.of TValue.ok (TValue.mk r278.2.1 r278.2.2.1 r278.2.2.2.1 r278.2.2.2.2.1 ([] : List (List UInt8))))] : List (RT 5))))), .nils])), (4, (.cells [(.d (.int .i64 r278.2.1)), (.d (.int .i64 r278.2.2.1)), (.d (.sl (List.map byteD r278.2.2.2.1))), (.d (.sl (List.map (rtE (z := 5)) r278.2.2.2.2.1))), (.d (.sl (List.map D.str ([] : List (List UInt8)))))])), (0, (.cells [(.d (.sl (List.map TNode.enc a0))), (.d (.sl (List.map (D.int .i64) a1))), (.d (.int .i64 r278.2.2.2.2.2))])), (2, (.cells [(.d (.int .i64 (rd a0 a3).fKind)), (.d (.str (rd a0 a3).fName)), (.d (.sl (List.map D.str (rd a0 a3).fAliases))), (.d (.sl (List.map TField.enc (rd a0 a3).fFields))), (.d (.sl (List.map D.str (rd a0 a3).fSymbols))), (.d (.bool (rd a0 a3).fHas)), (.d (.str (rd a0 a3).fDefault)), (.d (.int .i64 (rd a0 a3).fItems)), (.d (.sl (List.map (D.int .i64) (rd a0 a3).fBranches))), (.d (.int .i64 (rd a0 a3).fSize))])), (1, (.cells [(.d (.int .i64 (0 : Int))), (.d (.int .i64 (0 : Int))), .nils, .nils, .nils]))]) (c' := 5) rfl rfl (by exact ⟨rfl, Nat.le_of_ble_eq_true rfl, rfl⟩) rfl rfl rfl rfl ?_
                    refine RegV.nil1 (by kernel_rfl) ?_
                    exact ⟨(j269_1, ([] : List UInt8), ([(RT.of TValue.ok (TValue.mk r278.2.1 r278.2.2.1 r278.2.2.2.1 r278.2.2.2.2.1 ([] : List (List UInt8))))] : List (RT 5)), r278.2.2.2.2.2), h, ⟨rfl, [], [(2, 3)], rfl, rfl, ⟨⟨_, rfl, (.refl _)⟩, rfl, ⟨⟨_, rfl, (.refl _)⟩, rfl, trivial⟩⟩, ⟨⟨_, rfl, (.refl _)⟩, rfl, rfl, ⟨⟨_, rfl, (.cells (.cons (.refl _) (.cons (.refl _) (.cons (.sl rfl) (.cons (.refl _) (.cons (.refl _) .nil))))))⟩, rfl, rfl, ⟨⟨_, rfl, (.refl _)⟩, rfl, rfl, trivial⟩⟩⟩⟩⟩
              · have h := cond_neg c177 h
                refine AWc.skip ?_
                exact ⟨((0 : Int), ([] : List UInt8), ([] : List (RT 5)), (IntKind.i64.wrap (a2 - (1 : Int)))), h, ⟨rfl, [], [(2, 3)], rfl, rfl, ⟨⟨_, rfl, (.refl _)⟩, rfl, ⟨⟨_, rfl, (.refl _)⟩, rfl, trivial⟩⟩, ⟨⟨_, rfl, (.refl _)⟩, rfl, rfl, ⟨⟨_, rfl, (.cells (.cons (.refl _) (.cons (.refl _) (.cons (.sl rfl) (.cons (.sl rfl) (.cons (.refl _) .nil))))))⟩, rfl, rfl, ⟨⟨_, rfl, (.refl _)⟩, rfl, rfl, trivial⟩⟩⟩⟩⟩
    · rintro ⟨j310_1, j310_2, j310_3, j310_4⟩ h
      dsimp only at h ⊢
      unfold f306_j310 at h
      refine AWc.seq ?_
      refine AWc.rg hmix rfl rfl ?_
      refine RegV.ld (v := (.d (.agg [(.int .i64 (rd a0 a3).fKind), (.int .i64 j310_1), (.sl (List.map byteD j310_2)), (.sl (List.map (rtE (z := 5)) j310_3)), (.sl (List.map D.str ([] : List (List UInt8))))]))) (H' := [(2, (.cells [(.d (.int .i64 (rd a0 a3).fKind)), (.d (.int .i64 j310_1)), (.d (.sl (List.map byteD j310_2))), (.d (.sl (List.map (rtE (z := 5)) j310_3))), .nils])), (1, (.cells [(.d (.int .i64 (0 : Int))), (.d (.int .i64 (0 : Int))), .nils, .nils, .nils])), (0, (.cells [(.d (.sl (List.map TNode.enc a0))), (.d (.sl (List.map (D.int .i64) a1))), (.d (.int .i64 j310_4))]))]) rfl rfl (Nat.le_of_ble_eq_true rfl) rfl rfl rfl rfl rfl ?_
      refine RegV.evN (own := false) (H' := [(1, (.cells [(.d (.int .i64 (rd a0 a3).fKind)), (.d (.int .i64 j310_1)), (.d (.sl (List.map byteD j310_2))), (.d (.sl (List.map (rtE (z := 5)) j310_3))), (.d (.sl (List.map D.str ([] : List (List UInt8)))))])), (2, (.cells [(.d (.int .i64 (rd a0 a3).fKind)), (.d (.int .i64 j310_1)), (.d (.sl (List.map byteD j310_2))), (.d (.sl (List.map (rtE (z := 5)) j310_3))), .nils])), (0, (.cells [(.d (.sl (List.map TNode.enc a0))), (.d (.sl (List.map (D.int .i64) a1))), (.d (.int .i64 j310_4))]))]) (c' := 3) rfl rfl (by exact ⟨rfl, Nat.le_of_ble_eq_true rfl, rfl⟩) rfl rfl rfl rfl ?_
      refine RegV.p0 rfl rfl rfl ?_
      refine RegV.nil0 ?_
      have hr := Option.some.inj h
      subst hr
      exact AWc.ret (canQ (N := 161) (k := 2) (l' := [(4, (.ptr 1 0)), (5, (.d (.bool true)))]) (H' := [(1, (.cells [(.d (.int .i64 ((rd a0 a3).fKind))), (.d (.int .i64 j310_1)), (.d (.sl (List.map byteD j310_2))), (.d (.sl (List.map (rtE (z := 5)) j310_3))), (.d (.sl (List.map D.str ([] : List (List UInt8)))))])), (0, (.cells [(.d (.sl (List.map TNode.enc a0))), (.d (.sl (List.map (D.int .i64) a1))), (.d (.int .i64 j310_4))]))]) rfl ⟨rfl, [], [], rfl, rfl, ⟨⟨_, rfl, (.refl _)⟩, rfl, ⟨⟨_, rfl, (.refl _)⟩, rfl, trivial⟩⟩, ⟨⟨_, rfl, (.refl _)⟩, rfl, rfl, ⟨⟨_, rfl, (.refl _)⟩, rfl, rfl, trivial⟩⟩⟩ (doneA (.inr rfl) rfl ⟨(Nat.le_of_ble_eq_true rfl), ⟨trivial, trivial⟩⟩ (.refl _) (hasCons rfl hasNil)))
def f306 : Nat → (List TNode) → (List Int) → Int → Int → Option (Bool × Int × Int × (List UInt8) × (List (RT 5)) × Int)
  | 0, _, _, _, _ => none
  | k + 1, a0, a1, a2, a3 => f306_s (f306 k) k a0 a1 a2 a3
theorem F306 {P : Program} {N : Nat → Nat} (hmix : P.follows .mixedOrders = true) (hc : HC306 P N) {k : Nat} {a0 : (List TNode)} {a1 : (List Int)} {a2 : Int} {a3 : Int} {r : (Bool × Int × Int × (List UInt8) × (List (RT 5)) × Int)} (h : f306 k a0 a1 a2 a3 = some r) :
    ACalls P (N 306) [(.ptr 0 0), (.d (.int .i64 a3))] [(0, (.cells [(.d (.sl (List.map TNode.enc a0))), (.d (.sl (List.map (D.int .i64) a1))), (.d (.int .i64 a2))]))] (.tup [(.d (.agg [(.int .i64 r.2.1), (.int .i64 r.2.2.1), (.sl (List.map byteD r.2.2.2.1)), (.sl (List.map (rtE (z := 5)) r.2.2.2.2.1)), (.sl (List.map D.str ([] : List (List UInt8))))])), (.d (.bool r.1))]) [(0, (.cells [(.d (.sl (List.map TNode.enc a0))), (.d (.sl (List.map (D.int .i64) a1))), (.d (.int .i64 r.2.2.2.2.2))]))] := by
  induction k generalizing a0 a1 a2 a3 r with
  | zero => exact absurd (show (none : Option _) = some r from h) (fun h2 => by cases h2)
  | succ k ih => exact F306_s hmix hc (fun _ _ _ _ _ h => ih h) h
/-- courant/live.Least -/
def C249 (N : Nat → Nat) : AFunc := { n := 39, params := 2, res := [.cell 4 5 true, .tmp 5], body :=
 (.seq (.region false [⟨(some 2), .box (.t 0), none, []⟩,
   ⟨(some 4), .alloc [(.int .i64 0), (.int .i64 0), (.sl []), (.sl []), (.sl [])], none, []⟩,
   ⟨(some 5), .mv (.k (.d (.bool false))), none, []⟩])
  (.seq (.region true [⟨(some 7), .load (.t 2) 1 true, none, []⟩,
    ⟨(some 8), .load (.t 2) 1 true, none, []⟩,
    ⟨(some 9), .call (.k (.d (.fn (N 250)))) [(.t 8)], none, [1]⟩,
    ⟨(some 10), .build [(.sl []), (.sl []), (.int .i64 0)] [(0, 1, (.t 7)), (1, 1, (.t 9)), (2, 1, (.k (.d (.int .i64 10000))))], none, [0, 2]⟩,
    ⟨(some 11), .box (.t 10), none, [3]⟩,
    ⟨(some 6), .mv (.t 11), none, [4, 2, 0, 1, 3]⟩])
   (.seq (.seq (.region false [⟨(some 12), .mv (.t 1), none, []⟩,
      ⟨(some 13), .bin .lss (.t 12) (.k (.d (.int .i64 0))), none, [0]⟩,
      ⟨(some 14), .mv (.t 13), none, [1]⟩,
      ⟨(some 15), .mv (.t 1), (some (14, false)), [2]⟩,
      ⟨(some 16), .mv (.t 6), (some (14, false)), [2]⟩,
      ⟨(some 17), .nilchk (.t 16), (some (14, false)), [4, 2]⟩,
      ⟨(some 18), .faddr (.t 17) 1, (some (14, false)), [5, 2]⟩,
      ⟨(some 19), .load (.t 18) 1 false, (some (14, false)), [6, 2]⟩,
      ⟨(some 20), .len (.t 19), (some (14, false)), [7, 2]⟩,
      ⟨(some 21), .bin .geq (.t 15) (.t 20), (some (14, false)), [3, 8, 2]⟩,
      ⟨(some 22), .pick (.t 14) (.k (.d (.bool true))) (.t 21), none, [2, 9]⟩,
      ⟨(some 23), .mv (.t 22), none, [10, 2]⟩,
      ⟨(some 24), .mv (.t 6), (some (23, false)), [11]⟩,
      ⟨(some 25), .nilchk (.t 24), (some (23, false)), [12, 11]⟩,
      ⟨(some 26), .faddr (.t 25) 1, (some (23, false)), [13, 11]⟩,
      ⟨(some 27), .load (.t 26) 1 false, (some (23, false)), [14, 11]⟩,
      ⟨(some 28), .mv (.t 1), (some (23, false)), [11]⟩,
      ⟨(some 29), .iaddr (.t 27) (.t 28) 1, (some (23, false)), [15, 16, 11]⟩,
      ⟨(some 30), .load (.t 29) 1 false, (some (23, false)), [17, 11]⟩,
      ⟨(some 31), .bin .eql (.t 30) (.k (.d (.int .i64 (-1)))), (some (23, false)), [18, 11]⟩,
      ⟨(some 32), .pick (.t 23) (.k (.d (.bool true))) (.t 31), none, [11, 19]⟩])
     (.cond (.t 32) (.seq (.region false [⟨(some 33), .build [(.int .i64 0), (.int .i64 0), (.sl []), (.sl []), (.sl [])] [], none, []⟩,
        ⟨none, .store (.t 4) (.t 33) 5, none, [0]⟩,
        ⟨(some 5), .mv (.k (.d (.bool false))), none, [1, 0]⟩])
       .ret)
      (.skip)))
    (.seq (.region false [⟨(some 34), .mv (.t 6), none, []⟩,
      ⟨(some 35), .mv (.t 1), none, []⟩,
      ⟨(some 36), .call (.k (.d (.fn (N 306)))) [(.t 34), (.t 35)], none, [0, 1]⟩,
      ⟨(some 37), .ext (.t 36) 0, none, [2]⟩,
      ⟨(some 38), .ext (.t 36) 1, none, [2]⟩,
      ⟨none, .store (.t 4) (.t 37) 5, none, [3, 2, 0, 1, 4]⟩,
      ⟨(some 5), .mv (.t 38), none, [4, 5, 0, 1, 2, 3]⟩])
     .ret)))) }
def HC249 (P : Program) (N : Nat → Nat) : Prop := HasF P (N 249) (C249 N) ∧ HC250 P N ∧ HC306 P N
def f249_j41 (k : Nat) (a0 : TSchema) (r12 : (List Int)) (a1 : Int) (j41_1 : Bool) : Option (Bool × Int × Int × (List UInt8) × (List (RT 5))) := cond j41_1 (some (false, (0 : Int), (0 : Int), ([] : List UInt8), ([] : List (RT 5)))) ((f306 k a0.fNodes r12 (10000 : Int) a1).bind fun r55 => some (r55.1, r55.2.1, r55.2.2.1, r55.2.2.2.1, r55.2.2.2.2.1))
def f249 (k : Nat) (a0 : TSchema) (a1 : Int) : Option (Bool × Int × Int × (List UInt8) × (List (RT 5))) := (f250 k (TSchema.mk a0.fNodes)).bind fun r12 => cond (decide (a1 < (0 : Int))) (f249_j41 k a0 r12 a1 true) (cond (decide (a1 ≥ ((r12.length : Nat) : Int))) (f249_j41 k a0 r12 a1 true) (gd (0 ≤ a1 ∧ a1 < ((r12.length : Nat) : Int)) (f249_j41 k a0 r12 a1 (decide ((rd r12 a1) = (-1 : Int))))))
theorem F249 {P : Program} {N : Nat → Nat} (hmix : P.follows .mixedOrders = true) (hc : HC249 P N) {k : Nat} {a0 : TSchema} {a1 : Int} {r : (Bool × Int × Int × (List UInt8) × (List (RT 5)))} (h : f249 k a0 a1 = some r) :
    ACalls P (N 249) [(.d (TSchema.enc a0)), (.d (.int .i64 a1))] [] (.tup [(.d (.agg [(.int .i64 r.2.1), (.int .i64 r.2.2.1), (.sl (List.map byteD r.2.2.2.1)), (.sl (List.map (rtE (z := 5)) r.2.2.2.2)), (.sl (List.map D.str ([] : List (List UInt8))))])), (.d (.bool r.1))]) [] := by
  refine acalls_canon (F := C249 N) hc.1 0 0 rfl ?_
  unfold f249 at h
  dsimp only [C249, startL]
  refine AWc.seq ?_
  refine AWc.rg hmix rfl rfl ?_
  refine RegV.evS (own := false) (v := (.ptr 0 0)) (H' := [(0, (.cells [(.d (.sl (List.map TNode.enc a0.fNodes)))]))]) (c' := 1) rfl rfl trivial rfl rfl rfl rfl rfl rfl ?_
  refine RegV.evS (own := false) (v := (.ptr 1 0)) (H' := [(1, (.cells [(.d (.int .i64 (0 : Int))), (.d (.int .i64 (0 : Int))), .nils, .nils, .nils])), (0, (.cells [(.d (.sl (List.map TNode.enc a0.fNodes)))]))]) (c' := 2) rfl rfl trivial rfl rfl rfl rfl rfl rfl ?_
  refine RegV.p0 rfl rfl rfl ?_
  refine RegV.nil0 ?_
  refine AWc.seq ?_
  refine AWc.rg hmix rfl rfl ?_
  refine RegV.ld (v := (.d (.agg [(.sl (List.map TNode.enc a0.fNodes))]))) (H' := [(0, (.cells [(.d (.sl (List.map TNode.enc a0.fNodes)))])), (1, (.cells [(.d (.int .i64 (0 : Int))), (.d (.int .i64 (0 : Int))), .nils, .nils, .nils]))]) rfl rfl (Nat.le_of_ble_eq_true rfl) rfl rfl rfl rfl rfl ?_
  refine RegV.ld (v := (.d (.agg [(.sl (List.map TNode.enc a0.fNodes))]))) (H' := [(0, (.cells [(.d (.sl (List.map TNode.enc a0.fNodes)))])), (1, (.cells [(.d (.int .i64 (0 : Int))), (.d (.int .i64 (0 : Int))), .nils, .nils, .nils]))]) rfl rfl (Nat.le_of_ble_eq_true rfl) rfl rfl rfl rfl rfl ?_
  obtain ⟨r12, e12, h⟩ := bind_some h
  refine RegV.call0 (F250 hmix hc.2.1 e12) rfl rfl rfl rfl (.cons (.refl _) .nil) rfl ?_
  refine RegV.p1 (v := (.d (.agg [(.sl (List.map TNode.enc a0.fNodes)), (.sl (List.map (D.int .i64) r12)), (.int .i64 (10000 : Int))]))) rfl rfl (by exact ⟨⟨rfl, Nat.le_of_ble_eq_true rfl⟩, ⟨⟨rfl, Nat.le_of_ble_eq_true rfl⟩, ⟨⟨rfl, Nat.le_of_ble_eq_true rfl⟩, trivial⟩⟩⟩) rfl rfl ?_
  refine RegV.evS (own := false) (v := (.ptr 2 0)) (H' := [(2, (.cells [(.d (.sl (List.map TNode.enc a0.fNodes))), (.d (.sl (List.map (D.int .i64) r12))), (.d (.int .i64 (10000 : Int)))])), (0, (.cells [(.d (.sl (List.map TNode.enc a0.fNodes)))])), (1, (.cells [(.d (.int .i64 (0 : Int))), (.d (.int .i64 (0 : Int))), .nils, .nils, .nils]))]) (c' := 3) rfl rfl trivial rfl rfl rfl rfl rfl rfl ?_
  refine RegV.p0 rfl rfl rfl ?_
  refine RegV.nil1 (by kernel_rfl) ?_
  refine AWc.seq ?_
  refine AWc.seqS (N := 39) 2 (fun (z : Bool) => [(1, (.d (.int .i64 a1))), (4, (.ptr 0 0)), (6, (.ptr 1 0)), (32, (.d (.bool z)))]) (fun z => [(0, (.cells [(.d (.int .i64 (0 : Int))), (.d (.int .i64 (0 : Int))), .nils, .nils, .nils])), (1, (.cells [(.d (.sl (List.map TNode.enc a0.fNodes))), (.d (.sl (List.map (D.int .i64) r12))), (.d (.int .i64 (10000 : Int)))]))]) (fun z => f249_j41 k a0 r12 a1 z = some r) rfl_le ?_ ?_
  · refine AWc.rg hmix rfl rfl ?_
    refine RegV.p0 rfl rfl rfl ?_
    refine RegV.p0 (v := (.d (.bool (decide (a1 < (0 : Int)))))) rfl rfl rfl ?_
    refine RegV.p0 rfl rfl rfl ?_
    refine RegV.split (fun c22 => ?_) (fun c22 => ?_)
    · have h := cond_pos c22 h
      refine RegV.noS rfl rfl ?_
      refine RegV.noS rfl rfl ?_
      refine RegV.noS rfl rfl ?_
      refine RegV.noS rfl rfl ?_
      refine RegV.noS rfl rfl ?_
      refine RegV.noS rfl rfl ?_
      refine RegV.noS rfl rfl ?_
      refine RegV.p0 rfl rfl rfl ?_
      refine RegV.p0 rfl rfl rfl ?_
      refine RegV.noS rfl rfl ?_
      refine RegV.noS rfl rfl ?_
      refine RegV.noS rfl rfl ?_
      refine RegV.noS rfl rfl ?_
      refine RegV.noS rfl rfl ?_
      refine RegV.noS rfl rfl ?_
      refine RegV.noS rfl rfl ?_
      refine RegV.noS rfl rfl ?_
      refine RegV.p0 rfl rfl rfl ?_
      refine RegV.nil0 ?_
      exact ⟨true, h, ⟨rfl, [], [(0, 1), (1, 2)], rfl, rfl, ⟨⟨_, rfl, (.refl _)⟩, rfl, ⟨⟨_, rfl, (.refl _)⟩, rfl, ⟨⟨_, rfl, (.refl _)⟩, rfl, ⟨⟨_, rfl, (.refl _)⟩, rfl, trivial⟩⟩⟩⟩, ⟨⟨_, rfl, (.refl _)⟩, rfl, rfl, ⟨⟨_, rfl, (.refl _)⟩, rfl, rfl, trivial⟩⟩⟩⟩
    · have h := cond_neg c22 h
      refine RegV.p0 rfl rfl rfl ?_
      refine RegV.p0 rfl rfl rfl ?_
      refine RegV.p0 rfl rfl rfl ?_
      refine RegV.p0 (v := (.ptr 2 1)) rfl rfl rfl ?_
      refine RegV.ld (v := (.d (.sl (List.map (D.int .i64) r12)))) (H' := [(2, (.cells [(.d (.sl (List.map TNode.enc a0.fNodes))), (.d (.sl (List.map (D.int .i64) r12))), (.d (.int .i64 (10000 : Int)))])), (0, (.cells [(.d (.sl (List.map TNode.enc a0.fNodes)))])), (1, (.cells [(.d (.int .i64 (0 : Int))), (.d (.int .i64 (0 : Int))), .nils, .nils, .nils]))]) rfl rfl trivial rfl rfl rfl rfl rfl ?_
      refine RegV.len (xs := r12) (e := (D.int .i64)) rfl rfl rfl rfl ?_
      refine RegV.p0 (v := (.d (.bool (decide (a1 ≥ ((r12.length : Nat) : Int)))))) rfl rfl rfl ?_
      refine RegV.p0 rfl rfl rfl ?_
      refine RegV.p0 rfl rfl rfl ?_
      refine RegV.split (fun c31 => ?_) (fun c31 => ?_)
      · have h := cond_pos c31 h
        refine RegV.noS rfl rfl ?_
        refine RegV.noS rfl rfl ?_
        refine RegV.noS rfl rfl ?_
        refine RegV.noS rfl rfl ?_
        refine RegV.noS rfl rfl ?_
        refine RegV.noS rfl rfl ?_
        refine RegV.noS rfl rfl ?_
        refine RegV.noS rfl rfl ?_
        refine RegV.p0 rfl rfl rfl ?_
        refine RegV.nil0 ?_
        exact ⟨true, h, ⟨rfl, [], [(0, 1), (1, 2)], rfl, rfl, ⟨⟨_, rfl, (.refl _)⟩, rfl, ⟨⟨_, rfl, (.refl _)⟩, rfl, ⟨⟨_, rfl, (.refl _)⟩, rfl, ⟨⟨_, rfl, (.refl _)⟩, rfl, trivial⟩⟩⟩⟩, ⟨⟨_, rfl, (.refl _)⟩, rfl, rfl, ⟨⟨_, rfl, (.refl _)⟩, rfl, rfl, trivial⟩⟩⟩⟩
      · have h := cond_neg c31 h
        refine RegV.p0 rfl rfl rfl ?_
        refine RegV.p0 rfl rfl rfl ?_
        refine RegV.p0 (v := (.ptr 2 1)) rfl rfl rfl ?_
        refine RegV.ld (v := (.d (.sl (List.map (D.int .i64) r12)))) (H' := [(2, (.cells [(.d (.sl (List.map TNode.enc a0.fNodes))), (.d (.sl (List.map (D.int .i64) r12))), (.d (.int .i64 (10000 : Int)))])), (0, (.cells [(.d (.sl (List.map TNode.enc a0.fNodes)))])), (1, (.cells [(.d (.int .i64 (0 : Int))), (.d (.int .i64 (0 : Int))), .nils, .nils, .nils]))]) rfl rfl trivial rfl rfl rfl rfl rfl ?_
        refine RegV.p0 rfl rfl rfl ?_
        obtain ⟨b37, h⟩ := gd_some h
        refine RegV.iad (xs := r12) (e := (D.int .i64)) rfl rfl rfl rfl (fun _ => rfl) b37 rfl ?_
        refine RegV.p0 (v := (.d (.int .i64 (rd r12 a1)))) rfl rfl rfl ?_
        refine RegV.p0 (v := (.d (.bool (decide ((rd r12 a1) = (-1 : Int)))))) rfl rfl rfl ?_
        refine RegV.p0 rfl rfl rfl ?_
        refine RegV.nil0 ?_
        exact ⟨(decide ((rd r12 a1) = (-1 : Int))), h, ⟨rfl, [], [(0, 1), (1, 2)], rfl, rfl, ⟨⟨_, rfl, (.refl _)⟩, rfl, ⟨⟨_, rfl, (.refl _)⟩, rfl, ⟨⟨_, rfl, (.refl _)⟩, rfl, ⟨⟨_, rfl, (.refl _)⟩, rfl, trivial⟩⟩⟩⟩, ⟨⟨_, rfl, (.refl _)⟩, rfl, rfl, ⟨⟨_, rfl, (.refl _)⟩, rfl, rfl, trivial⟩⟩⟩⟩
  · intro j41_1 h
    unfold f249_j41 at h
    refine AWc.cond rfl (fun c41 => ?_) (fun c41 => ?_)
    · have h := cond_pos c41 h
      refine AWc.seq ?_
      refine AWc.rg hmix rfl rfl ?_
      refine RegV.p1 (v := (.d (.agg [(.int .i64 (0 : Int)), (.int .i64 (0 : Int)), (.sl (List.map byteD ([] : List UInt8))), (.sl (List.map (rtE (z := 5)) ([] : List (RT 5)))), (.sl (List.map D.str ([] : List (List UInt8))))]))) rfl rfl trivial rfl rfl ?_
      refine RegV.evN (own := false) (H' := [(0, (.cells [(.d (.int .i64 (0 : Int))), (.d (.int .i64 (0 : Int))), (.d (.sl (List.map byteD ([] : List UInt8)))), (.d (.sl (List.map (rtE (z := 5)) ([] : List (RT 5))))), (.d (.sl (List.map D.str ([] : List (List UInt8)))))])), (1, (.cells [(.d (.sl (List.map TNode.enc a0.fNodes))), (.d (.sl (List.map (D.int .i64) r12))), (.d (.int .i64 (10000 : Int)))]))]) (c' := 2) rfl rfl (by exact ⟨rfl, Nat.le_of_ble_eq_true rfl, rfl⟩) rfl rfl rfl rfl ?_
      refine RegV.p0 rfl rfl rfl ?_
      refine RegV.nil0 ?_
      have hr := Option.some.inj h
      subst hr
      exact AWc.ret (canQ (N := 39) (k := 1) (l' := [(4, (.ptr 0 0)), (5, (.d (.bool false)))]) (H' := [(0, (.cells [(.d (.int .i64 (0 : Int))), (.d (.int .i64 (0 : Int))), (.d (.sl (List.map byteD ([] : List UInt8)))), (.d (.sl (List.map (rtE (z := 5)) ([] : List (RT 5))))), (.d (.sl (List.map D.str ([] : List (List UInt8)))))]))]) rfl ⟨rfl, [], [], rfl, rfl, ⟨⟨_, rfl, (.refl _)⟩, rfl, ⟨⟨_, rfl, (.refl _)⟩, rfl, trivial⟩⟩, ⟨⟨_, rfl, (.refl _)⟩, rfl, rfl, trivial⟩⟩ (doneA (.inr rfl) rfl ⟨(Nat.le_of_ble_eq_true rfl), ⟨trivial, trivial⟩⟩ (.refl _) hasNil))
    · have h := cond_neg c41 h
      refine AWc.skip ?_
      refine AWc.seq ?_
      refine AWc.rg hmix rfl rfl ?_
      refine RegV.p0 rfl rfl rfl ?_
      refine RegV.p0 rfl rfl rfl ?_
      obtain ⟨r55, e55, h⟩ := bind_some h
      refine RegV.callS (q := false) (H' := [(1, (.cells [(.d (.sl (List.map TNode.enc a0.fNodes))), (.d (.sl (List.map (D.int .i64) r12))), (.d (.int .i64 r55.2.2.2.2.2))])), (0, (.cells [(.d (.int .i64 (0 : Int))), (.d (.int .i64 (0 : Int))), .nils, .nils, .nils]))]) (c' := 2) (show ACalls P (N 306) [(.ptr 1 0), (.d (.int .i64 a1))] [(1, (.cells [(.d (.sl (List.map TNode.enc a0.fNodes))), (.d (.sl (List.map (D.int .i64) r12))), (.d (.int .i64 (10000 : Int)))]))] (.tup [(.d (.agg [(.int .i64 r55.2.1), (.int .i64 r55.2.2.1), (.sl (List.map byteD r55.2.2.2.1)), (.sl (List.map (rtE (z := 5)) r55.2.2.2.2.1)), (.sl (List.map D.str ([] : List (List UInt8))))])), (.d (.bool r55.1))]) [(1, (.cells [(.d (.sl (List.map TNode.enc a0.fNodes))), (.d (.sl (List.map (D.int .i64) r12))), (.d (.int .i64 r55.2.2.2.2.2))]))] from ACalls.use (F306 hmix hc.2.2 e55) [(0, 1)] 1 rfl) rfl rfl rfl rfl (.cons (.refl _) (.cons (.refl _) .nil)) (.refl _) (fun h => by cases h) rfl (hasCons rfl hasNil) rfl rfl rfl rfl ?_
      refine RegV.p0 rfl rfl rfl ?_
      refine RegV.p0 rfl rfl rfl ?_
      refine RegV.evN (own := false) (H' := [(0, (.cells [(.d (.int .i64 r55.2.1)), (.d (.int .i64 r55.2.2.1)), (.d (.sl (List.map byteD r55.2.2.2.1))), (.d (.sl (List.map (rtE (z := 5)) r55.2.2.2.2.1))), (.d (.sl (List.map D.str ([] : List (List UInt8)))))])), (1, (.cells [(.d (.sl (List.map TNode.enc a0.fNodes))), (.d (.sl (List.map (D.int .i64) r12))), (.d (.int .i64 r55.2.2.2.2.2))]))]) (c' := 2) rfl rfl (by exact ⟨rfl, Nat.le_of_ble_eq_true rfl, rfl⟩) rfl rfl rfl rfl ?_
      refine RegV.p0 rfl rfl rfl ?_
      refine RegV.nil0 ?_
      have hr := Option.some.inj h
      subst hr
      exact AWc.ret (canQ (N := 39) (k := 1) (l' := [(4, (.ptr 0 0)), (5, (.d (.bool r55.1)))]) (H' := [(0, (.cells [(.d (.int .i64 r55.2.1)), (.d (.int .i64 r55.2.2.1)), (.d (.sl (List.map byteD r55.2.2.2.1))), (.d (.sl (List.map (rtE (z := 5)) r55.2.2.2.2.1))), (.d (.sl (List.map D.str ([] : List (List UInt8)))))]))]) rfl ⟨rfl, [], [], rfl, rfl, ⟨⟨_, rfl, (.refl _)⟩, rfl, ⟨⟨_, rfl, (.refl _)⟩, rfl, trivial⟩⟩, ⟨⟨_, rfl, (.refl _)⟩, rfl, rfl, trivial⟩⟩ (doneA (.inr rfl) rfl ⟨(Nat.le_of_ble_eq_true rfl), ⟨trivial, trivial⟩⟩ (.refl _) hasNil))
/-- courant/courantlaw11.awake -/
def C248 (N : Nat → Nat) : AFunc := { n := 16, params := 0, res := [.tmp 0], body :=
 (.seq (.region false [⟨(some 0), .mv (.k (.d (.bool false))), none, []⟩])
  (.seq (.region false [⟨(some 4), .build [(.int .i64 0), (.str []), (.sl []), (.sl []), (.sl []), (.bool false), (.str []), (.int .i64 0), (.sl []), (.int .i64 0)] [(0, 1, (.k (.d (.int .i64 3))))], none, []⟩,
    ⟨(some 5), .bslice 1 10 [(.int .i64 0), (.str []), (.sl []), (.sl []), (.sl []), (.bool false), (.str []), (.int .i64 0), (.sl []), (.int .i64 0)] [(0, (.t 4))], none, [0]⟩,
    ⟨(some 6), .build [(.sl [])] [(0, 1, (.t 5))], none, [1]⟩,
    ⟨(some 7), .call (.k (.d (.fn (N 249)))) [(.t 6), (.k (.d (.int .i64 0)))], none, [2]⟩,
    ⟨(some 3), .mv (.t 7), none, [3]⟩,
    ⟨(some 8), .ext (.t 3) 0, none, [4]⟩,
    ⟨(some 9), .ext (.t 3) 1, none, [4]⟩,
    ⟨(some 1), .alloc [(.int .i64 0), (.int .i64 0), (.sl []), (.sl []), (.sl [])], none, []⟩,
    ⟨none, .store (.t 1) (.t 8) 5, none, [7, 5, 3, 0, 1, 2, 4]⟩,
    ⟨(some 2), .mv (.t 9), none, [6, 8, 0, 1, 2, 3, 4, 5, 7]⟩])
   (.seq (.region false [⟨(some 10), .mv (.t 2), none, []⟩,
     ⟨(some 11), .mv (.t 10), none, [0]⟩,
     ⟨(some 12), .faddr (.t 1) 0, (some (11, true)), [1]⟩,
     ⟨(some 13), .load (.t 12) 1 false, (some (11, true)), [2, 1]⟩,
     ⟨(some 14), .bin .eql (.t 13) (.k (.d (.int .i64 3))), (some (11, true)), [3, 1]⟩,
     ⟨(some 15), .pick (.t 11) (.t 14) (.k (.d (.bool false))), none, [1, 4]⟩,
     ⟨(some 0), .mv (.t 15), none, [5, 1, 0, 2, 3, 4]⟩])
    .ret))) }
def HC248 (P : Program) (N : Nat → Nat) : Prop := HasF P (N 248) (C248 N) ∧ HC249 P N
def f248 (k : Nat) : Option Bool := (f249 k (TSchema.mk ([(TNode.mk (3 : Int) ([] : List UInt8) ([] : List (List UInt8)) ([] : List TField) ([] : List (List UInt8)) false ([] : List UInt8) (0 : Int) ([] : List Int) (0 : Int))] : List TNode)) (0 : Int)).bind fun r11 => cond r11.1 (some (decide (r11.2.1 = (3 : Int)))) (some false)
theorem F248 {P : Program} {N : Nat → Nat} (hmix : P.follows .mixedOrders = true) (hc : HC248 P N) {k : Nat} {r : Bool} (h : f248 k = some r) :
    ACalls P (N 248) [] [] (.d (.bool r)) [] := by
  refine acalls_canon (F := C248 N) hc.1 0 0 rfl ?_
  unfold f248 at h
  dsimp only [C248, startL]
  refine AWc.seq ?_
  refine AWc.rg hmix rfl rfl ?_
  refine RegV.p0 rfl rfl rfl ?_
  refine RegV.nil0 ?_
  refine AWc.seq ?_
  refine AWc.rg hmix rfl rfl ?_
  refine RegV.p1 (v := (.d (.agg [(.int .i64 (3 : Int)), (.str ([] : List UInt8)), (.sl (List.map D.str ([] : List (List UInt8)))), (.sl (List.map TField.enc ([] : List TField))), (.sl (List.map D.str ([] : List (List UInt8)))), (.bool false), (.str ([] : List UInt8)), (.int .i64 (0 : Int)), (.sl (List.map (D.int .i64) ([] : List Int))), (.int .i64 (0 : Int))]))) rfl rfl (by exact ⟨⟨rfl, Nat.le_of_ble_eq_true rfl⟩, trivial⟩) rfl rfl ?_
  refine RegV.p1 (v := (.d (.sl (List.map TNode.enc ([(TNode.mk (3 : Int) ([] : List UInt8) ([] : List (List UInt8)) ([] : List TField) ([] : List (List UInt8)) false ([] : List UInt8) (0 : Int) ([] : List Int) (0 : Int))] : List TNode))))) rfl rfl (by exact ⟨rfl, Nat.le_of_ble_eq_true rfl, mapLen (e := TNode.enc) (xs := ([(TNode.mk (3 : Int) ([] : List UInt8) ([] : List (List UInt8)) ([] : List TField) ([] : List (List UInt8)) false ([] : List UInt8) (0 : Int) ([] : List Int) (0 : Int))] : List TNode)) (z := 10) (fun _ => rfl)⟩) rfl rfl ?_
  refine RegV.p1 (v := (.d (.agg [(.sl (List.map TNode.enc ([(TNode.mk (3 : Int) ([] : List UInt8) ([] : List (List UInt8)) ([] : List TField) ([] : List (List UInt8)) false ([] : List UInt8) (0 : Int) ([] : List Int) (0 : Int))] : List TNode)))]))) rfl rfl (by exact ⟨⟨rfl, Nat.le_of_ble_eq_true rfl⟩, trivial⟩) rfl rfl ?_
  obtain ⟨r11, e11, h⟩ := bind_some h
  refine RegV.call0 (F249 hmix hc.2 e11) rfl rfl rfl rfl (.cons (.refl _) (.cons (.refl _) .nil)) rfl ?_
  refine RegV.p0 rfl rfl rfl ?_
  refine RegV.p0 rfl rfl rfl ?_
  refine RegV.p0 rfl rfl rfl ?_
  refine RegV.evS (own := false) (v := (.ptr 0 0)) (H' := [(0, (.cells [(.d (.int .i64 (0 : Int))), (.d (.int .i64 (0 : Int))), .nils, .nils, .nils]))]) (c' := 1) rfl rfl trivial rfl rfl rfl rfl rfl rfl ?_
  refine RegV.evN (own := false) (H' := [(0, (.cells [(.d (.int .i64 r11.2.1)), (.d (.int .i64 r11.2.2.1)), (.d (.sl (List.map byteD r11.2.2.2.1))), (.d (.sl (List.map (rtE (z := 5)) r11.2.2.2.2))), (.d (.sl (List.map D.str ([] : List (List UInt8)))))]))]) (c' := 1) rfl rfl (by exact ⟨rfl, Nat.le_of_ble_eq_true rfl, rfl⟩) rfl rfl rfl rfl ?_
  refine RegV.p0 rfl rfl rfl ?_
  refine RegV.nil0 ?_
  refine AWc.seq ?_
  refine AWc.rg hmix rfl rfl ?_
  refine RegV.p0 rfl rfl rfl ?_
  refine RegV.p0 rfl rfl rfl ?_
  refine RegV.split (fun c22 => ?_) (fun c22 => ?_)
  · have h := cond_pos c22 h
    refine RegV.p0 (v := (.ptr 0 0)) rfl rfl rfl ?_
    refine RegV.ld (v := (.d (.int .i64 r11.2.1))) (H' := [(0, (.cells [(.d (.int .i64 r11.2.1)), (.d (.int .i64 r11.2.2.1)), (.d (.sl (List.map byteD r11.2.2.2.1))), (.d (.sl (List.map (rtE (z := 5)) r11.2.2.2.2))), (.d (.sl (List.map D.str ([] : List (List UInt8)))))]))]) rfl rfl trivial rfl rfl rfl rfl rfl ?_
    refine RegV.p0 (v := (.d (.bool (decide (r11.2.1 = (3 : Int)))))) rfl rfl rfl ?_
    refine RegV.p0 rfl rfl rfl ?_
    refine RegV.p0 rfl rfl rfl ?_
    refine RegV.nil0 ?_
    have hr := Option.some.inj h
    subst hr
    exact AWc.ret (canQ (N := 16) (k := 0) (l' := [(0, (.d (.bool (decide (r11.2.1 = (3 : Int))))))]) (H' := []) rfl ⟨rfl, [], [], rfl, rfl, ⟨⟨_, rfl, (.refl _)⟩, rfl, trivial⟩,  trivial⟩ (doneA (.inr rfl) rfl ⟨trivial, trivial⟩ (.refl _) hasNil))
  · have h := cond_neg c22 h
    refine RegV.noS rfl rfl ?_
    refine RegV.noS rfl rfl ?_
    refine RegV.noS rfl rfl ?_
    refine RegV.p0 rfl rfl rfl ?_
    refine RegV.p0 rfl rfl rfl ?_
    refine RegV.nil0 ?_
    have hr := Option.some.inj h
    subst hr
    exact AWc.ret (canQ (N := 16) (k := 0) (l' := [(0, (.d (.bool false)))]) (H' := []) rfl ⟨rfl, [], [], rfl, rfl, ⟨⟨_, rfl, (.refl _)⟩, rfl, trivial⟩,  trivial⟩ (doneA (.inr rfl) rfl ⟨trivial, trivial⟩ (.refl _) hasNil))
/-- courant/live.Nodes -/
def C307 (N : Nat → Nat) : AFunc := { n := 20, params := 1, res := [.tmp 2], body :=
 (.seq (.region false [⟨(some 1), .box (.t 0), none, []⟩,
   ⟨(some 2), .mv (.k .nils), none, []⟩])
  (.seq (.region false [⟨(some 3), .mv (.k .nils), none, []⟩])
   (.seq (.seq (.region false [⟨(some 6), .load (.t 1) 1 true, none, []⟩,
      ⟨(some 7), .call (.k (.d (.fn (N 250)))) [(.t 6)], none, [0]⟩,
      ⟨(some 8), .len (.t 7), none, [1]⟩,
      ⟨(some 9), .mv (.k (.d (.int .i64 0))), none, []⟩])
     (.block 0 (.loop (.seq (.region false [⟨(some 10), .bin .lss (.t 9) (.t 8), none, []⟩])
        (.seq (.cond (.t 10) (.skip)
          (.exit 0))
         (.seq (.block 1 (.seq (.region false [⟨(some 11), .iaddr (.t 7) (.t 9) 1, none, []⟩,
             ⟨(some 12), .load (.t 11) 1 false, none, [0]⟩,
             ⟨(some 5), .mv (.t 12), none, [1, 0]⟩])
            (.region false [⟨(some 13), .mv (.t 3), none, []⟩,
             ⟨(some 14), .mv (.t 5), none, []⟩,
             ⟨(some 15), .bin .neq (.t 14) (.k (.d (.int .i64 (-1)))), none, [1]⟩,
             ⟨(some 16), .bslice 1 1 [(.bool false)] [(0, (.t 15))], none, [2]⟩,
             ⟨(some 17), .app (.t 13) (.t 16) 1 1 [(.bool false)], none, [0, 3]⟩,
             ⟨(some 3), .mv (.t 17), none, [4, 0, 1, 2, 3]⟩])))
          (.region false [⟨(some 18), .bin .add (.t 9) (.k (.d (.int .i64 1))), none, []⟩,
           ⟨(some 9), .mv (.t 18), none, [0]⟩])))))))
    (.seq (.region false [⟨(some 19), .mv (.t 3), none, []⟩,
      ⟨(some 2), .mv (.t 19), none, [0]⟩])
     .ret)))) }
def HC307 (P : Program) (N : Nat → Nat) : Prop := HasF P (N 307) (C307 N) ∧ HC250 P N
def f307_l18 (r15 : (List Int)) : Nat → (List Bool) → Int → Option (LR2 (List Bool) Unit (List Bool))
  | 0, _, _ => none
  | k + 1, y18_1, y18_2 => cond (decide (y18_2 < ((r15.length : Nat) : Int))) (gd (0 ≤ y18_2 ∧ y18_2 < ((r15.length : Nat) : Int)) (gd ((y18_1.length + ([(decide ((rd r15 y18_2) ≠ (-1 : Int)))] : List Bool).length) * 2 * 1 ≤ 281474976710656) (f307_l18 r15 k (y18_1 ++ ([(decide ((rd r15 y18_2) ≠ (-1 : Int)))] : List Bool)) (IntKind.i64.wrap (y18_2 + (1 : Int)))))) (some (.b0 y18_1))
def f307 (k : Nat) (a0 : TSchema) : Option (List Bool) := (f250 k (TSchema.mk a0.fNodes)).bind fun r15 => (f307_l18 r15 k ([] : List Bool) (0 : Int)).bind fun o18 => match o18 with | .b0 x18_1 => some x18_1 | _ => none
theorem F307 {P : Program} {N : Nat → Nat} (hmix : P.follows .mixedOrders = true) (hc : HC307 P N) {k : Nat} {a0 : TSchema} {r : (List Bool)} (h : f307 k a0 = some r) :
    ACalls P (N 307) [(.d (TSchema.enc a0))] [] (.ap 0 1 (List.map D.bool r)) [(0, (.tok ((List.map D.bool r).length * 1)))] := by
  refine acalls_canon (F := C307 N) hc.1 0 1 rfl ?_
  unfold f307 at h
  dsimp only [C307, startL]
  refine AWc.seq ?_
  refine AWc.rg hmix rfl rfl ?_
  refine RegV.evS (own := false) (v := (.ptr 0 0)) (H' := [(0, (.cells [(.d (.sl (List.map TNode.enc a0.fNodes)))]))]) (c' := 1) rfl rfl trivial rfl rfl rfl rfl rfl rfl ?_
  refine RegV.p0 rfl rfl rfl ?_
  refine RegV.nil0 ?_
  refine AWc.seq ?_
  refine AWc.rg hmix rfl rfl ?_
  refine RegV.p0 rfl rfl rfl ?_
  refine RegV.nil0 ?_
  refine AWc.seq ?_
  refine AWc.seq ?_
  refine AWc.rg hmix rfl rfl ?_
  refine RegV.ld (v := (.d (.agg [(.sl (List.map TNode.enc a0.fNodes))]))) (H' := [(0, (.cells [(.d (.sl (List.map TNode.enc a0.fNodes)))]))]) rfl rfl (Nat.le_of_ble_eq_true rfl) rfl rfl rfl rfl rfl ?_
  obtain ⟨r15, e15, h⟩ := bind_some h
  refine RegV.call0 (F250 hmix hc.2 e15) rfl rfl rfl rfl (.cons (.refl _) .nil) rfl ?_
  refine RegV.len (xs := r15) (e := (D.int .i64)) rfl rfl rfl rfl ?_
  refine RegV.p0 rfl rfl rfl ?_
  refine RegV.nil0 ?_
  obtain ⟨o18, h18, h⟩ := bind_some h
  refine AWc.block ?_
  refine AWc.loopK (N := 20) 1 (fun (x : ((List Bool) × Int)) => [(3, (.ap 0 1 (List.map D.bool x.1))), (7, (.d (.sl (List.map (D.int .i64) r15)))), (8, (.d (.int .i64 ((r15.length : Nat) : Int)))), (9, (.d (.int .i64 x.2)))]) (fun x => [(0, (.tok ((List.map D.bool x.1).length * 1)))]) (fun k x => f307_l18 r15 k x.1 x.2 = some o18) k (([] : List Bool), (0 : Int)) rfl_le (fun x hx => by cases hx) h18 ⟨rfl, [.tok 0], [(0, 1)], rfl, rfl, ⟨⟨_, rfl, .nil⟩, rfl, ⟨⟨_, rfl, (.refl _)⟩, rfl, ⟨⟨_, rfl, (.refl _)⟩, rfl, ⟨⟨_, rfl, (.refl _)⟩, rfl, trivial⟩⟩⟩⟩, ⟨⟨_, rfl, (.refl _)⟩, rfl, rfl, trivial⟩⟩ ?_
  clear h18
  intro k
  rintro ⟨y18_1, y18_2⟩ h18
  dsimp only at h18 ⊢
  rw [f307_l18] at h18
  refine AWc.seq ?_
  refine AWc.rg hmix rfl rfl ?_
  refine RegV.p0 (v := (.d (.bool (decide (y18_2 < ((r15.length : Nat) : Int)))))) rfl rfl rfl ?_
  refine RegV.nil0 ?_
  refine AWc.seq ?_
  refine AWc.cond rfl (fun c25 => ?_) (fun c25 => ?_)
  · have h18 := cond_pos c25 h18
    refine AWc.skip ?_
    refine AWc.seq ?_
    refine AWc.block ?_
    refine AWc.seq ?_
    refine AWc.rg hmix rfl rfl ?_
    obtain ⟨b33, h18⟩ := gd_some h18
    refine RegV.iad (xs := r15) (e := (D.int .i64)) rfl rfl rfl rfl (fun _ => rfl) b33 rfl ?_
    refine RegV.p0 (v := (.d (.int .i64 (rd r15 y18_2)))) rfl rfl rfl ?_
    refine RegV.p0 rfl rfl rfl ?_
    refine RegV.nil0 ?_
    refine AWc.rg hmix rfl rfl ?_
    refine RegV.p0 rfl rfl rfl ?_
    refine RegV.p0 rfl rfl rfl ?_
    refine RegV.p0 (v := (.d (.bool (decide ((rd r15 y18_2) ≠ (-1 : Int)))))) rfl rfl rfl ?_
    refine RegV.p1 (v := (.d (.sl (List.map D.bool ([(decide ((rd r15 y18_2) ≠ (-1 : Int)))] : List Bool))))) rfl rfl (by exact ⟨rfl, Nat.le_of_ble_eq_true rfl, mapLen (e := D.bool) (xs := ([(decide ((rd r15 y18_2) ≠ (-1 : Int)))] : List Bool)) (z := 1) (fun _ => rfl)⟩) rfl rfl ?_
    obtain ⟨b42, h18⟩ := gd_some h18
    refine RegV.appA (xs := y18_1) (ys := ([(decide ((rd r15 y18_2) ≠ (-1 : Int)))] : List Bool)) (e := D.bool) (H1 := []) rfl rfl rfl rfl (fun _ => rfl) rfl rfl b42 rfl rfl rfl ?_
    refine RegV.p0 rfl rfl rfl ?_
    refine RegV.nil0 ?_
    refine AWc.rg hmix rfl rfl ?_
    refine RegV.p0 (v := (.d (.int .i64 (IntKind.i64.wrap (y18_2 + (1 : Int)))))) rfl rfl rfl ?_
    refine RegV.p0 rfl rfl rfl ?_
    refine RegV.nil0 ?_
    exact ⟨((y18_1 ++ ([(decide ((rd r15 y18_2) ≠ (-1 : Int)))] : List Bool)), (IntKind.i64.wrap (y18_2 + (1 : Int)))), h18, ⟨rfl, [], [(0, 1)], rfl, rfl, ⟨⟨_, rfl, (.refl _)⟩, rfl, ⟨⟨_, rfl, (.refl _)⟩, rfl, ⟨⟨_, rfl, (.refl _)⟩, rfl, ⟨⟨_, rfl, (.refl _)⟩, rfl, trivial⟩⟩⟩⟩, ⟨⟨_, rfl, (.refl _)⟩, rfl, rfl, trivial⟩⟩⟩
  · have h18 := cond_neg c25 h18
    cases h18
    dsimp only at h
    refine AWc.exit ?_
    refine inBlk_eq ?_
    refine AWc.seq ?_
    refine AWc.rg hmix rfl rfl ?_
    refine RegV.p0 rfl rfl rfl ?_
    refine RegV.p0 rfl rfl rfl ?_
    refine RegV.nil0 ?_
    have hr := Option.some.inj h
    subst hr
    exact AWc.ret (canQ (N := 20) (k := 1) (l' := [(2, (.ap 0 1 (List.map D.bool y18_1)))]) (H' := [(0, (.tok ((List.map D.bool y18_1).length * 1)))]) rfl ⟨rfl, [], [], rfl, rfl, ⟨⟨_, rfl, (.refl _)⟩, rfl, trivial⟩, ⟨⟨_, rfl, (.refl _)⟩, rfl, rfl, trivial⟩⟩ (doneA (.inr rfl) rfl ⟨trivial, trivial⟩ (.refl _) (hasCons rfl hasNil)))
/-- courant/courantref11.of -/
def C311 (N : Nat → Nat) : AFunc := { n := 17, params := 2, res := [.tmp 4], body :=
 (.seq (.region false [⟨(some 4), .mv (.k (.d (.int .i64 0))), none, []⟩])
  (.seq (.seq (.region false [⟨(some 5), .mv (.t 1), none, []⟩,
     ⟨(some 6), .bin .lss (.t 5) (.k (.d (.int .i64 0))), none, [0]⟩,
     ⟨(some 7), .mv (.t 6), none, [1]⟩,
     ⟨(some 8), .mv (.t 1), (some (7, false)), [2]⟩,
     ⟨(some 9), .mv (.t 0), (some (7, false)), [2]⟩,
     ⟨(some 10), .len (.t 9), (some (7, false)), [4, 2]⟩,
     ⟨(some 11), .bin .geq (.t 8) (.t 10), (some (7, false)), [3, 5, 2]⟩,
     ⟨(some 12), .pick (.t 7) (.k (.d (.bool true))) (.t 11), none, [2, 6]⟩])
    (.cond (.t 12) (.seq (.region false [⟨(some 4), .mv (.k (.d (.int .i64 (-1)))), none, []⟩])
      .ret)
     (.skip)))
   (.seq (.region false [⟨(some 13), .mv (.t 0), none, []⟩,
     ⟨(some 14), .mv (.t 1), none, []⟩,
     ⟨(some 15), .iaddr (.t 13) (.t 14) 1, none, [0, 1]⟩,
     ⟨(some 16), .load (.t 15) 1 false, none, [2]⟩,
     ⟨(some 4), .mv (.t 16), none, [3, 0, 1, 2]⟩])
    .ret))) }
def HC311 (P : Program) (N : Nat → Nat) : Prop := HasF P (N 311) (C311 N)
def f311 (k : Nat) (a0 : (List Int)) (a1 : Int) : Option Int := cond (decide (a1 < (0 : Int))) (some (-1 : Int)) (cond (decide (a1 ≥ ((a0.length : Nat) : Int))) (some (-1 : Int)) (gd (0 ≤ a1 ∧ a1 < ((a0.length : Nat) : Int)) (some (rd a0 a1))))
theorem F311 {P : Program} {N : Nat → Nat} (hmix : P.follows .mixedOrders = true) (hc : HC311 P N) {k : Nat} {a0 : (List Int)} {a1 : Int} {r : Int} (h : f311 k a0 a1 = some r) :
    ACalls P (N 311) [(.d (.sl (List.map (D.int .i64) a0))), (.d (.int .i64 a1))] [] (.d (.int .i64 r)) [] := by
  refine acalls_canon (F := C311 N) hc 0 0 rfl ?_
  unfold f311 at h
  dsimp only [C311, startL]
  refine AWc.seq ?_
  refine AWc.rg hmix rfl rfl ?_
  refine RegV.p0 rfl rfl rfl ?_
  refine RegV.nil0 ?_
  refine AWc.seq ?_
  refine AWc.seq ?_
  refine AWc.rg hmix rfl rfl ?_
  refine RegV.p0 rfl rfl rfl ?_
  refine RegV.p0 (v := (.d (.bool (decide (a1 < (0 : Int)))))) rfl rfl rfl ?_
  refine RegV.p0 rfl rfl rfl ?_
  refine RegV.split (fun c11 => ?_) (fun c11 => ?_)
  · have h := cond_pos c11 h
    refine RegV.noS rfl rfl ?_
    refine RegV.noS rfl rfl ?_
    refine RegV.noS rfl rfl ?_
    refine RegV.noS rfl rfl ?_
    refine RegV.p0 rfl rfl rfl ?_
    refine RegV.nil0 ?_
    refine AWc.cond rfl (fun _ => ?_) (fun hc => by cases hc)
    refine AWc.seq ?_
    refine AWc.rg hmix rfl rfl ?_
    refine RegV.p0 rfl rfl rfl ?_
    refine RegV.nil0 ?_
    have hr := Option.some.inj h
    subst hr
    exact AWc.ret (canQ (N := 17) (k := 0) (l' := [(4, (.d (.int .i64 (-1 : Int))))]) (H' := []) rfl ⟨rfl, [], [], rfl, rfl, ⟨⟨_, rfl, (.refl _)⟩, rfl, trivial⟩,  trivial⟩ (doneA (.inr rfl) rfl ⟨trivial, trivial⟩ (.refl _) hasNil))
  · have h := cond_neg c11 h
    refine RegV.p0 rfl rfl rfl ?_
    refine RegV.p0 rfl rfl rfl ?_
    refine RegV.len (xs := a0) (e := (D.int .i64)) rfl rfl rfl rfl ?_
    refine RegV.p0 (v := (.d (.bool (decide (a1 ≥ ((a0.length : Nat) : Int)))))) rfl rfl rfl ?_
    refine RegV.p0 rfl rfl rfl ?_
    refine RegV.nil0 ?_
    refine AWc.cond rfl (fun c17 => ?_) (fun c17 => ?_)
    · have h := cond_pos c17 h
      refine AWc.seq ?_
      refine AWc.rg hmix rfl rfl ?_
      refine RegV.p0 rfl rfl rfl ?_
      refine RegV.nil0 ?_
      have hr := Option.some.inj h
      subst hr
      exact AWc.ret (canQ (N := 17) (k := 0) (l' := [(4, (.d (.int .i64 (-1 : Int))))]) (H' := []) rfl ⟨rfl, [], [], rfl, rfl, ⟨⟨_, rfl, (.refl _)⟩, rfl, trivial⟩,  trivial⟩ (doneA (.inr rfl) rfl ⟨trivial, trivial⟩ (.refl _) hasNil))
    · have h := cond_neg c17 h
      refine AWc.skip ?_
      refine AWc.seq ?_
      refine AWc.rg hmix rfl rfl ?_
      refine RegV.p0 rfl rfl rfl ?_
      refine RegV.p0 rfl rfl rfl ?_
      obtain ⟨b29, h⟩ := gd_some h
      refine RegV.iad (xs := a0) (e := (D.int .i64)) rfl rfl rfl rfl (fun _ => rfl) b29 rfl ?_
      refine RegV.p0 (v := (.d (.int .i64 (rd a0 a1)))) rfl rfl rfl ?_
      refine RegV.p0 rfl rfl rfl ?_
      refine RegV.nil0 ?_
      have hr := Option.some.inj h
      subst hr
      exact AWc.ret (canQ (N := 17) (k := 0) (l' := [(4, (.d (.int .i64 (rd a0 a1))))]) (H' := []) rfl ⟨rfl, [], [], rfl, rfl, ⟨⟨_, rfl, (.refl _)⟩, rfl, trivial⟩,  trivial⟩ (doneA (.inr rfl) rfl ⟨trivial, trivial⟩ (.refl _) hasNil))
end Go.Proofs.Abs
