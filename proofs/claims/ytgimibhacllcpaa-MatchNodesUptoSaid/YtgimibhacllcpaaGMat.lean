/- Written by gen.py: functions of the program as Lean functions, and that the code comes to them. -/
import Derived.Test.YtgimibhacllcpaaAbs41
set_option linter.unusedVariables false
set_option linter.unusedSimpArgs false
set_option maxRecDepth 100000
set_option maxHeartbeats 4000000
namespace Go.Proofs.Abs
open Go
structure TField where
  fName : (List UInt8)
  fAliases : (List (List UInt8))
  fType : Int
  fHas : Bool
  fDefault : (List UInt8)
instance : Inhabited TField := ⟨⟨default, default, default, default, default⟩⟩
instance : DecidableEq TField := fun a b => decidable_of_iff (a.fName = b.fName ∧ a.fAliases = b.fAliases ∧ a.fType = b.fType ∧ a.fHas = b.fHas ∧ a.fDefault = b.fDefault ∧ True) ⟨fun h => by cases a; cases b; simp_all, fun h => by subst h; simp⟩
def TField.enc (x : TField) : D := .agg [.str x.fName, .sl (List.map D.str x.fAliases), .int .i64 x.fType, .bool x.fHas, .str x.fDefault]
theorem TField.ok : EncOK TField.enc 5 true := ⟨fun _ => rfl, fun _ c hc => by simp only [TField.enc, D.cells, List.mem_cons, List.not_mem_nil, or_false] at hc; rcases hc with rfl | rfl | rfl | rfl | rfl <;> rfl, fun _ => rfl⟩
def TField.wf (x : TField) : Prop := True ∧ (∀ e0 ∈ x.fAliases, True) ∧ (-9223372036854775808 ≤ x.fType ∧ x.fType ≤ 9223372036854775807) ∧ True ∧ True ∧ True
def TField.sz (x : TField) : Nat := ((x.fName.length + 1) + (((x.fAliases.map (fun x => (x.length + 1))).sum + 1) + (1 + (1 + ((x.fDefault.length + 1) + 0))))) + 1
structure TNode where
  fKind : Int
  fName : (List UInt8)
  fAliases : (List (List UInt8))
  fFields : (List TField)
  fSymbols : (List (List UInt8))
  fHas : Bool
  fDefault : (List UInt8)
  fItems : Int
  fBranches : (List Int)
  fSize : Int
instance : Inhabited TNode := ⟨⟨default, default, default, default, default, default, default, default, default, default⟩⟩
instance : DecidableEq TNode := fun a b => decidable_of_iff (a.fKind = b.fKind ∧ a.fName = b.fName ∧ a.fAliases = b.fAliases ∧ a.fFields = b.fFields ∧ a.fSymbols = b.fSymbols ∧ a.fHas = b.fHas ∧ a.fDefault = b.fDefault ∧ a.fItems = b.fItems ∧ a.fBranches = b.fBranches ∧ a.fSize = b.fSize ∧ True) ⟨fun h => by cases a; cases b; simp_all, fun h => by subst h; simp⟩
def TNode.enc (x : TNode) : D := .agg [.int .i64 x.fKind, .str x.fName, .sl (List.map D.str x.fAliases), .sl (List.map TField.enc x.fFields), .sl (List.map D.str x.fSymbols), .bool x.fHas, .str x.fDefault, .int .i64 x.fItems, .sl (List.map (D.int .i64) x.fBranches), .int .i64 x.fSize]
theorem TNode.ok : EncOK TNode.enc 10 true := ⟨fun _ => rfl, fun _ c hc => by simp only [TNode.enc, D.cells, List.mem_cons, List.not_mem_nil, or_false] at hc; rcases hc with rfl | rfl | rfl | rfl | rfl | rfl | rfl | rfl | rfl | rfl <;> rfl, fun _ => rfl⟩
def TNode.wf (x : TNode) : Prop := (-9223372036854775808 ≤ x.fKind ∧ x.fKind ≤ 9223372036854775807) ∧ True ∧ (∀ e0 ∈ x.fAliases, True) ∧ (∀ e0 ∈ x.fFields, TField.wf e0) ∧ (∀ e0 ∈ x.fSymbols, True) ∧ True ∧ True ∧ (-9223372036854775808 ≤ x.fItems ∧ x.fItems ≤ 9223372036854775807) ∧ (∀ e0 ∈ x.fBranches, (-9223372036854775808 ≤ e0 ∧ e0 ≤ 9223372036854775807)) ∧ (-9223372036854775808 ≤ x.fSize ∧ x.fSize ≤ 9223372036854775807) ∧ True
def TNode.sz (x : TNode) : Nat := (1 + ((x.fName.length + 1) + (((x.fAliases.map (fun x => (x.length + 1))).sum + 1) + (((x.fFields.map TField.sz).sum + 1) + (((x.fSymbols.map (fun x => (x.length + 1))).sum + 1) + (1 + ((x.fDefault.length + 1) + (1 + (((x.fBranches.map (fun _ => 1)).sum + 1) + (1 + 0)))))))))) + 1
structure TSchema where
  fNodes : (List TNode)
instance : Inhabited TSchema := ⟨⟨default⟩⟩
instance : DecidableEq TSchema := fun a b => decidable_of_iff (a.fNodes = b.fNodes ∧ True) ⟨fun h => by cases a; cases b; simp_all, fun h => by subst h; simp⟩
def TSchema.enc (x : TSchema) : D := .agg [.sl (List.map TNode.enc x.fNodes)]
theorem TSchema.ok : EncOK TSchema.enc 1 true := ⟨fun _ => rfl, fun _ c hc => by simp only [TSchema.enc, D.cells, List.mem_cons, List.not_mem_nil, or_false] at hc; rcases hc with rfl <;> rfl, fun _ => rfl⟩
def TSchema.wf (x : TSchema) : Prop := (∀ e0 ∈ x.fNodes, TNode.wf e0) ∧ True
def TSchema.sz (x : TSchema) : Nat := (((x.fNodes.map TNode.sz).sum + 1) + 0) + 1
/-- courant/courantlaw09.few -/
def C229 (N : Nat → Nat) : AFunc := { n := 50, params := 1, res := [.tmp 2], body :=
 (.seq (.region false [⟨(some 1), .box (.t 0), none, []⟩,
   ⟨(some 2), .mv (.k (.d (.bool false))), none, []⟩])
  (.seq (.region false [⟨(some 3), .mv (.k (.d (.int .i64 0))), none, []⟩])
   (.seq (.seq (.region false [⟨(some 4), .mv (.k (.d (.int .i64 0))), none, []⟩])
     (.block 0 (.loop (.seq (.seq (.region false [⟨(some 5), .mv (.t 4), none, []⟩,
          ⟨(some 6), .faddr (.t 1) 0, none, []⟩,
          ⟨(some 7), .load (.t 6) 1 false, none, [1]⟩,
          ⟨(some 8), .len (.t 7), none, [2]⟩,
          ⟨(some 9), .bin .lss (.t 5) (.t 8), none, [0, 3]⟩,
          ⟨(some 10), .mv (.t 9), none, [4]⟩,
          ⟨(some 11), .mv (.t 4), (some (10, true)), [5]⟩,
          ⟨(some 12), .bin .lss (.t 11) (.k (.d (.int .i64 50))), (some (10, true)), [6, 5]⟩,
          ⟨(some 13), .pick (.t 10) (.t 12) (.k (.d (.bool false))), none, [5, 7]⟩])
         (.cond (.t 13) (.skip)
          (.exit 0)))
        (.seq (.block 1 (.region true [⟨(some 16), .mv (.t 3), none, []⟩,
           ⟨(some 17), .bin .add (.t 16) (.k (.d (.int .i64 1))), none, [0]⟩,
           ⟨(some 18), .faddr (.t 1) 0, none, []⟩,
           ⟨(some 19), .load (.t 18) 1 false, none, [2]⟩,
           ⟨(some 20), .mv (.t 4), none, []⟩,
           ⟨(some 21), .iaddr (.t 19) (.t 20) 10, none, [3, 4]⟩,
           ⟨(some 22), .faddr (.t 21) 3, none, [5]⟩,
           ⟨(some 23), .load (.t 22) 1 false, none, [6]⟩,
           ⟨(some 24), .len (.t 23), none, [7]⟩,
           ⟨(some 25), .bin .add (.t 17) (.t 24), none, [1, 8]⟩,
           ⟨(some 26), .faddr (.t 1) 0, none, []⟩,
           ⟨(some 27), .load (.t 26) 1 false, none, [10]⟩,
           ⟨(some 28), .mv (.t 4), none, []⟩,
           ⟨(some 29), .iaddr (.t 27) (.t 28) 10, none, [11, 12]⟩,
           ⟨(some 30), .faddr (.t 29) 8, none, [13]⟩,
           ⟨(some 31), .load (.t 30) 1 false, none, [14]⟩,
           ⟨(some 32), .len (.t 31), none, [15]⟩,
           ⟨(some 33), .bin .add (.t 25) (.t 32), none, [9, 16]⟩,
           ⟨(some 34), .faddr (.t 1) 0, none, []⟩,
           ⟨(some 35), .load (.t 34) 1 false, none, [18]⟩,
           ⟨(some 36), .mv (.t 4), none, []⟩,
           ⟨(some 37), .iaddr (.t 35) (.t 36) 10, none, [19, 20]⟩,
           ⟨(some 38), .faddr (.t 37) 2, none, [21]⟩,
           ⟨(some 39), .load (.t 38) 1 false, none, [22]⟩,
           ⟨(some 40), .len (.t 39), none, [23]⟩,
           ⟨(some 41), .bin .add (.t 33) (.t 40), none, [17, 24]⟩,
           ⟨(some 3), .mv (.t 41), none, [25, 0, 1, 2, 3, 4, 5, 6, 7, 8, 9, 10, 11, 12, 13, 14, 15, 16, 17, 18, 19, 20, 21, 22, 23, 24]⟩]))
         (.region false [⟨(some 14), .mv (.t 4), none, []⟩,
          ⟨(some 15), .bin .add (.t 14) (.k (.d (.int .i64 1))), none, [0]⟩,
          ⟨(some 4), .mv (.t 15), none, [1, 0]⟩]))))))
    (.seq (.region false [⟨(some 42), .faddr (.t 1) 0, none, []⟩,
      ⟨(some 43), .load (.t 42) 1 false, none, [0]⟩,
      ⟨(some 44), .len (.t 43), none, [1]⟩,
      ⟨(some 45), .bin .leq (.t 44) (.k (.d (.int .i64 50))), none, [2]⟩,
      ⟨(some 46), .mv (.t 45), none, [3]⟩,
      ⟨(some 47), .mv (.t 3), (some (46, true)), [4]⟩,
      ⟨(some 48), .bin .lss (.t 47) (.k (.d (.int .i64 100))), (some (46, true)), [5, 4]⟩,
      ⟨(some 49), .pick (.t 46) (.t 48) (.k (.d (.bool false))), none, [4, 6]⟩,
      ⟨(some 2), .mv (.t 49), none, [7, 4, 0, 1, 2, 3, 5, 6]⟩])
     .ret)))) }
def HC229 (P : Program) (N : Nat → Nat) : Prop := HasF P (N 229) (C229 N)
def f229_j69 (k : Nat) (a0 : TSchema) (j69_1 : Int) : Option Bool := cond (decide (((a0.fNodes.length : Nat) : Int) ≤ (50 : Int))) (some (decide (j69_1 < (100 : Int)))) (some false)
def f229_l15 (a0 : TSchema) : Nat → Int → Int → Option (LR2 Int Unit Bool)
  | 0, _, _ => none
  | k + 1, y15_1, y15_2 => cond (decide (y15_2 < ((a0.fNodes.length : Nat) : Int))) (cond (decide (y15_2 < (50 : Int))) (gd (0 ≤ y15_2 ∧ y15_2 < ((a0.fNodes.length : Nat) : Int)) (gd (0 ≤ y15_2 ∧ y15_2 < ((a0.fNodes.length : Nat) : Int)) (gd (0 ≤ y15_2 ∧ y15_2 < ((a0.fNodes.length : Nat) : Int)) (f229_l15 a0 k (IntKind.i64.wrap ((IntKind.i64.wrap ((IntKind.i64.wrap ((IntKind.i64.wrap (y15_1 + (1 : Int))) + ((((rd a0.fNodes y15_2).fFields).length : Nat) : Int))) + ((((rd a0.fNodes y15_2).fBranches).length : Nat) : Int))) + ((((rd a0.fNodes y15_2).fAliases).length : Nat) : Int))) (IntKind.i64.wrap (y15_2 + (1 : Int))))))) (some (.b0 y15_1))) (some (.b0 y15_1))
def f229 (k : Nat) (a0 : TSchema) : Option Bool := (f229_l15 a0 k (0 : Int) (0 : Int)).bind fun o15 => match o15 with | .b0 x15_1 => f229_j69 k a0 x15_1 | _ => none
theorem F229 {P : Program} {N : Nat → Nat} (hmix : P.follows .mixedOrders = true) (hc : HC229 P N) {k : Nat} {a0 : TSchema} {r : Bool} (h : f229 k a0 = some r) :
    ACalls P (N 229) [(.d (TSchema.enc a0))] [] (.d (.bool r)) [] := by
  refine acalls_canon (F := C229 N) hc 0 0 rfl ?_
  unfold f229 at h
  dsimp only [C229, startL]
  refine AWc.seq ?_
  refine AWc.rg hmix rfl rfl ?_
  refine RegV.evS (own := false) (v := (.ptr 0 0)) (H' := [(0, (.cells [(.d (.sl (List.map TNode.enc a0.fNodes)))]))]) (c' := 1) rfl rfl trivial rfl rfl rfl rfl rfl rfl ?_
  refine RegV.p0 rfl rfl rfl ?_
  refine RegV.nil0 ?_
  refine AWc.seq ?_
  refine AWc.rg hmix rfl rfl ?_
  refine RegV.p0 rfl rfl rfl ?_
  refine RegV.nil0 ?_
  refine AWc.seqS (N := 50) 1 (fun (z : Int) => [(1, (.ptr 0 0)), (3, (.d (.int .i64 z)))]) (fun z => [(0, (.cells [(.d (.sl (List.map TNode.enc a0.fNodes)))]))]) (fun z => f229_j69 k a0 z = some r) rfl_le ?_ ?_
  · refine AWc.seq ?_
    refine AWc.rg hmix rfl rfl ?_
    refine RegV.p0 rfl rfl rfl ?_
    refine RegV.nil0 ?_
    obtain ⟨o15, h15, h⟩ := bind_some h
    refine AWc.block ?_
    refine AWc.loopK (N := 50) 1 (fun (x : (Int × Int)) => [(1, (.ptr 0 0)), (3, (.d (.int .i64 x.1))), (4, (.d (.int .i64 x.2)))]) (fun x => [(0, (.cells [(.d (.sl (List.map TNode.enc a0.fNodes)))]))]) (fun k x => f229_l15 a0 k x.1 x.2 = some o15) k ((0 : Int), (0 : Int)) rfl_le (fun x hx => by cases hx) h15 ⟨rfl, [], [], rfl, rfl, ⟨⟨_, rfl, (.refl _)⟩, rfl, ⟨⟨_, rfl, (.refl _)⟩, rfl, ⟨⟨_, rfl, (.refl _)⟩, rfl, trivial⟩⟩⟩, ⟨⟨_, rfl, (.refl _)⟩, rfl, rfl, trivial⟩⟩ ?_
    clear h15
    intro k
    rintro ⟨y15_1, y15_2⟩ h15
    dsimp only at h15 ⊢
    rw [f229_l15] at h15
    refine AWc.seq ?_
    refine AWc.seq ?_
    refine AWc.rg hmix rfl rfl ?_
    refine RegV.p0 rfl rfl rfl ?_
    refine RegV.p0 (v := (.ptr 0 0)) rfl rfl rfl ?_
    refine RegV.ld (v := (.d (.sl (List.map TNode.enc a0.fNodes)))) (H' := [(0, (.cells [(.d (.sl (List.map TNode.enc a0.fNodes)))]))]) rfl rfl trivial rfl rfl rfl rfl rfl ?_
    refine RegV.len (xs := a0.fNodes) (e := TNode.enc) rfl rfl rfl rfl ?_
    refine RegV.p0 (v := (.d (.bool (decide (y15_2 < ((a0.fNodes.length : Nat) : Int)))))) rfl rfl rfl ?_
    refine RegV.p0 rfl rfl rfl ?_
    refine RegV.split (fun c26 => ?_) (fun c26 => ?_)
    · have h15 := cond_pos c26 h15
      refine RegV.p0 rfl rfl rfl ?_
      refine RegV.p0 (v := (.d (.bool (decide (y15_2 < (50 : Int)))))) rfl rfl rfl ?_
      refine RegV.p0 rfl rfl rfl ?_
      refine RegV.nil0 ?_
      refine AWc.cond rfl (fun c30 => ?_) (fun c30 => ?_)
      · have h15 := cond_pos c30 h15
        refine AWc.skip ?_
        refine AWc.seq ?_
        refine AWc.block ?_
        refine AWc.rg hmix rfl rfl ?_
        refine RegV.p0 rfl rfl rfl ?_
        refine RegV.p0 (v := (.d (.int .i64 (IntKind.i64.wrap (y15_1 + (1 : Int)))))) rfl rfl rfl ?_
        refine RegV.p0 (v := (.ptr 0 0)) rfl rfl rfl ?_
        refine RegV.ld (v := (.d (.sl (List.map TNode.enc a0.fNodes)))) (H' := [(0, (.cells [(.d (.sl (List.map TNode.enc a0.fNodes)))]))]) rfl rfl trivial rfl rfl rfl rfl rfl ?_
        refine RegV.p0 rfl rfl rfl ?_
        obtain ⟨b42, h15⟩ := gd_some h15
        refine RegV.iad (xs := a0.fNodes) (e := TNode.enc) rfl rfl rfl rfl (fun _ => rfl) b42 rfl ?_
        refine RegV.p0 (v := (.cp (TNode.enc (rd a0.fNodes y15_2)) 3)) rfl rfl rfl ?_
        refine RegV.p0 (v := (.d (.sl (List.map TField.enc (rd a0.fNodes y15_2).fFields)))) rfl rfl rfl ?_
        refine RegV.len (xs := (rd a0.fNodes y15_2).fFields) (e := TField.enc) rfl rfl rfl rfl ?_
        refine RegV.p0 (v := (.d (.int .i64 (IntKind.i64.wrap ((IntKind.i64.wrap (y15_1 + (1 : Int))) + ((((rd a0.fNodes y15_2).fFields).length : Nat) : Int)))))) rfl rfl rfl ?_
        refine RegV.p0 (v := (.ptr 0 0)) rfl rfl rfl ?_
        refine RegV.ld (v := (.d (.sl (List.map TNode.enc a0.fNodes)))) (H' := [(0, (.cells [(.d (.sl (List.map TNode.enc a0.fNodes)))]))]) rfl rfl trivial rfl rfl rfl rfl rfl ?_
        refine RegV.p0 rfl rfl rfl ?_
        obtain ⟨b50, h15⟩ := gd_some h15
        refine RegV.iad (xs := a0.fNodes) (e := TNode.enc) rfl rfl rfl rfl (fun _ => rfl) b50 rfl ?_
        refine RegV.p0 (v := (.cp (TNode.enc (rd a0.fNodes y15_2)) 8)) rfl rfl rfl ?_
        refine RegV.p0 (v := (.d (.sl (List.map (D.int .i64) (rd a0.fNodes y15_2).fBranches)))) rfl rfl rfl ?_
        refine RegV.len (xs := (rd a0.fNodes y15_2).fBranches) (e := (D.int .i64)) rfl rfl rfl rfl ?_
        refine RegV.p0 (v := (.d (.int .i64 (IntKind.i64.wrap ((IntKind.i64.wrap ((IntKind.i64.wrap (y15_1 + (1 : Int))) + ((((rd a0.fNodes y15_2).fFields).length : Nat) : Int))) + ((((rd a0.fNodes y15_2).fBranches).length : Nat) : Int)))))) rfl rfl rfl ?_
        refine RegV.p0 (v := (.ptr 0 0)) rfl rfl rfl ?_
        refine RegV.ld (v := (.d (.sl (List.map TNode.enc a0.fNodes)))) (H' := [(0, (.cells [(.d (.sl (List.map TNode.enc a0.fNodes)))]))]) rfl rfl trivial rfl rfl rfl rfl rfl ?_
        refine RegV.p0 rfl rfl rfl ?_
        obtain ⟨b58, h15⟩ := gd_some h15
        refine RegV.iad (xs := a0.fNodes) (e := TNode.enc) rfl rfl rfl rfl (fun _ => rfl) b58 rfl ?_
        refine RegV.p0 (v := (.cp (TNode.enc (rd a0.fNodes y15_2)) 2)) rfl rfl rfl ?_
        refine RegV.p0 (v := (.d (.sl (List.map D.str (rd a0.fNodes y15_2).fAliases)))) rfl rfl rfl ?_
        refine RegV.len (xs := (rd a0.fNodes y15_2).fAliases) (e := D.str) rfl rfl rfl rfl ?_
        refine RegV.p0 (v := (.d (.int .i64 (IntKind.i64.wrap ((IntKind.i64.wrap ((IntKind.i64.wrap ((IntKind.i64.wrap (y15_1 + (1 : Int))) + ((((rd a0.fNodes y15_2).fFields).length : Nat) : Int))) + ((((rd a0.fNodes y15_2).fBranches).length : Nat) : Int))) + ((((rd a0.fNodes y15_2).fAliases).length : Nat) : Int)))))) rfl rfl rfl ?_
        refine RegV.p0 rfl rfl rfl ?_
        refine RegV.nil1 (by kernel_rfl) ?_
        refine AWc.rg hmix rfl rfl ?_
        refine RegV.p0 rfl rfl rfl ?_
        refine RegV.p0 (v := (.d (.int .i64 (IntKind.i64.wrap (y15_2 + (1 : Int)))))) rfl rfl rfl ?_
        refine RegV.p0 rfl rfl rfl ?_
        refine RegV.nil0 ?_
        exact ⟨((IntKind.i64.wrap ((IntKind.i64.wrap ((IntKind.i64.wrap ((IntKind.i64.wrap (y15_1 + (1 : Int))) + ((((rd a0.fNodes y15_2).fFields).length : Nat) : Int))) + ((((rd a0.fNodes y15_2).fBranches).length : Nat) : Int))) + ((((rd a0.fNodes y15_2).fAliases).length : Nat) : Int))), (IntKind.i64.wrap (y15_2 + (1 : Int)))), h15, ⟨rfl, [], [], rfl, rfl, ⟨⟨_, rfl, (.refl _)⟩, rfl, ⟨⟨_, rfl, (.refl _)⟩, rfl, ⟨⟨_, rfl, (.refl _)⟩, rfl, trivial⟩⟩⟩, ⟨⟨_, rfl, (.refl _)⟩, rfl, rfl, trivial⟩⟩⟩
      · have h15 := cond_neg c30 h15
        cases h15
        dsimp only at h
        refine AWc.exit ?_
        refine inBlk_eq ?_
        exact ⟨y15_1, h, ⟨rfl, [], [], rfl, rfl, ⟨⟨_, rfl, (.refl _)⟩, rfl, ⟨⟨_, rfl, (.refl _)⟩, rfl, trivial⟩⟩, ⟨⟨_, rfl, (.refl _)⟩, rfl, rfl, trivial⟩⟩⟩
    · have h15 := cond_neg c26 h15
      refine RegV.noS rfl rfl ?_
      refine RegV.noS rfl rfl ?_
      refine RegV.p0 rfl rfl rfl ?_
      refine RegV.nil0 ?_
      refine AWc.cond rfl (fun hc => by cases hc) (fun _ => ?_)
      cases h15
      dsimp only at h
      refine AWc.exit ?_
      refine inBlk_eq ?_
      exact ⟨y15_1, h, ⟨rfl, [], [], rfl, rfl, ⟨⟨_, rfl, (.refl _)⟩, rfl, ⟨⟨_, rfl, (.refl _)⟩, rfl, trivial⟩⟩, ⟨⟨_, rfl, (.refl _)⟩, rfl, rfl, trivial⟩⟩⟩
  · intro j69_1 h
    unfold f229_j69 at h
    refine AWc.seq ?_
    refine AWc.rg hmix rfl rfl ?_
    refine RegV.p0 (v := (.ptr 0 0)) rfl rfl rfl ?_
    refine RegV.ld (v := (.d (.sl (List.map TNode.enc a0.fNodes)))) (H' := [(0, (.cells [(.d (.sl (List.map TNode.enc a0.fNodes)))]))]) rfl rfl trivial rfl rfl rfl rfl rfl ?_
    refine RegV.len (xs := a0.fNodes) (e := TNode.enc) rfl rfl rfl rfl ?_
    refine RegV.p0 (v := (.d (.bool (decide (((a0.fNodes.length : Nat) : Int) ≤ (50 : Int)))))) rfl rfl rfl ?_
    refine RegV.p0 rfl rfl rfl ?_
    refine RegV.split (fun c76 => ?_) (fun c76 => ?_)
    · have h := cond_pos c76 h
      refine RegV.p0 rfl rfl rfl ?_
      refine RegV.p0 (v := (.d (.bool (decide (j69_1 < (100 : Int)))))) rfl rfl rfl ?_
      refine RegV.p0 rfl rfl rfl ?_
      refine RegV.p0 rfl rfl rfl ?_
      refine RegV.nil0 ?_
      have hr := Option.some.inj h
      subst hr
      exact AWc.ret (canQ (N := 50) (k := 0) (l' := [(2, (.d (.bool (decide (j69_1 < (100 : Int))))))]) (H' := []) rfl ⟨rfl, [], [], rfl, rfl, ⟨⟨_, rfl, (.refl _)⟩, rfl, trivial⟩,  trivial⟩ (doneA (.inr rfl) rfl ⟨trivial, trivial⟩ (.refl _) hasNil))
    · have h := cond_neg c76 h
      refine RegV.noS rfl rfl ?_
      refine RegV.noS rfl rfl ?_
      refine RegV.p0 rfl rfl rfl ?_
      refine RegV.p0 rfl rfl rfl ?_
      refine RegV.nil0 ?_
      have hr := Option.some.inj h
      subst hr
      exact AWc.ret (canQ (N := 50) (k := 0) (l' := [(2, (.d (.bool false)))]) (H' := []) rfl ⟨rfl, [], [], rfl, rfl, ⟨⟨_, rfl, (.refl _)⟩, rfl, trivial⟩,  trivial⟩ (doneA (.inr rfl) rfl ⟨trivial, trivial⟩ (.refl _) hasNil))
/-- courant/match.at -/
def C232 (N : Nat → Nat) : AFunc := { n := 21, params := 2, res := [.cell 4 10 true, .tmp 5], body :=
 (.seq (.region false [⟨(some 2), .box (.t 0), none, []⟩,
   ⟨(some 4), .alloc [(.int .i64 0), (.str []), (.sl []), (.sl []), (.sl []), (.bool false), (.str []), (.int .i64 0), (.sl []), (.int .i64 0)], none, []⟩,
   ⟨(some 5), .mv (.k (.d (.bool false))), none, []⟩])
  (.seq (.seq (.region false [⟨(some 6), .mv (.t 1), none, []⟩,
     ⟨(some 7), .bin .lss (.t 6) (.k (.d (.int .i64 0))), none, [0]⟩,
     ⟨(some 8), .mv (.t 7), none, [1]⟩,
     ⟨(some 9), .mv (.t 1), (some (8, false)), [2]⟩,
     ⟨(some 10), .faddr (.t 2) 0, (some (8, false)), [2]⟩,
     ⟨(some 11), .load (.t 10) 1 false, (some (8, false)), [4, 2]⟩,
     ⟨(some 12), .len (.t 11), (some (8, false)), [5, 2]⟩,
     ⟨(some 13), .bin .geq (.t 9) (.t 12), (some (8, false)), [3, 6, 2]⟩,
     ⟨(some 14), .pick (.t 8) (.k (.d (.bool true))) (.t 13), none, [2, 7]⟩])
    (.cond (.t 14) (.seq (.region false [⟨(some 15), .build [(.int .i64 0), (.str []), (.sl []), (.sl []), (.sl []), (.bool false), (.str []), (.int .i64 0), (.sl []), (.int .i64 0)] [], none, []⟩,
       ⟨none, .store (.t 4) (.t 15) 10, none, [0]⟩,
       ⟨(some 5), .mv (.k (.d (.bool false))), none, [1, 0]⟩])
      .ret)
     (.skip)))
   (.seq (.region false [⟨(some 16), .faddr (.t 2) 0, none, []⟩,
     ⟨(some 17), .load (.t 16) 1 false, none, [0]⟩,
     ⟨(some 18), .mv (.t 1), none, []⟩,
     ⟨(some 19), .iaddr (.t 17) (.t 18) 10, none, [1, 2]⟩,
     ⟨(some 20), .load (.t 19) 10 true, none, [3]⟩,
     ⟨none, .store (.t 4) (.t 20) 10, none, [4, 0, 1, 2, 3]⟩,
     ⟨(some 5), .mv (.k (.d (.bool true))), none, [5, 0, 1, 2, 3, 4]⟩])
    .ret))) }
def HC232 (P : Program) (N : Nat → Nat) : Prop := HasF P (N 232) (C232 N)
def f232_j20 (k : Nat) (a1 : Int) (a0 : TSchema) (j20_1 : Bool) : Option (Bool × Int × (List UInt8) × (List (List UInt8)) × (List TField) × (List (List UInt8)) × Bool × (List UInt8) × Int × (List Int) × Int) := cond j20_1 (some (false, (0 : Int), ([] : List UInt8), ([] : List (List UInt8)), ([] : List TField), ([] : List (List UInt8)), false, ([] : List UInt8), (0 : Int), ([] : List Int), (0 : Int))) (gd (0 ≤ a1 ∧ a1 < ((a0.fNodes.length : Nat) : Int)) (some (true, (rd a0.fNodes a1).fKind, (rd a0.fNodes a1).fName, (rd a0.fNodes a1).fAliases, (rd a0.fNodes a1).fFields, (rd a0.fNodes a1).fSymbols, (rd a0.fNodes a1).fHas, (rd a0.fNodes a1).fDefault, (rd a0.fNodes a1).fItems, (rd a0.fNodes a1).fBranches, (rd a0.fNodes a1).fSize)))
def f232 (k : Nat) (a0 : TSchema) (a1 : Int) : Option (Bool × Int × (List UInt8) × (List (List UInt8)) × (List TField) × (List (List UInt8)) × Bool × (List UInt8) × Int × (List Int) × Int) := cond (decide (a1 < (0 : Int))) (f232_j20 k a1 a0 true) (f232_j20 k a1 a0 (decide (a1 ≥ ((a0.fNodes.length : Nat) : Int))))
theorem F232 {P : Program} {N : Nat → Nat} (hmix : P.follows .mixedOrders = true) (hc : HC232 P N) {k : Nat} {a0 : TSchema} {a1 : Int} {r : (Bool × Int × (List UInt8) × (List (List UInt8)) × (List TField) × (List (List UInt8)) × Bool × (List UInt8) × Int × (List Int) × Int)} (h : f232 k a0 a1 = some r) :
    ACalls P (N 232) [(.d (TSchema.enc a0)), (.d (.int .i64 a1))] [] (.tup [(.d (.agg [(.int .i64 r.2.1), (.str r.2.2.1), (.sl (List.map D.str r.2.2.2.1)), (.sl (List.map TField.enc r.2.2.2.2.1)), (.sl (List.map D.str r.2.2.2.2.2.1)), (.bool r.2.2.2.2.2.2.1), (.str r.2.2.2.2.2.2.2.1), (.int .i64 r.2.2.2.2.2.2.2.2.1), (.sl (List.map (D.int .i64) r.2.2.2.2.2.2.2.2.2.1)), (.int .i64 r.2.2.2.2.2.2.2.2.2.2)])), (.d (.bool r.1))]) [] := by
  refine acalls_canon (F := C232 N) hc 0 0 rfl ?_
  unfold f232 at h
  dsimp only [C232, startL]
  refine AWc.seq ?_
  refine AWc.rg hmix rfl rfl ?_
  refine RegV.evS (own := false) (v := (.ptr 0 0)) (H' := [(0, (.cells [(.d (.sl (List.map TNode.enc a0.fNodes)))]))]) (c' := 1) rfl rfl trivial rfl rfl rfl rfl rfl rfl ?_
  refine RegV.evS (own := false) (v := (.ptr 1 0)) (H' := [(1, (.cells [(.d (.int .i64 (0 : Int))), (.d (.str ([] : List UInt8))), .nils, .nils, .nils, (.d (.bool false)), (.d (.str ([] : List UInt8))), (.d (.int .i64 (0 : Int))), .nils, (.d (.int .i64 (0 : Int)))])), (0, (.cells [(.d (.sl (List.map TNode.enc a0.fNodes)))]))]) (c' := 2) rfl rfl trivial rfl rfl rfl rfl rfl rfl ?_
  refine RegV.p0 rfl rfl rfl ?_
  refine RegV.nil0 ?_
  refine AWc.seq ?_
  refine AWc.seqS (N := 21) 2 (fun (z : Bool) => [(1, (.d (.int .i64 a1))), (2, (.ptr 0 0)), (4, (.ptr 1 0)), (14, (.d (.bool z)))]) (fun z => [(0, (.cells [(.d (.sl (List.map TNode.enc a0.fNodes)))])), (1, (.cells [(.d (.int .i64 (0 : Int))), (.d (.str ([] : List UInt8))), .nils, .nils, .nils, (.d (.bool false)), (.d (.str ([] : List UInt8))), (.d (.int .i64 (0 : Int))), .nils, (.d (.int .i64 (0 : Int)))]))]) (fun z => f232_j20 k a1 a0 z = some r) rfl_le ?_ ?_
  · refine AWc.rg hmix rfl rfl ?_
    refine RegV.p0 rfl rfl rfl ?_
    refine RegV.p0 (v := (.d (.bool (decide (a1 < (0 : Int)))))) rfl rfl rfl ?_
    refine RegV.p0 rfl rfl rfl ?_
    refine RegV.split (fun c13 => ?_) (fun c13 => ?_)
    · have h := cond_pos c13 h
      refine RegV.noS rfl rfl ?_
      refine RegV.noS rfl rfl ?_
      refine RegV.noS rfl rfl ?_
      refine RegV.noS rfl rfl ?_
      refine RegV.noS rfl rfl ?_
      refine RegV.p0 rfl rfl rfl ?_
      refine RegV.nil0 ?_
      exact ⟨true, h, ⟨rfl, [], [], rfl, rfl, ⟨⟨_, rfl, (.refl _)⟩, rfl, ⟨⟨_, rfl, (.refl _)⟩, rfl, ⟨⟨_, rfl, (.refl _)⟩, rfl, ⟨⟨_, rfl, (.refl _)⟩, rfl, trivial⟩⟩⟩⟩, ⟨⟨_, rfl, (.refl _)⟩, rfl, rfl, ⟨⟨_, rfl, (.refl _)⟩, rfl, rfl, trivial⟩⟩⟩⟩
    · have h := cond_neg c13 h
      refine RegV.p0 rfl rfl rfl ?_
      refine RegV.p0 (v := (.ptr 0 0)) rfl rfl rfl ?_
      refine RegV.ld (v := (.d (.sl (List.map TNode.enc a0.fNodes)))) (H' := [(0, (.cells [(.d (.sl (List.map TNode.enc a0.fNodes)))])), (1, (.cells [(.d (.int .i64 (0 : Int))), (.d (.str ([] : List UInt8))), .nils, .nils, .nils, (.d (.bool false)), (.d (.str ([] : List UInt8))), (.d (.int .i64 (0 : Int))), .nils, (.d (.int .i64 (0 : Int)))]))]) rfl rfl trivial rfl rfl rfl rfl rfl ?_
      refine RegV.len (xs := a0.fNodes) (e := TNode.enc) rfl rfl rfl rfl ?_
      refine RegV.p0 (v := (.d (.bool (decide (a1 ≥ ((a0.fNodes.length : Nat) : Int)))))) rfl rfl rfl ?_
      refine RegV.p0 rfl rfl rfl ?_
      refine RegV.nil0 ?_
      exact ⟨(decide (a1 ≥ ((a0.fNodes.length : Nat) : Int))), h, ⟨rfl, [], [], rfl, rfl, ⟨⟨_, rfl, (.refl _)⟩, rfl, ⟨⟨_, rfl, (.refl _)⟩, rfl, ⟨⟨_, rfl, (.refl _)⟩, rfl, ⟨⟨_, rfl, (.refl _)⟩, rfl, trivial⟩⟩⟩⟩, ⟨⟨_, rfl, (.refl _)⟩, rfl, rfl, ⟨⟨_, rfl, (.refl _)⟩, rfl, rfl, trivial⟩⟩⟩⟩
  · intro j20_1 h
    unfold f232_j20 at h
    refine AWc.cond rfl (fun c20 => ?_) (fun c20 => ?_)
    · have h := cond_pos c20 h
      refine AWc.seq ?_
      refine AWc.rg hmix rfl rfl ?_
      refine RegV.p1 (v := (.d (.agg [(.int .i64 (0 : Int)), (.str ([] : List UInt8)), (.sl (List.map D.str ([] : List (List UInt8)))), (.sl (List.map TField.enc ([] : List TField))), (.sl (List.map D.str ([] : List (List UInt8)))), (.bool false), (.str ([] : List UInt8)), (.int .i64 (0 : Int)), (.sl (List.map (D.int .i64) ([] : List Int))), (.int .i64 (0 : Int))]))) rfl rfl trivial rfl rfl ?_
      refine RegV.evN (own := false) (H' := [(1, (.cells [(.d (.int .i64 (0 : Int))), (.d (.str ([] : List UInt8))), (.d (.sl (List.map D.str ([] : List (List UInt8))))), (.d (.sl (List.map TField.enc ([] : List TField)))), (.d (.sl (List.map D.str ([] : List (List UInt8))))), (.d (.bool false)), (.d (.str ([] : List UInt8))), (.d (.int .i64 (0 : Int))), (.d (.sl (List.map (D.int .i64) ([] : List Int)))), (.d (.int .i64 (0 : Int)))])), (0, (.cells [(.d (.sl (List.map TNode.enc a0.fNodes)))]))]) (c' := 2) rfl rfl (by exact ⟨rfl, Nat.le_of_ble_eq_true rfl, rfl⟩) rfl rfl rfl rfl ?_
      refine RegV.p0 rfl rfl rfl ?_
      refine RegV.nil0 ?_
      have hr := Option.some.inj h
      subst hr
      exact AWc.ret (canQ (N := 21) (k := 1) (l' := [(4, (.ptr 0 0)), (5, (.d (.bool false)))]) (H' := [(0, (.cells [(.d (.int .i64 (0 : Int))), (.d (.str ([] : List UInt8))), (.d (.sl (List.map D.str ([] : List (List UInt8))))), (.d (.sl (List.map TField.enc ([] : List TField)))), (.d (.sl (List.map D.str ([] : List (List UInt8))))), (.d (.bool false)), (.d (.str ([] : List UInt8))), (.d (.int .i64 (0 : Int))), (.d (.sl (List.map (D.int .i64) ([] : List Int)))), (.d (.int .i64 (0 : Int)))]))]) rfl ⟨rfl, [], [(0, 1)], rfl, rfl, ⟨⟨_, rfl, (.refl _)⟩, rfl, ⟨⟨_, rfl, (.refl _)⟩, rfl, trivial⟩⟩, ⟨⟨_, rfl, (.refl _)⟩, rfl, rfl, trivial⟩⟩ (doneA (.inr rfl) rfl ⟨(Nat.le_of_ble_eq_true rfl), ⟨trivial, trivial⟩⟩ (.refl _) hasNil))
    · have h := cond_neg c20 h
      refine AWc.skip ?_
      refine AWc.seq ?_
      refine AWc.rg hmix rfl rfl ?_
      refine RegV.p0 (v := (.ptr 0 0)) rfl rfl rfl ?_
      refine RegV.ld (v := (.d (.sl (List.map TNode.enc a0.fNodes)))) (H' := [(0, (.cells [(.d (.sl (List.map TNode.enc a0.fNodes)))])), (1, (.cells [(.d (.int .i64 (0 : Int))), (.d (.str ([] : List UInt8))), .nils, .nils, .nils, (.d (.bool false)), (.d (.str ([] : List UInt8))), (.d (.int .i64 (0 : Int))), .nils, (.d (.int .i64 (0 : Int)))]))]) rfl rfl trivial rfl rfl rfl rfl rfl ?_
      refine RegV.p0 rfl rfl rfl ?_
      obtain ⟨b35, h⟩ := gd_some h
      refine RegV.iad (xs := a0.fNodes) (e := TNode.enc) rfl rfl rfl rfl (fun _ => rfl) b35 rfl ?_
      refine RegV.p1 (v := (.d (TNode.enc (rd a0.fNodes a1)))) rfl rfl rfl rfl rfl ?_
      refine RegV.evN (own := false) (H' := [(1, (.cells [(.d (.int .i64 (rd a0.fNodes a1).fKind)), (.d (.str (rd a0.fNodes a1).fName)), (.d (.sl (List.map D.str (rd a0.fNodes a1).fAliases))), (.d (.sl (List.map TField.enc (rd a0.fNodes a1).fFields))), (.d (.sl (List.map D.str (rd a0.fNodes a1).fSymbols))), (.d (.bool (rd a0.fNodes a1).fHas)), (.d (.str (rd a0.fNodes a1).fDefault)), (.d (.int .i64 (rd a0.fNodes a1).fItems)), (.d (.sl (List.map (D.int .i64) (rd a0.fNodes a1).fBranches))), (.d (.int .i64 (rd a0.fNodes a1).fSize))])), (0, (.cells [(.d (.sl (List.map TNode.enc a0.fNodes)))]))]) (c' := 2) rfl rfl (by exact ⟨rfl, Nat.le_of_ble_eq_true rfl, rfl⟩) rfl rfl rfl rfl ?_
      refine RegV.p0 rfl rfl rfl ?_
      refine RegV.nil0 ?_
      have hr := Option.some.inj h
      subst hr
      exact AWc.ret (canQ (N := 21) (k := 1) (l' := [(4, (.ptr 0 0)), (5, (.d (.bool true)))]) (H' := [(0, (.cells [(.d (.int .i64 ((rd a0.fNodes a1).fKind))), (.d (.str ((rd a0.fNodes a1).fName))), (.d (.sl (List.map D.str ((rd a0.fNodes a1).fAliases)))), (.d (.sl (List.map TField.enc ((rd a0.fNodes a1).fFields)))), (.d (.sl (List.map D.str ((rd a0.fNodes a1).fSymbols)))), (.d (.bool ((rd a0.fNodes a1).fHas))), (.d (.str ((rd a0.fNodes a1).fDefault))), (.d (.int .i64 ((rd a0.fNodes a1).fItems))), (.d (.sl (List.map (D.int .i64) ((rd a0.fNodes a1).fBranches)))), (.d (.int .i64 ((rd a0.fNodes a1).fSize)))]))]) rfl ⟨rfl, [], [(0, 1)], rfl, rfl, ⟨⟨_, rfl, (.refl _)⟩, rfl, ⟨⟨_, rfl, (.refl _)⟩, rfl, trivial⟩⟩, ⟨⟨_, rfl, (.refl _)⟩, rfl, rfl, trivial⟩⟩ (doneA (.inr rfl) rfl ⟨(Nat.le_of_ble_eq_true rfl), ⟨trivial, trivial⟩⟩ (.refl _) hasNil))
/-- internal/bytealg.LastIndexByteString -/
def C238 (N : Nat → Nat) : AFunc := { n := 19, params := 2, res := [.tmp 4], body :=
 (.seq (.region false [⟨(some 4), .mv (.k (.d (.int .i64 0))), none, []⟩])
  (.seq (.seq (.region false [⟨(some 6), .mv (.t 0), none, []⟩,
     ⟨(some 7), .slen (.t 6), none, [0]⟩,
     ⟨(some 8), .bin .sub (.t 7) (.k (.d (.int .i64 1))), none, [1]⟩,
     ⟨(some 5), .mv (.t 8), none, [2, 0, 1]⟩])
    (.block 0 (.loop (.seq (.seq (.region false [⟨(some 9), .mv (.t 5), none, []⟩,
         ⟨(some 10), .bin .geq (.t 9) (.k (.d (.int .i64 0))), none, [0]⟩])
        (.cond (.t 10) (.skip)
         (.exit 0)))
       (.seq (.block 1 (.seq (.region false [⟨(some 13), .mv (.t 0), none, []⟩,
           ⟨(some 14), .mv (.t 5), none, []⟩,
           ⟨(some 15), .idx (.t 13) (.t 14), none, [0, 1]⟩,
           ⟨(some 16), .mv (.t 1), none, []⟩,
           ⟨(some 17), .bin .eql (.t 15) (.t 16), none, [2, 3]⟩])
          (.cond (.t 17) (.seq (.region false [⟨(some 18), .mv (.t 5), none, []⟩,
             ⟨(some 4), .mv (.t 18), none, [0]⟩])
            .ret)
           (.skip))))
        (.region false [⟨(some 11), .mv (.t 5), none, []⟩,
         ⟨(some 12), .bin .sub (.t 11) (.k (.d (.int .i64 1))), none, [0]⟩,
         ⟨(some 5), .mv (.t 12), none, [1, 0]⟩]))))))
   (.seq (.region false [⟨(some 4), .mv (.k (.d (.int .i64 (-1)))), none, []⟩])
    .ret))) }
def HC238 (P : Program) (N : Nat → Nat) : Prop := HasF P (N 238) (C238 N)
def f238_l13 (a0 : (List UInt8)) (a1 : UInt8) : Nat → Int → Option (LR2 Unit Unit Int)
  | 0, _ => none
  | k + 1, y13_1 => cond (decide (y13_1 ≥ (0 : Int))) (gd (0 ≤ y13_1 ∧ y13_1 < ((a0.length : Nat) : Int)) (cond (decide ((((a0.getD (y13_1).toNat 0).toNat : Nat) : Int) = ((a1.toNat : Nat) : Int))) (some (.r y13_1)) (f238_l13 a0 a1 k (IntKind.i64.wrap (y13_1 - (1 : Int)))))) (some (.b0 ()))
def f238 (k : Nat) (a0 : (List UInt8)) (a1 : UInt8) : Option Int := (f238_l13 a0 a1 k (IntKind.i64.wrap (((a0.length : Nat) : Int) - (1 : Int)))).bind fun o13 => match o13 with | .b0 () => some (-1 : Int) | .r x => some x | _ => none
theorem F238 {P : Program} {N : Nat → Nat} (hmix : P.follows .mixedOrders = true) (hc : HC238 P N) {k : Nat} {a0 : (List UInt8)} {a1 : UInt8} {r : Int} (h : f238 k a0 a1 = some r) :
    ACalls P (N 238) [(.d (.str a0)), (.d (.int .u8 ((a1.toNat : Nat) : Int)))] [] (.d (.int .i64 r)) [] := by
  refine acalls_canon (F := C238 N) hc 0 0 rfl ?_
  unfold f238 at h
  dsimp only [C238, startL]
  refine AWc.seq ?_
  refine AWc.rg hmix rfl rfl ?_
  refine RegV.p0 rfl rfl rfl ?_
  refine RegV.nil0 ?_
  refine AWc.seq ?_
  refine AWc.seq ?_
  refine AWc.rg hmix rfl rfl ?_
  refine RegV.p0 rfl rfl rfl ?_
  refine RegV.p0 (v := (.d (.int .i64 ((a0.length : Nat) : Int)))) rfl rfl rfl ?_
  refine RegV.p0 (v := (.d (.int .i64 (IntKind.i64.wrap (((a0.length : Nat) : Int) - (1 : Int)))))) rfl rfl rfl ?_
  refine RegV.p0 rfl rfl rfl ?_
  refine RegV.nil0 ?_
  obtain ⟨o13, h13, h⟩ := bind_some h
  refine AWc.block ?_
  refine AWc.loopK (N := 19) 0 (fun (x : Int) => [(0, (.d (.str a0))), (1, (.d (.int .u8 ((a1.toNat : Nat) : Int)))), (5, (.d (.int .i64 x)))]) (fun x => []) (fun k x => f238_l13 a0 a1 k x = some o13) k (IntKind.i64.wrap (((a0.length : Nat) : Int) - (1 : Int))) rfl_le (fun x hx => by cases hx) h13 ⟨rfl, [], [], rfl, rfl, ⟨⟨_, rfl, (.refl _)⟩, rfl, ⟨⟨_, rfl, (.refl _)⟩, rfl, ⟨⟨_, rfl, (.refl _)⟩, rfl, trivial⟩⟩⟩,  trivial⟩ ?_
  clear h13
  intro k
  intro y13_1 h13
  rw [f238_l13] at h13
  refine AWc.seq ?_
  refine AWc.seq ?_
  refine AWc.rg hmix rfl rfl ?_
  refine RegV.p0 rfl rfl rfl ?_
  refine RegV.p0 (v := (.d (.bool (decide (y13_1 ≥ (0 : Int)))))) rfl rfl rfl ?_
  refine RegV.nil0 ?_
  refine AWc.cond rfl (fun c21 => ?_) (fun c21 => ?_)
  · have h13 := cond_pos c21 h13
    refine AWc.skip ?_
    refine AWc.seq ?_
    refine AWc.block ?_
    refine AWc.seq ?_
    refine AWc.rg hmix rfl rfl ?_
    refine RegV.p0 rfl rfl rfl ?_
    refine RegV.p0 rfl rfl rfl ?_
    obtain ⟨b31, h13⟩ := gd_some h13
    refine RegV.p1 (v := (.d (.int .u8 (((a0.getD (y13_1).toNat 0).toNat : Nat) : Int)))) rfl rfl b31 rfl rfl ?_
    refine RegV.p0 rfl rfl rfl ?_
    refine RegV.p0 (v := (.d (.bool (decide ((((a0.getD (y13_1).toNat 0).toNat : Nat) : Int) = ((a1.toNat : Nat) : Int)))))) rfl rfl rfl ?_
    refine RegV.nil0 ?_
    refine AWc.cond rfl (fun c34 => ?_) (fun c34 => ?_)
    · have h13 := cond_pos c34 h13
      refine AWc.seq ?_
      refine AWc.rg hmix rfl rfl ?_
      refine RegV.p0 rfl rfl rfl ?_
      refine RegV.p0 rfl rfl rfl ?_
      refine RegV.nil0 ?_
      cases h13
      dsimp only at h
      have hr := Option.some.inj h
      subst hr
      exact AWc.ret (canQ (N := 19) (k := 0) (l' := [(4, (.d (.int .i64 y13_1)))]) (H' := []) rfl ⟨rfl, [], [], rfl, rfl, ⟨⟨_, rfl, (.refl _)⟩, rfl, trivial⟩,  trivial⟩ (doneA (.inr rfl) rfl ⟨trivial, trivial⟩ (.refl _) hasNil))
    · have h13 := cond_neg c34 h13
      refine AWc.skip ?_
      refine AWc.rg hmix rfl rfl ?_
      refine RegV.p0 rfl rfl rfl ?_
      refine RegV.p0 (v := (.d (.int .i64 (IntKind.i64.wrap (y13_1 - (1 : Int)))))) rfl rfl rfl ?_
      refine RegV.p0 rfl rfl rfl ?_
      refine RegV.nil0 ?_
      exact ⟨(IntKind.i64.wrap (y13_1 - (1 : Int))), h13, ⟨rfl, [], [], rfl, rfl, ⟨⟨_, rfl, (.refl _)⟩, rfl, ⟨⟨_, rfl, (.refl _)⟩, rfl, ⟨⟨_, rfl, (.refl _)⟩, rfl, trivial⟩⟩⟩,  trivial⟩⟩
  · have h13 := cond_neg c21 h13
    cases h13
    dsimp only at h
    refine AWc.exit ?_
    refine inBlk_eq ?_
    refine AWc.seq ?_
    refine AWc.rg hmix rfl rfl ?_
    refine RegV.p0 rfl rfl rfl ?_
    refine RegV.nil0 ?_
    have hr := Option.some.inj h
    subst hr
    exact AWc.ret (canQ (N := 19) (k := 0) (l' := [(4, (.d (.int .i64 (-1 : Int))))]) (H' := []) rfl ⟨rfl, [], [], rfl, rfl, ⟨⟨_, rfl, (.refl _)⟩, rfl, trivial⟩,  trivial⟩ (doneA (.inr rfl) rfl ⟨trivial, trivial⟩ (.refl _) hasNil))
/-- strings.LastIndexByte -/
def C237 (N : Nat → Nat) : AFunc := { n := 8, params := 2, res := [.tmp 4], body :=
 (.seq (.region false [⟨(some 4), .mv (.k (.d (.int .i64 0))), none, []⟩])
  (.seq (.region false [⟨(some 5), .mv (.t 0), none, []⟩,
    ⟨(some 6), .mv (.t 1), none, []⟩,
    ⟨(some 7), .call (.k (.d (.fn (N 238)))) [(.t 5), (.t 6)], none, [0, 1]⟩,
    ⟨(some 4), .mv (.t 7), none, [2, 0, 1]⟩])
   .ret)) }
def HC237 (P : Program) (N : Nat → Nat) : Prop := HasF P (N 237) (C237 N) ∧ HC238 P N
def f237 (k : Nat) (a0 : (List UInt8)) (a1 : UInt8) : Option Int := (f238 k a0 a1).bind fun r10 => some r10
theorem F237 {P : Program} {N : Nat → Nat} (hmix : P.follows .mixedOrders = true) (hc : HC237 P N) {k : Nat} {a0 : (List UInt8)} {a1 : UInt8} {r : Int} (h : f237 k a0 a1 = some r) :
    ACalls P (N 237) [(.d (.str a0)), (.d (.int .u8 ((a1.toNat : Nat) : Int)))] [] (.d (.int .i64 r)) [] := by
  refine acalls_canon (F := C237 N) hc.1 0 0 rfl ?_
  unfold f237 at h
  dsimp only [C237, startL]
  refine AWc.seq ?_
  refine AWc.rg hmix rfl rfl ?_
  refine RegV.p0 rfl rfl rfl ?_
  refine RegV.nil0 ?_
  refine AWc.seq ?_
  refine AWc.rg hmix rfl rfl ?_
  refine RegV.p0 rfl rfl rfl ?_
  refine RegV.p0 rfl rfl rfl ?_
  obtain ⟨r10, e10, h⟩ := bind_some h
  refine RegV.call0 (F238 hmix hc.2 e10) rfl rfl rfl rfl (.cons (.refl _) (.cons (.refl _) .nil)) rfl ?_
  refine RegV.p0 rfl rfl rfl ?_
  refine RegV.nil0 ?_
  have hr := Option.some.inj h
  subst hr
  exact AWc.ret (canQ (N := 8) (k := 0) (l' := [(4, (.d (.int .i64 r10)))]) (H' := []) rfl ⟨rfl, [], [], rfl, rfl, ⟨⟨_, rfl, (.refl _)⟩, rfl, trivial⟩,  trivial⟩ (doneA (.inr rfl) rfl ⟨trivial, trivial⟩ (.refl _) hasNil))
/-- courant/names.cut -/
def C236 (N : Nat → Nat) : AFunc := { n := 17, params := 1, res := [.tmp 2, .tmp 3], body :=
 (.seq (.region false [⟨(some 2), .mv (.k (.d (.str []))), none, []⟩,
   ⟨(some 3), .mv (.k (.d (.str []))), none, [0]⟩])
  (.seq (.region false [⟨(some 5), .mv (.t 0), none, []⟩,
    ⟨(some 6), .call (.k (.d (.fn (N 237)))) [(.t 5), (.k (.d (.int .u8 46)))], none, [0]⟩,
    ⟨(some 4), .mv (.t 6), none, [1, 0]⟩])
   (.seq (.seq (.region false [⟨(some 7), .mv (.t 4), none, []⟩,
      ⟨(some 8), .bin .lss (.t 7) (.k (.d (.int .i64 0))), none, [0]⟩])
     (.cond (.t 8) (.seq (.region false [⟨(some 9), .mv (.t 0), none, []⟩,
        ⟨(some 2), .mv (.k (.d (.str []))), none, []⟩,
        ⟨(some 3), .mv (.t 9), none, [0, 1]⟩])
       .ret)
      (.skip)))
    (.seq (.region true [⟨(some 10), .mv (.t 0), none, []⟩,
      ⟨(some 11), .mv (.t 4), none, []⟩,
      ⟨(some 12), .ssl (.t 10) none (some (.t 11)), none, [0, 1]⟩,
      ⟨(some 13), .mv (.t 0), none, []⟩,
      ⟨(some 14), .mv (.t 4), none, []⟩,
      ⟨(some 15), .bin .add (.t 14) (.k (.d (.int .i64 1))), none, [4]⟩,
      ⟨(some 16), .ssl (.t 13) (some (.t 15)) none, none, [3, 5]⟩,
      ⟨(some 2), .mv (.t 12), none, [2, 0, 1]⟩,
      ⟨(some 3), .mv (.t 16), none, [6, 7, 0, 1, 2, 3, 4, 5]⟩])
     .ret)))) }
def HC236 (P : Program) (N : Nat → Nat) : Prop := HasF P (N 236) (C236 N) ∧ HC237 P N
def f236 (k : Nat) (a0 : (List UInt8)) : Option ((List UInt8) × (List UInt8)) := (f237 k a0 (46 : UInt8)).bind fun r10 => cond (decide (r10 < (0 : Int))) (some (([] : List UInt8), a0)) (gd (0 ≤ (0 : Int) ∧ (0 : Int) ≤ r10 ∧ r10 ≤ ((a0.length : Nat) : Int)) (gd (0 ≤ (IntKind.i64.wrap (r10 + (1 : Int))) ∧ (IntKind.i64.wrap (r10 + (1 : Int))) ≤ ((a0.length : Nat) : Int) ∧ ((a0.length : Nat) : Int) ≤ ((a0.length : Nat) : Int)) (some ((sl a0 (0 : Int) r10), (sl a0 (IntKind.i64.wrap (r10 + (1 : Int))) ((a0.length : Nat) : Int))))))
theorem F236 {P : Program} {N : Nat → Nat} (hmix : P.follows .mixedOrders = true) (hc : HC236 P N) {k : Nat} {a0 : (List UInt8)} {r : ((List UInt8) × (List UInt8))} (h : f236 k a0 = some r) :
    ACalls P (N 236) [(.d (.str a0))] [] (.tup [(.d (.str r.1)), (.d (.str r.2))]) [] := by
  refine acalls_canon (F := C236 N) hc.1 0 0 rfl ?_
  unfold f236 at h
  dsimp only [C236, startL]
  refine AWc.seq ?_
  refine AWc.rg hmix rfl rfl ?_
  refine RegV.p0 rfl rfl rfl ?_
  refine RegV.p0 rfl rfl rfl ?_
  refine RegV.nil0 ?_
  refine AWc.seq ?_
  refine AWc.rg hmix rfl rfl ?_
  refine RegV.p0 rfl rfl rfl ?_
  obtain ⟨r10, e10, h⟩ := bind_some h
  refine RegV.call0 (F237 hmix hc.2 e10) rfl rfl rfl rfl (.cons (.refl _) (.cons (.refl _) .nil)) rfl ?_
  refine RegV.p0 rfl rfl rfl ?_
  refine RegV.nil0 ?_
  refine AWc.seq ?_
  refine AWc.seq ?_
  refine AWc.rg hmix rfl rfl ?_
  refine RegV.p0 rfl rfl rfl ?_
  refine RegV.p0 (v := (.d (.bool (decide (r10 < (0 : Int)))))) rfl rfl rfl ?_
  refine RegV.nil0 ?_
  refine AWc.cond rfl (fun c18 => ?_) (fun c18 => ?_)
  · have h := cond_pos c18 h
    refine AWc.seq ?_
    refine AWc.rg hmix rfl rfl ?_
    refine RegV.p0 rfl rfl rfl ?_
    refine RegV.p0 rfl rfl rfl ?_
    refine RegV.p0 rfl rfl rfl ?_
    refine RegV.nil0 ?_
    have hr := Option.some.inj h
    subst hr
    exact AWc.ret (canQ (N := 17) (k := 0) (l' := [(2, (.d (.str ([] : List UInt8)))), (3, (.d (.str a0)))]) (H' := []) rfl ⟨rfl, [], [], rfl, rfl, ⟨⟨_, rfl, (.refl _)⟩, rfl, ⟨⟨_, rfl, (.refl _)⟩, rfl, trivial⟩⟩,  trivial⟩ (doneA (.inr rfl) rfl ⟨trivial, ⟨trivial, trivial⟩⟩ (.refl _) hasNil))
  · have h := cond_neg c18 h
    refine AWc.skip ?_
    refine AWc.seq ?_
    refine AWc.rg hmix rfl rfl ?_
    refine RegV.p0 rfl rfl rfl ?_
    refine RegV.p0 rfl rfl rfl ?_
    obtain ⟨b32, h⟩ := gd_some h
    refine RegV.p1 (v := (.d (.str (sl a0 (0 : Int) r10)))) rfl rfl b32 rfl rfl ?_
    refine RegV.p0 rfl rfl rfl ?_
    refine RegV.p0 rfl rfl rfl ?_
    refine RegV.p0 (v := (.d (.int .i64 (IntKind.i64.wrap (r10 + (1 : Int)))))) rfl rfl rfl ?_
    obtain ⟨b36, h⟩ := gd_some h
    refine RegV.p1 (v := (.d (.str (sl a0 (IntKind.i64.wrap (r10 + (1 : Int))) ((a0.length : Nat) : Int))))) rfl rfl b36 rfl rfl ?_
    refine RegV.p0 rfl rfl rfl ?_
    refine RegV.p0 rfl rfl rfl ?_
    refine RegV.nil1 (by kernel_rfl) ?_
    have hr := Option.some.inj h
    subst hr
    exact AWc.ret (canQ (N := 17) (k := 0) (l' := [(2, (.d (.str (sl a0 (0 : Int) r10)))), (3, (.d (.str (sl a0 (IntKind.i64.wrap (r10 + (1 : Int))) ((a0.length : Nat) : Int)))))]) (H' := []) rfl ⟨rfl, [], [], rfl, rfl, ⟨⟨_, rfl, (.refl _)⟩, rfl, ⟨⟨_, rfl, (.refl _)⟩, rfl, trivial⟩⟩,  trivial⟩ (doneA (.inr rfl) rfl ⟨trivial, ⟨trivial, trivial⟩⟩ (.refl _) hasNil))
/-- courant/names.Short -/
def C235 (N : Nat → Nat) : AFunc := { n := 11, params := 1, res := [.tmp 2], body :=
 (.seq (.region false [⟨(some 2), .mv (.k (.d (.str []))), none, []⟩])
  (.seq (.region false [⟨(some 6), .mv (.t 0), none, []⟩,
    ⟨(some 7), .call (.k (.d (.fn (N 236)))) [(.t 6)], none, [0]⟩,
    ⟨(some 5), .mv (.t 7), none, [1]⟩,
    ⟨(some 8), .ext (.t 5) 0, none, [2]⟩,
    ⟨(some 9), .ext (.t 5) 1, none, [2]⟩,
    ⟨(some 3), .mv (.t 8), none, [3, 1, 0, 2]⟩,
    ⟨(some 4), .mv (.t 9), none, [4, 5, 0, 1, 2, 3]⟩])
   (.seq (.region false [⟨(some 10), .mv (.t 4), none, []⟩,
     ⟨(some 2), .mv (.t 10), none, [0]⟩])
    .ret))) }
def HC235 (P : Program) (N : Nat → Nat) : Prop := HasF P (N 235) (C235 N) ∧ HC236 P N
def f235 (k : Nat) (a0 : (List UInt8)) : Option (List UInt8) := (f236 k a0).bind fun r9 => some r9.2
theorem F235 {P : Program} {N : Nat → Nat} (hmix : P.follows .mixedOrders = true) (hc : HC235 P N) {k : Nat} {a0 : (List UInt8)} {r : (List UInt8)} (h : f235 k a0 = some r) :
    ACalls P (N 235) [(.d (.str a0))] [] (.d (.str r)) [] := by
  refine acalls_canon (F := C235 N) hc.1 0 0 rfl ?_
  unfold f235 at h
  dsimp only [C235, startL]
  refine AWc.seq ?_
  refine AWc.rg hmix rfl rfl ?_
  refine RegV.p0 rfl rfl rfl ?_
  refine RegV.nil0 ?_
  refine AWc.seq ?_
  refine AWc.rg hmix rfl rfl ?_
  refine RegV.p0 rfl rfl rfl ?_
  obtain ⟨r9, e9, h⟩ := bind_some h
  refine RegV.call0 (F236 hmix hc.2 e9) rfl rfl rfl rfl (.cons (.refl _) .nil) rfl ?_
  refine RegV.p0 rfl rfl rfl ?_
  refine RegV.p0 rfl rfl rfl ?_
  refine RegV.p0 rfl rfl rfl ?_
  refine RegV.p0 rfl rfl rfl ?_
  refine RegV.p0 rfl rfl rfl ?_
  refine RegV.nil0 ?_
  refine AWc.seq ?_
  refine AWc.rg hmix rfl rfl ?_
  refine RegV.p0 rfl rfl rfl ?_
  refine RegV.p0 rfl rfl rfl ?_
  refine RegV.nil0 ?_
  have hr := Option.some.inj h
  subst hr
  exact AWc.ret (canQ (N := 11) (k := 0) (l' := [(2, (.d (.str r9.2)))]) (H' := []) rfl ⟨rfl, [], [], rfl, rfl, ⟨⟨_, rfl, (.refl _)⟩, rfl, trivial⟩,  trivial⟩ (doneA (.inr rfl) rfl ⟨trivial, trivial⟩ (.refl _) hasNil))
/-- slices.Index[[]string,string] -/
def C240 (N : Nat → Nat) : AFunc := { n := 19, params := 2, res := [.tmp 4], body :=
 (.seq (.region false [⟨(some 4), .mv (.k (.d (.int .i64 0))), none, []⟩])
  (.seq (.seq (.region false [⟨(some 6), .mv (.t 0), none, []⟩,
     ⟨(some 7), .len (.t 6), none, [0]⟩,
     ⟨(some 8), .mv (.k (.d (.int .i64 0))), none, []⟩])
    (.block 0 (.loop (.seq (.region false [⟨(some 9), .bin .lss (.t 8) (.t 7), none, []⟩])
       (.seq (.cond (.t 9) (.skip)
         (.exit 0))
        (.seq (.block 1 (.seq (.region false [⟨(some 10), .mv (.t 8), none, []⟩,
            ⟨(some 5), .mv (.t 10), none, [0]⟩])
           (.seq (.region false [⟨(some 11), .mv (.t 1), none, []⟩,
             ⟨(some 12), .mv (.t 0), none, []⟩,
             ⟨(some 13), .mv (.t 5), none, []⟩,
             ⟨(some 14), .iaddr (.t 12) (.t 13) 1, none, [1, 2]⟩,
             ⟨(some 15), .load (.t 14) 1 false, none, [3]⟩,
             ⟨(some 16), .bin .eql (.t 11) (.t 15), none, [0, 4]⟩])
            (.cond (.t 16) (.seq (.region false [⟨(some 17), .mv (.t 5), none, []⟩,
               ⟨(some 4), .mv (.t 17), none, [0]⟩])
              .ret)
             (.skip)))))
         (.region false [⟨(some 18), .bin .add (.t 8) (.k (.d (.int .i64 1))), none, []⟩,
          ⟨(some 8), .mv (.t 18), none, [0]⟩])))))))
   (.seq (.region false [⟨(some 4), .mv (.k (.d (.int .i64 (-1)))), none, []⟩])
    .ret))) }
def HC240 (P : Program) (N : Nat → Nat) : Prop := HasF P (N 240) (C240 N)
def f240_l12 (a0 : (List (List UInt8))) (a1 : (List UInt8)) : Nat → Int → Option (LR2 Unit Unit Int)
  | 0, _ => none
  | k + 1, y12_1 => cond (decide (y12_1 < ((a0.length : Nat) : Int))) (gd (0 ≤ y12_1 ∧ y12_1 < ((a0.length : Nat) : Int)) (cond (decide (a1 = (rd a0 y12_1))) (some (.r y12_1)) (f240_l12 a0 a1 k (IntKind.i64.wrap (y12_1 + (1 : Int)))))) (some (.b0 ()))
def f240 (k : Nat) (a0 : (List (List UInt8))) (a1 : (List UInt8)) : Option Int := (f240_l12 a0 a1 k (0 : Int)).bind fun o12 => match o12 with | .b0 () => some (-1 : Int) | .r x => some x | _ => none
theorem F240 {P : Program} {N : Nat → Nat} (hmix : P.follows .mixedOrders = true) (hc : HC240 P N) {k : Nat} {a0 : (List (List UInt8))} {a1 : (List UInt8)} {r : Int} (h : f240 k a0 a1 = some r) :
    ACalls P (N 240) [(.d (.sl (List.map D.str a0))), (.d (.str a1))] [] (.d (.int .i64 r)) [] := by
  refine acalls_canon (F := C240 N) hc 0 0 rfl ?_
  unfold f240 at h
  dsimp only [C240, startL]
  refine AWc.seq ?_
  refine AWc.rg hmix rfl rfl ?_
  refine RegV.p0 rfl rfl rfl ?_
  refine RegV.nil0 ?_
  refine AWc.seq ?_
  refine AWc.seq ?_
  refine AWc.rg hmix rfl rfl ?_
  refine RegV.p0 rfl rfl rfl ?_
  refine RegV.len (xs := a0) (e := D.str) rfl rfl rfl rfl ?_
  refine RegV.p0 rfl rfl rfl ?_
  refine RegV.nil0 ?_
  obtain ⟨o12, h12, h⟩ := bind_some h
  refine AWc.block ?_
  refine AWc.loopK (N := 19) 0 (fun (x : Int) => [(0, (.d (.sl (List.map D.str a0)))), (1, (.d (.str a1))), (7, (.d (.int .i64 ((a0.length : Nat) : Int)))), (8, (.d (.int .i64 x)))]) (fun x => []) (fun k x => f240_l12 a0 a1 k x = some o12) k (0 : Int) rfl_le (fun x hx => by cases hx) h12 ⟨rfl, [], [], rfl, rfl, ⟨⟨_, rfl, (.refl _)⟩, rfl, ⟨⟨_, rfl, (.refl _)⟩, rfl, ⟨⟨_, rfl, (.refl _)⟩, rfl, ⟨⟨_, rfl, (.refl _)⟩, rfl, trivial⟩⟩⟩⟩,  trivial⟩ ?_
  clear h12
  intro k
  intro y12_1 h12
  rw [f240_l12] at h12
  refine AWc.seq ?_
  refine AWc.rg hmix rfl rfl ?_
  refine RegV.p0 (v := (.d (.bool (decide (y12_1 < ((a0.length : Nat) : Int)))))) rfl rfl rfl ?_
  refine RegV.nil0 ?_
  refine AWc.seq ?_
  refine AWc.cond rfl (fun c19 => ?_) (fun c19 => ?_)
  · have h12 := cond_pos c19 h12
    refine AWc.skip ?_
    refine AWc.seq ?_
    refine AWc.block ?_
    refine AWc.seq ?_
    refine AWc.rg hmix rfl rfl ?_
    refine RegV.p0 rfl rfl rfl ?_
    refine RegV.p0 rfl rfl rfl ?_
    refine RegV.nil0 ?_
    refine AWc.seq ?_
    refine AWc.rg hmix rfl rfl ?_
    refine RegV.p0 rfl rfl rfl ?_
    refine RegV.p0 rfl rfl rfl ?_
    refine RegV.p0 rfl rfl rfl ?_
    obtain ⟨b35, h12⟩ := gd_some h12
    refine RegV.iad (xs := a0) (e := D.str) rfl rfl rfl rfl (fun _ => rfl) b35 rfl ?_
    refine RegV.p0 (v := (.d (.str (rd a0 y12_1)))) rfl rfl rfl ?_
    refine RegV.p0 (v := (.d (.bool (decide (a1 = (rd a0 y12_1)))))) rfl rfl rfl ?_
    refine RegV.nil0 ?_
    refine AWc.cond rfl (fun c38 => ?_) (fun c38 => ?_)
    · have h12 := cond_pos c38 h12
      refine AWc.seq ?_
      refine AWc.rg hmix rfl rfl ?_
      refine RegV.p0 rfl rfl rfl ?_
      refine RegV.p0 rfl rfl rfl ?_
      refine RegV.nil0 ?_
      cases h12
      dsimp only at h
      have hr := Option.some.inj h
      subst hr
      exact AWc.ret (canQ (N := 19) (k := 0) (l' := [(4, (.d (.int .i64 y12_1)))]) (H' := []) rfl ⟨rfl, [], [], rfl, rfl, ⟨⟨_, rfl, (.refl _)⟩, rfl, trivial⟩,  trivial⟩ (doneA (.inr rfl) rfl ⟨trivial, trivial⟩ (.refl _) hasNil))
    · have h12 := cond_neg c38 h12
      refine AWc.skip ?_
      refine AWc.rg hmix rfl rfl ?_
      refine RegV.p0 (v := (.d (.int .i64 (IntKind.i64.wrap (y12_1 + (1 : Int)))))) rfl rfl rfl ?_
      refine RegV.p0 rfl rfl rfl ?_
      refine RegV.nil0 ?_
      exact ⟨(IntKind.i64.wrap (y12_1 + (1 : Int))), h12, ⟨rfl, [], [], rfl, rfl, ⟨⟨_, rfl, (.refl _)⟩, rfl, ⟨⟨_, rfl, (.refl _)⟩, rfl, ⟨⟨_, rfl, (.refl _)⟩, rfl, ⟨⟨_, rfl, (.refl _)⟩, rfl, trivial⟩⟩⟩⟩,  trivial⟩⟩
  · have h12 := cond_neg c19 h12
    cases h12
    dsimp only at h
    refine AWc.exit ?_
    refine inBlk_eq ?_
    refine AWc.seq ?_
    refine AWc.rg hmix rfl rfl ?_
    refine RegV.p0 rfl rfl rfl ?_
    refine RegV.nil0 ?_
    have hr := Option.some.inj h
    subst hr
    exact AWc.ret (canQ (N := 19) (k := 0) (l' := [(4, (.d (.int .i64 (-1 : Int))))]) (H' := []) rfl ⟨rfl, [], [], rfl, rfl, ⟨⟨_, rfl, (.refl _)⟩, rfl, trivial⟩,  trivial⟩ (doneA (.inr rfl) rfl ⟨trivial, trivial⟩ (.refl _) hasNil))
/-- slices.Contains[[]string,string] -/
def C239 (N : Nat → Nat) : AFunc := { n := 9, params := 2, res := [.tmp 4], body :=
 (.seq (.region false [⟨(some 4), .mv (.k (.d (.bool false))), none, []⟩])
  (.seq (.region false [⟨(some 5), .mv (.t 0), none, []⟩,
    ⟨(some 6), .mv (.t 1), none, []⟩,
    ⟨(some 7), .call (.k (.d (.fn (N 240)))) [(.t 5), (.t 6)], none, [0, 1]⟩,
    ⟨(some 8), .bin .geq (.t 7) (.k (.d (.int .i64 0))), none, [2]⟩,
    ⟨(some 4), .mv (.t 8), none, [3, 2, 0, 1]⟩])
   .ret)) }
def HC239 (P : Program) (N : Nat → Nat) : Prop := HasF P (N 239) (C239 N) ∧ HC240 P N
def f239 (k : Nat) (a0 : (List (List UInt8))) (a1 : (List UInt8)) : Option Bool := (f240 k a0 a1).bind fun r10 => some (decide (r10 ≥ (0 : Int)))
theorem F239 {P : Program} {N : Nat → Nat} (hmix : P.follows .mixedOrders = true) (hc : HC239 P N) {k : Nat} {a0 : (List (List UInt8))} {a1 : (List UInt8)} {r : Bool} (h : f239 k a0 a1 = some r) :
    ACalls P (N 239) [(.d (.sl (List.map D.str a0))), (.d (.str a1))] [] (.d (.bool r)) [] := by
  refine acalls_canon (F := C239 N) hc.1 0 0 rfl ?_
  unfold f239 at h
  dsimp only [C239, startL]
  refine AWc.seq ?_
  refine AWc.rg hmix rfl rfl ?_
  refine RegV.p0 rfl rfl rfl ?_
  refine RegV.nil0 ?_
  refine AWc.seq ?_
  refine AWc.rg hmix rfl rfl ?_
  refine RegV.p0 rfl rfl rfl ?_
  refine RegV.p0 rfl rfl rfl ?_
  obtain ⟨r10, e10, h⟩ := bind_some h
  refine RegV.call0 (F240 hmix hc.2 e10) rfl rfl rfl rfl (.cons (.refl _) (.cons (.refl _) .nil)) rfl ?_
  refine RegV.p0 (v := (.d (.bool (decide (r10 ≥ (0 : Int)))))) rfl rfl rfl ?_
  refine RegV.p0 rfl rfl rfl ?_
  refine RegV.nil0 ?_
  have hr := Option.some.inj h
  subst hr
  exact AWc.ret (canQ (N := 9) (k := 0) (l' := [(4, (.d (.bool (decide (r10 ≥ (0 : Int))))))]) (H' := []) rfl ⟨rfl, [], [], rfl, rfl, ⟨⟨_, rfl, (.refl _)⟩, rfl, trivial⟩,  trivial⟩ (doneA (.inr rfl) rfl ⟨trivial, trivial⟩ (.refl _) hasNil))
/-- courant/match.Named -/
def C234 (N : Nat → Nat) : AFunc := { n := 19, params := 2, res := [.tmp 4], body :=
 (.seq (.region false [⟨(some 2), .box (.t 0), none, []⟩,
   ⟨(some 3), .box (.t 1), none, []⟩,
   ⟨(some 4), .mv (.k (.d (.bool false))), none, []⟩])
  (.seq (.region true [⟨(some 5), .faddr (.t 2) 1, none, []⟩,
    ⟨(some 6), .load (.t 5) 1 false, none, [0]⟩,
    ⟨(some 7), .call (.k (.d (.fn (N 235)))) [(.t 6)], none, [1]⟩,
    ⟨(some 8), .faddr (.t 3) 1, none, []⟩,
    ⟨(some 9), .load (.t 8) 1 false, none, [3]⟩,
    ⟨(some 10), .call (.k (.d (.fn (N 235)))) [(.t 9)], none, [4, 2]⟩,
    ⟨(some 11), .bin .eql (.t 7) (.t 10), none, [2, 5]⟩,
    ⟨(some 12), .mv (.t 11), none, [6, 5]⟩,
    ⟨(some 13), .faddr (.t 3) 2, (some (12, false)), [7]⟩,
    ⟨(some 14), .load (.t 13) 1 false, (some (12, false)), [8, 7]⟩,
    ⟨(some 15), .faddr (.t 2) 1, (some (12, false)), [7]⟩,
    ⟨(some 16), .load (.t 15) 1 false, (some (12, false)), [10, 7]⟩,
    ⟨(some 17), .call (.k (.d (.fn (N 239)))) [(.t 14), (.t 16)], (some (12, false)), [9, 11, 7]⟩,
    ⟨(some 18), .pick (.t 12) (.k (.d (.bool true))) (.t 17), none, [7, 12]⟩,
    ⟨(some 4), .mv (.t 18), none, [13, 12, 0, 1, 2, 3, 4, 5, 6, 7, 8, 9, 10, 11]⟩])
   .ret)) }
def HC234 (P : Program) (N : Nat → Nat) : Prop := HasF P (N 234) (C234 N) ∧ HC235 P N ∧ HC239 P N
def f234 (k : Nat) (a0 : TNode) (a1 : TNode) : Option Bool := (f235 k a0.fName).bind fun r12 => (f235 k a1.fName).bind fun r15 => cond (decide (r12 = r15)) (some true) ((f239 k a1.fAliases a0.fName).bind fun r22 => some r22)
theorem F234 {P : Program} {N : Nat → Nat} (hmix : P.follows .mixedOrders = true) (hc : HC234 P N) {k : Nat} {a0 : TNode} {a1 : TNode} {r : Bool} (h : f234 k a0 a1 = some r) :
    ACalls P (N 234) [(.d (TNode.enc a0)), (.d (TNode.enc a1))] [] (.d (.bool r)) [] := by
  refine acalls_canon (F := C234 N) hc.1 0 0 rfl ?_
  unfold f234 at h
  dsimp only [C234, startL]
  refine AWc.seq ?_
  refine AWc.rg hmix rfl rfl ?_
  refine RegV.evS (own := false) (v := (.ptr 0 0)) (H' := [(0, (.cells [(.d (.int .i64 a0.fKind)), (.d (.str a0.fName)), (.d (.sl (List.map D.str a0.fAliases))), (.d (.sl (List.map TField.enc a0.fFields))), (.d (.sl (List.map D.str a0.fSymbols))), (.d (.bool a0.fHas)), (.d (.str a0.fDefault)), (.d (.int .i64 a0.fItems)), (.d (.sl (List.map (D.int .i64) a0.fBranches))), (.d (.int .i64 a0.fSize))]))]) (c' := 1) rfl rfl trivial rfl rfl rfl rfl rfl rfl ?_
  refine RegV.evS (own := false) (v := (.ptr 1 0)) (H' := [(1, (.cells [(.d (.int .i64 a1.fKind)), (.d (.str a1.fName)), (.d (.sl (List.map D.str a1.fAliases))), (.d (.sl (List.map TField.enc a1.fFields))), (.d (.sl (List.map D.str a1.fSymbols))), (.d (.bool a1.fHas)), (.d (.str a1.fDefault)), (.d (.int .i64 a1.fItems)), (.d (.sl (List.map (D.int .i64) a1.fBranches))), (.d (.int .i64 a1.fSize))])), (0, (.cells [(.d (.int .i64 a0.fKind)), (.d (.str a0.fName)), (.d (.sl (List.map D.str a0.fAliases))), (.d (.sl (List.map TField.enc a0.fFields))), (.d (.sl (List.map D.str a0.fSymbols))), (.d (.bool a0.fHas)), (.d (.str a0.fDefault)), (.d (.int .i64 a0.fItems)), (.d (.sl (List.map (D.int .i64) a0.fBranches))), (.d (.int .i64 a0.fSize))]))]) (c' := 2) rfl rfl trivial rfl rfl rfl rfl rfl rfl ?_
  refine RegV.p0 rfl rfl rfl ?_
  refine RegV.nil0 ?_
  refine AWc.seq ?_
  refine AWc.rg hmix rfl rfl ?_
  refine RegV.p0 (v := (.ptr 0 1)) rfl rfl rfl ?_
  refine RegV.ld (v := (.d (.str a0.fName))) (H' := [(0, (.cells [(.d (.int .i64 a0.fKind)), (.d (.str a0.fName)), (.d (.sl (List.map D.str a0.fAliases))), (.d (.sl (List.map TField.enc a0.fFields))), (.d (.sl (List.map D.str a0.fSymbols))), (.d (.bool a0.fHas)), (.d (.str a0.fDefault)), (.d (.int .i64 a0.fItems)), (.d (.sl (List.map (D.int .i64) a0.fBranches))), (.d (.int .i64 a0.fSize))])), (1, (.cells [(.d (.int .i64 a1.fKind)), (.d (.str a1.fName)), (.d (.sl (List.map D.str a1.fAliases))), (.d (.sl (List.map TField.enc a1.fFields))), (.d (.sl (List.map D.str a1.fSymbols))), (.d (.bool a1.fHas)), (.d (.str a1.fDefault)), (.d (.int .i64 a1.fItems)), (.d (.sl (List.map (D.int .i64) a1.fBranches))), (.d (.int .i64 a1.fSize))]))]) rfl rfl trivial rfl rfl rfl rfl rfl ?_
  obtain ⟨r12, e12, h⟩ := bind_some h
  refine RegV.call0 (F235 hmix hc.2.1 e12) rfl rfl rfl rfl (.cons (.refl _) .nil) rfl ?_
  refine RegV.p0 (v := (.ptr 1 1)) rfl rfl rfl ?_
  refine RegV.ld (v := (.d (.str a1.fName))) (H' := [(1, (.cells [(.d (.int .i64 a1.fKind)), (.d (.str a1.fName)), (.d (.sl (List.map D.str a1.fAliases))), (.d (.sl (List.map TField.enc a1.fFields))), (.d (.sl (List.map D.str a1.fSymbols))), (.d (.bool a1.fHas)), (.d (.str a1.fDefault)), (.d (.int .i64 a1.fItems)), (.d (.sl (List.map (D.int .i64) a1.fBranches))), (.d (.int .i64 a1.fSize))])), (0, (.cells [(.d (.int .i64 a0.fKind)), (.d (.str a0.fName)), (.d (.sl (List.map D.str a0.fAliases))), (.d (.sl (List.map TField.enc a0.fFields))), (.d (.sl (List.map D.str a0.fSymbols))), (.d (.bool a0.fHas)), (.d (.str a0.fDefault)), (.d (.int .i64 a0.fItems)), (.d (.sl (List.map (D.int .i64) a0.fBranches))), (.d (.int .i64 a0.fSize))]))]) rfl rfl trivial rfl rfl rfl rfl rfl ?_
  obtain ⟨r15, e15, h⟩ := bind_some h
  refine RegV.call0 (F235 hmix hc.2.1 e15) rfl rfl rfl rfl (.cons (.refl _) .nil) rfl ?_
  refine RegV.p0 (v := (.d (.bool (decide (r12 = r15))))) rfl rfl rfl ?_
  refine RegV.p0 rfl rfl rfl ?_
  refine RegV.split (fun c17 => ?_) (fun c17 => ?_)
  · have h := cond_pos c17 h
    refine RegV.noS rfl rfl ?_
    refine RegV.noS rfl rfl ?_
    refine RegV.noS rfl rfl ?_
    refine RegV.noS rfl rfl ?_
    refine RegV.noS rfl rfl ?_
    refine RegV.p0 rfl rfl rfl ?_
    refine RegV.p0 rfl rfl rfl ?_
    refine RegV.nil1 (by kernel_rfl) ?_
    have hr := Option.some.inj h
    subst hr
    exact AWc.ret (canQ (N := 19) (k := 0) (l' := [(4, (.d (.bool true)))]) (H' := []) rfl ⟨rfl, [], [], rfl, rfl, ⟨⟨_, rfl, (.refl _)⟩, rfl, trivial⟩,  trivial⟩ (doneA (.inr rfl) rfl ⟨trivial, trivial⟩ (.refl _) hasNil))
  · have h := cond_neg c17 h
    refine RegV.p0 (v := (.ptr 1 2)) rfl rfl rfl ?_
    refine RegV.ld (v := (.d (.sl (List.map D.str a1.fAliases)))) (H' := [(1, (.cells [(.d (.int .i64 a1.fKind)), (.d (.str a1.fName)), (.d (.sl (List.map D.str a1.fAliases))), (.d (.sl (List.map TField.enc a1.fFields))), (.d (.sl (List.map D.str a1.fSymbols))), (.d (.bool a1.fHas)), (.d (.str a1.fDefault)), (.d (.int .i64 a1.fItems)), (.d (.sl (List.map (D.int .i64) a1.fBranches))), (.d (.int .i64 a1.fSize))])), (0, (.cells [(.d (.int .i64 a0.fKind)), (.d (.str a0.fName)), (.d (.sl (List.map D.str a0.fAliases))), (.d (.sl (List.map TField.enc a0.fFields))), (.d (.sl (List.map D.str a0.fSymbols))), (.d (.bool a0.fHas)), (.d (.str a0.fDefault)), (.d (.int .i64 a0.fItems)), (.d (.sl (List.map (D.int .i64) a0.fBranches))), (.d (.int .i64 a0.fSize))]))]) rfl rfl trivial rfl rfl rfl rfl rfl ?_
    refine RegV.p0 (v := (.ptr 0 1)) rfl rfl rfl ?_
    refine RegV.ld (v := (.d (.str a0.fName))) (H' := [(0, (.cells [(.d (.int .i64 a0.fKind)), (.d (.str a0.fName)), (.d (.sl (List.map D.str a0.fAliases))), (.d (.sl (List.map TField.enc a0.fFields))), (.d (.sl (List.map D.str a0.fSymbols))), (.d (.bool a0.fHas)), (.d (.str a0.fDefault)), (.d (.int .i64 a0.fItems)), (.d (.sl (List.map (D.int .i64) a0.fBranches))), (.d (.int .i64 a0.fSize))])), (1, (.cells [(.d (.int .i64 a1.fKind)), (.d (.str a1.fName)), (.d (.sl (List.map D.str a1.fAliases))), (.d (.sl (List.map TField.enc a1.fFields))), (.d (.sl (List.map D.str a1.fSymbols))), (.d (.bool a1.fHas)), (.d (.str a1.fDefault)), (.d (.int .i64 a1.fItems)), (.d (.sl (List.map (D.int .i64) a1.fBranches))), (.d (.int .i64 a1.fSize))]))]) rfl rfl trivial rfl rfl rfl rfl rfl ?_
    obtain ⟨r22, e22, h⟩ := bind_some h
    refine RegV.call0 (F239 hmix hc.2.2 e22) rfl rfl rfl rfl (.cons (.refl _) (.cons (.refl _) .nil)) rfl ?_
    refine RegV.p0 rfl rfl rfl ?_
    refine RegV.p0 rfl rfl rfl ?_
    refine RegV.nil1 (by kernel_rfl) ?_
    have hr := Option.some.inj h
    subst hr
    exact AWc.ret (canQ (N := 19) (k := 0) (l' := [(4, (.d (.bool r22)))]) (H' := []) rfl ⟨rfl, [], [], rfl, rfl, ⟨⟨_, rfl, (.refl _)⟩, rfl, trivial⟩,  trivial⟩ (doneA (.inr rfl) rfl ⟨trivial, trivial⟩ (.refl _) hasNil))
/-- courant/match.kinds -/
def C233 (N : Nat → Nat) : AFunc := { n := 55, params := 2, res := [.tmp 4], body :=
 (.seq (.region false [⟨(some 2), .box (.t 0), none, []⟩,
   ⟨(some 3), .box (.t 1), none, []⟩,
   ⟨(some 4), .mv (.k (.d (.bool false))), none, []⟩])
  (.seq (.block 0 (.seq (.region false [⟨(some 6), .faddr (.t 2) 0, none, []⟩,
      ⟨(some 7), .load (.t 6) 1 false, none, [0]⟩,
      ⟨(some 8), .faddr (.t 3) 0, none, []⟩,
      ⟨(some 9), .load (.t 8) 1 false, none, [2]⟩,
      ⟨(some 10), .bin .neq (.t 7) (.t 9), none, [1, 3]⟩,
      ⟨(some 5), .mv (.t 10), none, [4]⟩])
     (.cond (.t 5) (.seq (.region false [⟨(some 11), .faddr (.t 2) 0, none, []⟩,
        ⟨(some 12), .load (.t 11) 1 false, none, [0]⟩,
        ⟨(some 13), .bin .eql (.t 12) (.k (.d (.int .i64 3))), none, [1]⟩,
        ⟨(some 14), .mv (.t 13), none, [2]⟩,
        ⟨(some 15), .faddr (.t 3) 0, (some (14, true)), [3]⟩,
        ⟨(some 16), .load (.t 15) 1 false, (some (14, true)), [4, 3]⟩,
        ⟨(some 17), .bin .eql (.t 16) (.k (.d (.int .i64 4))), (some (14, true)), [5, 3]⟩,
        ⟨(some 18), .pick (.t 14) (.t 17) (.k (.d (.bool false))), none, [3, 6]⟩,
        ⟨(some 19), .mv (.t 18), none, [7, 3]⟩,
        ⟨(some 20), .faddr (.t 2) 0, (some (19, false)), [8]⟩,
        ⟨(some 21), .load (.t 20) 1 false, (some (19, false)), [9, 8]⟩,
        ⟨(some 22), .bin .eql (.t 21) (.k (.d (.int .i64 8))), (some (19, false)), [10, 8]⟩,
        ⟨(some 23), .mv (.t 22), (some (19, false)), [11, 8]⟩,
        ⟨(some 24), .faddr (.t 3) 0, (some (23, true)), [12]⟩,
        ⟨(some 25), .load (.t 24) 1 false, (some (23, true)), [13, 12]⟩,
        ⟨(some 26), .bin .eql (.t 25) (.k (.d (.int .i64 7))), (some (23, true)), [14, 12]⟩,
        ⟨(some 27), .pick (.t 23) (.t 26) (.k (.d (.bool false))), (some (19, false)), [12, 15, 8]⟩,
        ⟨(some 28), .pick (.t 19) (.k (.d (.bool true))) (.t 27), none, [8, 16]⟩,
        ⟨(some 4), .mv (.t 28), none, [17, 12, 0, 1, 2, 3, 4, 5, 6, 7, 8, 9, 10, 11, 13, 14, 15, 16]⟩])
       .ret)
      (.seq (.region false [⟨(some 30), .faddr (.t 2) 0, none, []⟩,
        ⟨(some 31), .load (.t 30) 1 false, none, [0]⟩,
        ⟨(some 32), .bin .eql (.t 31) (.k (.d (.int .i64 9))), none, [1]⟩,
        ⟨(some 33), .mv (.t 32), none, [2]⟩,
        ⟨(some 34), .faddr (.t 2) 0, (some (33, false)), [3]⟩,
        ⟨(some 35), .load (.t 34) 1 false, (some (33, false)), [4, 3]⟩,
        ⟨(some 36), .bin .eql (.t 35) (.k (.d (.int .i64 10))), (some (33, false)), [5, 3]⟩,
        ⟨(some 37), .pick (.t 33) (.k (.d (.bool true))) (.t 36), none, [3, 6]⟩,
        ⟨(some 29), .mv (.t 37), none, [7, 3]⟩])
       (.cond (.t 29) (.seq (.region false [⟨(some 38), .load (.t 2) 10 true, none, []⟩,
          ⟨(some 39), .load (.t 3) 10 true, none, []⟩,
          ⟨(some 40), .call (.k (.d (.fn (N 234)))) [(.t 38), (.t 39)], none, [0, 1]⟩,
          ⟨(some 4), .mv (.t 40), none, [2, 0, 1]⟩])
         .ret)
        (.seq (.region false [⟨(some 42), .faddr (.t 2) 0, none, []⟩,
          ⟨(some 43), .load (.t 42) 1 false, none, [0]⟩,
          ⟨(some 44), .bin .eql (.t 43) (.k (.d (.int .i64 14))), none, [1]⟩,
          ⟨(some 41), .mv (.t 44), none, [2]⟩])
         (.cond (.t 41) (.seq (.region false [⟨(some 45), .load (.t 2) 10 true, none, []⟩,
            ⟨(some 46), .load (.t 3) 10 true, none, []⟩,
            ⟨(some 47), .call (.k (.d (.fn (N 234)))) [(.t 45), (.t 46)], none, [0, 1]⟩,
            ⟨(some 48), .mv (.t 47), none, [2]⟩,
            ⟨(some 49), .faddr (.t 2) 9, (some (48, true)), [3]⟩,
            ⟨(some 50), .load (.t 49) 1 false, (some (48, true)), [4, 3]⟩,
            ⟨(some 51), .faddr (.t 3) 9, (some (48, true)), [3]⟩,
            ⟨(some 52), .load (.t 51) 1 false, (some (48, true)), [6, 3]⟩,
            ⟨(some 53), .bin .eql (.t 50) (.t 52), (some (48, true)), [5, 7, 3]⟩,
            ⟨(some 54), .pick (.t 48) (.t 53) (.k (.d (.bool false))), none, [3, 8]⟩,
            ⟨(some 4), .mv (.t 54), none, [9, 3, 0, 1, 2, 4, 5, 6, 7, 8]⟩])
           .ret)
          (.skip))))))))
   (.seq (.region false [⟨(some 4), .mv (.k (.d (.bool true))), none, []⟩])
    .ret))) }
def HC233 (P : Program) (N : Nat → Nat) : Prop := HasF P (N 233) (C233 N) ∧ HC234 P N
def f233_j54 (k : Nat) (a0 : TNode) (a1 : TNode) (j54_1 : Bool) : Option Bool := cond j54_1 ((f234 k (TNode.mk a0.fKind a0.fName a0.fAliases a0.fFields a0.fSymbols a0.fHas a0.fDefault a0.fItems a0.fBranches a0.fSize) (TNode.mk a1.fKind a1.fName a1.fAliases a1.fFields a1.fSymbols a1.fHas a1.fDefault a1.fItems a1.fBranches a1.fSize)).bind fun r60 => some r60) (cond (decide (a0.fKind = (14 : Int))) ((f234 k (TNode.mk a0.fKind a0.fName a0.fAliases a0.fFields a0.fSymbols a0.fHas a0.fDefault a0.fItems a0.fBranches a0.fSize) (TNode.mk a1.fKind a1.fName a1.fAliases a1.fFields a1.fSymbols a1.fHas a1.fDefault a1.fItems a1.fBranches a1.fSize)).bind fun r76 => cond r76 (some (decide (a0.fSize = a1.fSize))) (some false)) (some true))
def f233 (k : Nat) (a0 : TNode) (a1 : TNode) : Option Bool := cond (decide (a0.fKind ≠ a1.fKind)) (cond (decide (a0.fKind = (3 : Int))) (cond (decide (a1.fKind = (4 : Int))) (some true) (cond (decide (a0.fKind = (8 : Int))) (some (decide (a1.fKind = (7 : Int)))) (some false))) (cond (decide (a0.fKind = (8 : Int))) (some (decide (a1.fKind = (7 : Int)))) (some false))) (cond (decide (a0.fKind = (9 : Int))) (f233_j54 k a0 a1 true) (f233_j54 k a0 a1 (decide (a0.fKind = (10 : Int)))))
theorem F233 {P : Program} {N : Nat → Nat} (hmix : P.follows .mixedOrders = true) (hc : HC233 P N) {k : Nat} {a0 : TNode} {a1 : TNode} {r : Bool} (h : f233 k a0 a1 = some r) :
    ACalls P (N 233) [(.d (TNode.enc a0)), (.d (TNode.enc a1))] [] (.d (.bool r)) [] := by
  refine acalls_canon (F := C233 N) hc.1 0 0 rfl ?_
  unfold f233 at h
  dsimp only [C233, startL]
  refine AWc.seq ?_
  refine AWc.rg hmix rfl rfl ?_
  refine RegV.evS (own := false) (v := (.ptr 0 0)) (H' := [(0, (.cells [(.d (.int .i64 a0.fKind)), (.d (.str a0.fName)), (.d (.sl (List.map D.str a0.fAliases))), (.d (.sl (List.map TField.enc a0.fFields))), (.d (.sl (List.map D.str a0.fSymbols))), (.d (.bool a0.fHas)), (.d (.str a0.fDefault)), (.d (.int .i64 a0.fItems)), (.d (.sl (List.map (D.int .i64) a0.fBranches))), (.d (.int .i64 a0.fSize))]))]) (c' := 1) rfl rfl trivial rfl rfl rfl rfl rfl rfl ?_
  refine RegV.evS (own := false) (v := (.ptr 1 0)) (H' := [(1, (.cells [(.d (.int .i64 a1.fKind)), (.d (.str a1.fName)), (.d (.sl (List.map D.str a1.fAliases))), (.d (.sl (List.map TField.enc a1.fFields))), (.d (.sl (List.map D.str a1.fSymbols))), (.d (.bool a1.fHas)), (.d (.str a1.fDefault)), (.d (.int .i64 a1.fItems)), (.d (.sl (List.map (D.int .i64) a1.fBranches))), (.d (.int .i64 a1.fSize))])), (0, (.cells [(.d (.int .i64 a0.fKind)), (.d (.str a0.fName)), (.d (.sl (List.map D.str a0.fAliases))), (.d (.sl (List.map TField.enc a0.fFields))), (.d (.sl (List.map D.str a0.fSymbols))), (.d (.bool a0.fHas)), (.d (.str a0.fDefault)), (.d (.int .i64 a0.fItems)), (.d (.sl (List.map (D.int .i64) a0.fBranches))), (.d (.int .i64 a0.fSize))]))]) (c' := 2) rfl rfl trivial rfl rfl rfl rfl rfl rfl ?_
  refine RegV.p0 rfl rfl rfl ?_
  refine RegV.nil0 ?_
  refine AWc.seq ?_
  refine AWc.block ?_
  refine AWc.seq ?_
  refine AWc.rg hmix rfl rfl ?_
  refine RegV.p0 (v := (.ptr 0 0)) rfl rfl rfl ?_
  refine RegV.ld (v := (.d (.int .i64 a0.fKind))) (H' := [(0, (.cells [(.d (.int .i64 a0.fKind)), (.d (.str a0.fName)), (.d (.sl (List.map D.str a0.fAliases))), (.d (.sl (List.map TField.enc a0.fFields))), (.d (.sl (List.map D.str a0.fSymbols))), (.d (.bool a0.fHas)), (.d (.str a0.fDefault)), (.d (.int .i64 a0.fItems)), (.d (.sl (List.map (D.int .i64) a0.fBranches))), (.d (.int .i64 a0.fSize))])), (1, (.cells [(.d (.int .i64 a1.fKind)), (.d (.str a1.fName)), (.d (.sl (List.map D.str a1.fAliases))), (.d (.sl (List.map TField.enc a1.fFields))), (.d (.sl (List.map D.str a1.fSymbols))), (.d (.bool a1.fHas)), (.d (.str a1.fDefault)), (.d (.int .i64 a1.fItems)), (.d (.sl (List.map (D.int .i64) a1.fBranches))), (.d (.int .i64 a1.fSize))]))]) rfl rfl trivial rfl rfl rfl rfl rfl ?_
  refine RegV.p0 (v := (.ptr 1 0)) rfl rfl rfl ?_
  refine RegV.ld (v := (.d (.int .i64 a1.fKind))) (H' := [(1, (.cells [(.d (.int .i64 a1.fKind)), (.d (.str a1.fName)), (.d (.sl (List.map D.str a1.fAliases))), (.d (.sl (List.map TField.enc a1.fFields))), (.d (.sl (List.map D.str a1.fSymbols))), (.d (.bool a1.fHas)), (.d (.str a1.fDefault)), (.d (.int .i64 a1.fItems)), (.d (.sl (List.map (D.int .i64) a1.fBranches))), (.d (.int .i64 a1.fSize))])), (0, (.cells [(.d (.int .i64 a0.fKind)), (.d (.str a0.fName)), (.d (.sl (List.map D.str a0.fAliases))), (.d (.sl (List.map TField.enc a0.fFields))), (.d (.sl (List.map D.str a0.fSymbols))), (.d (.bool a0.fHas)), (.d (.str a0.fDefault)), (.d (.int .i64 a0.fItems)), (.d (.sl (List.map (D.int .i64) a0.fBranches))), (.d (.int .i64 a0.fSize))]))]) rfl rfl trivial rfl rfl rfl rfl rfl ?_
  refine RegV.p0 (v := (.d (.bool (decide (a0.fKind ≠ a1.fKind))))) rfl rfl rfl ?_
  refine RegV.p0 rfl rfl rfl ?_
  refine RegV.nil0 ?_
  refine AWc.cond rfl (fun c18 => ?_) (fun c18 => ?_)
  · have h := cond_pos c18 h
    refine AWc.seq ?_
    refine AWc.rg hmix rfl rfl ?_
    refine RegV.p0 (v := (.ptr 0 0)) rfl rfl rfl ?_
    refine RegV.ld (v := (.d (.int .i64 a0.fKind))) (H' := [(0, (.cells [(.d (.int .i64 a0.fKind)), (.d (.str a0.fName)), (.d (.sl (List.map D.str a0.fAliases))), (.d (.sl (List.map TField.enc a0.fFields))), (.d (.sl (List.map D.str a0.fSymbols))), (.d (.bool a0.fHas)), (.d (.str a0.fDefault)), (.d (.int .i64 a0.fItems)), (.d (.sl (List.map (D.int .i64) a0.fBranches))), (.d (.int .i64 a0.fSize))])), (1, (.cells [(.d (.int .i64 a1.fKind)), (.d (.str a1.fName)), (.d (.sl (List.map D.str a1.fAliases))), (.d (.sl (List.map TField.enc a1.fFields))), (.d (.sl (List.map D.str a1.fSymbols))), (.d (.bool a1.fHas)), (.d (.str a1.fDefault)), (.d (.int .i64 a1.fItems)), (.d (.sl (List.map (D.int .i64) a1.fBranches))), (.d (.int .i64 a1.fSize))]))]) rfl rfl trivial rfl rfl rfl rfl rfl ?_
    refine RegV.p0 (v := (.d (.bool (decide (a0.fKind = (3 : Int)))))) rfl rfl rfl ?_
    refine RegV.p0 rfl rfl rfl ?_
    refine RegV.split (fun c25 => ?_) (fun c25 => ?_)
    · have h := cond_pos c25 h
      refine RegV.p0 (v := (.ptr 1 0)) rfl rfl rfl ?_
      refine RegV.ld (v := (.d (.int .i64 a1.fKind))) (H' := [(1, (.cells [(.d (.int .i64 a1.fKind)), (.d (.str a1.fName)), (.d (.sl (List.map D.str a1.fAliases))), (.d (.sl (List.map TField.enc a1.fFields))), (.d (.sl (List.map D.str a1.fSymbols))), (.d (.bool a1.fHas)), (.d (.str a1.fDefault)), (.d (.int .i64 a1.fItems)), (.d (.sl (List.map (D.int .i64) a1.fBranches))), (.d (.int .i64 a1.fSize))])), (0, (.cells [(.d (.int .i64 a0.fKind)), (.d (.str a0.fName)), (.d (.sl (List.map D.str a0.fAliases))), (.d (.sl (List.map TField.enc a0.fFields))), (.d (.sl (List.map D.str a0.fSymbols))), (.d (.bool a0.fHas)), (.d (.str a0.fDefault)), (.d (.int .i64 a0.fItems)), (.d (.sl (List.map (D.int .i64) a0.fBranches))), (.d (.int .i64 a0.fSize))]))]) rfl rfl trivial rfl rfl rfl rfl rfl ?_
      refine RegV.p0 (v := (.d (.bool (decide (a1.fKind = (4 : Int)))))) rfl rfl rfl ?_
      refine RegV.p0 rfl rfl rfl ?_
      refine RegV.p0 rfl rfl rfl ?_
      refine RegV.split (fun c30 => ?_) (fun c30 => ?_)
      · have h := cond_pos c30 h
        refine RegV.noS rfl rfl ?_
        refine RegV.noS rfl rfl ?_
        refine RegV.noS rfl rfl ?_
        refine RegV.noS rfl rfl ?_
        refine RegV.noS rfl rfl ?_
        refine RegV.noS rfl rfl ?_
        refine RegV.noS rfl rfl ?_
        refine RegV.noS rfl rfl ?_
        refine RegV.p0 rfl rfl rfl ?_
        refine RegV.p0 rfl rfl rfl ?_
        refine RegV.nil0 ?_
        have hr := Option.some.inj h
        subst hr
        exact AWc.ret (canQ (N := 55) (k := 0) (l' := [(4, (.d (.bool true)))]) (H' := []) rfl ⟨rfl, [], [], rfl, rfl, ⟨⟨_, rfl, (.refl _)⟩, rfl, trivial⟩,  trivial⟩ (doneA (.inr rfl) rfl ⟨trivial, trivial⟩ (.refl _) hasNil))
      · have h := cond_neg c30 h
        refine RegV.p0 (v := (.ptr 0 0)) rfl rfl rfl ?_
        refine RegV.ld (v := (.d (.int .i64 a0.fKind))) (H' := [(0, (.cells [(.d (.int .i64 a0.fKind)), (.d (.str a0.fName)), (.d (.sl (List.map D.str a0.fAliases))), (.d (.sl (List.map TField.enc a0.fFields))), (.d (.sl (List.map D.str a0.fSymbols))), (.d (.bool a0.fHas)), (.d (.str a0.fDefault)), (.d (.int .i64 a0.fItems)), (.d (.sl (List.map (D.int .i64) a0.fBranches))), (.d (.int .i64 a0.fSize))])), (1, (.cells [(.d (.int .i64 a1.fKind)), (.d (.str a1.fName)), (.d (.sl (List.map D.str a1.fAliases))), (.d (.sl (List.map TField.enc a1.fFields))), (.d (.sl (List.map D.str a1.fSymbols))), (.d (.bool a1.fHas)), (.d (.str a1.fDefault)), (.d (.int .i64 a1.fItems)), (.d (.sl (List.map (D.int .i64) a1.fBranches))), (.d (.int .i64 a1.fSize))]))]) rfl rfl trivial rfl rfl rfl rfl rfl ?_
        refine RegV.p0 (v := (.d (.bool (decide (a0.fKind = (8 : Int)))))) rfl rfl rfl ?_
        refine RegV.p0 rfl rfl rfl ?_
        refine RegV.split (fun c34 => ?_) (fun c34 => ?_)
        · have h := cond_pos c34 h
          refine RegV.p0 (v := (.ptr 1 0)) rfl rfl rfl ?_
          refine RegV.ld (v := (.d (.int .i64 a1.fKind))) (H' := [(1, (.cells [(.d (.int .i64 a1.fKind)), (.d (.str a1.fName)), (.d (.sl (List.map D.str a1.fAliases))), (.d (.sl (List.map TField.enc a1.fFields))), (.d (.sl (List.map D.str a1.fSymbols))), (.d (.bool a1.fHas)), (.d (.str a1.fDefault)), (.d (.int .i64 a1.fItems)), (.d (.sl (List.map (D.int .i64) a1.fBranches))), (.d (.int .i64 a1.fSize))])), (0, (.cells [(.d (.int .i64 a0.fKind)), (.d (.str a0.fName)), (.d (.sl (List.map D.str a0.fAliases))), (.d (.sl (List.map TField.enc a0.fFields))), (.d (.sl (List.map D.str a0.fSymbols))), (.d (.bool a0.fHas)), (.d (.str a0.fDefault)), (.d (.int .i64 a0.fItems)), (.d (.sl (List.map (D.int .i64) a0.fBranches))), (.d (.int .i64 a0.fSize))]))]) rfl rfl trivial rfl rfl rfl rfl rfl ?_
          refine RegV.p0 (v := (.d (.bool (decide (a1.fKind = (7 : Int)))))) rfl rfl rfl ?_
          refine RegV.p0 rfl rfl rfl ?_
          refine RegV.p0 rfl rfl rfl ?_
          refine RegV.p0 rfl rfl rfl ?_
          refine RegV.nil0 ?_
          have hr := Option.some.inj h
          subst hr
          exact AWc.ret (canQ (N := 55) (k := 0) (l' := [(4, (.d (.bool (decide (a1.fKind = (7 : Int))))))]) (H' := []) rfl ⟨rfl, [], [], rfl, rfl, ⟨⟨_, rfl, (.refl _)⟩, rfl, trivial⟩,  trivial⟩ (doneA (.inr rfl) rfl ⟨trivial, trivial⟩ (.refl _) hasNil))
        · have h := cond_neg c34 h
          refine RegV.noS rfl rfl ?_
          refine RegV.noS rfl rfl ?_
          refine RegV.noS rfl rfl ?_
          refine RegV.p0 rfl rfl rfl ?_
          refine RegV.p0 rfl rfl rfl ?_
          refine RegV.p0 rfl rfl rfl ?_
          refine RegV.nil0 ?_
          have hr := Option.some.inj h
          subst hr
          exact AWc.ret (canQ (N := 55) (k := 0) (l' := [(4, (.d (.bool false)))]) (H' := []) rfl ⟨rfl, [], [], rfl, rfl, ⟨⟨_, rfl, (.refl _)⟩, rfl, trivial⟩,  trivial⟩ (doneA (.inr rfl) rfl ⟨trivial, trivial⟩ (.refl _) hasNil))
    · have h := cond_neg c25 h
      refine RegV.noS rfl rfl ?_
      refine RegV.noS rfl rfl ?_
      refine RegV.noS rfl rfl ?_
      refine RegV.p0 rfl rfl rfl ?_
      refine RegV.p0 rfl rfl rfl ?_
      refine RegV.p0 (v := (.ptr 0 0)) rfl rfl rfl ?_
      refine RegV.ld (v := (.d (.int .i64 a0.fKind))) (H' := [(0, (.cells [(.d (.int .i64 a0.fKind)), (.d (.str a0.fName)), (.d (.sl (List.map D.str a0.fAliases))), (.d (.sl (List.map TField.enc a0.fFields))), (.d (.sl (List.map D.str a0.fSymbols))), (.d (.bool a0.fHas)), (.d (.str a0.fDefault)), (.d (.int .i64 a0.fItems)), (.d (.sl (List.map (D.int .i64) a0.fBranches))), (.d (.int .i64 a0.fSize))])), (1, (.cells [(.d (.int .i64 a1.fKind)), (.d (.str a1.fName)), (.d (.sl (List.map D.str a1.fAliases))), (.d (.sl (List.map TField.enc a1.fFields))), (.d (.sl (List.map D.str a1.fSymbols))), (.d (.bool a1.fHas)), (.d (.str a1.fDefault)), (.d (.int .i64 a1.fItems)), (.d (.sl (List.map (D.int .i64) a1.fBranches))), (.d (.int .i64 a1.fSize))]))]) rfl rfl trivial rfl rfl rfl rfl rfl ?_
      refine RegV.p0 (v := (.d (.bool (decide (a0.fKind = (8 : Int)))))) rfl rfl rfl ?_
      refine RegV.p0 rfl rfl rfl ?_
      refine RegV.split (fun c34 => ?_) (fun c34 => ?_)
      · have h := cond_pos c34 h
        refine RegV.p0 (v := (.ptr 1 0)) rfl rfl rfl ?_
        refine RegV.ld (v := (.d (.int .i64 a1.fKind))) (H' := [(1, (.cells [(.d (.int .i64 a1.fKind)), (.d (.str a1.fName)), (.d (.sl (List.map D.str a1.fAliases))), (.d (.sl (List.map TField.enc a1.fFields))), (.d (.sl (List.map D.str a1.fSymbols))), (.d (.bool a1.fHas)), (.d (.str a1.fDefault)), (.d (.int .i64 a1.fItems)), (.d (.sl (List.map (D.int .i64) a1.fBranches))), (.d (.int .i64 a1.fSize))])), (0, (.cells [(.d (.int .i64 a0.fKind)), (.d (.str a0.fName)), (.d (.sl (List.map D.str a0.fAliases))), (.d (.sl (List.map TField.enc a0.fFields))), (.d (.sl (List.map D.str a0.fSymbols))), (.d (.bool a0.fHas)), (.d (.str a0.fDefault)), (.d (.int .i64 a0.fItems)), (.d (.sl (List.map (D.int .i64) a0.fBranches))), (.d (.int .i64 a0.fSize))]))]) rfl rfl trivial rfl rfl rfl rfl rfl ?_
        refine RegV.p0 (v := (.d (.bool (decide (a1.fKind = (7 : Int)))))) rfl rfl rfl ?_
        refine RegV.p0 rfl rfl rfl ?_
        refine RegV.p0 rfl rfl rfl ?_
        refine RegV.p0 rfl rfl rfl ?_
        refine RegV.nil0 ?_
        have hr := Option.some.inj h
        subst hr
        exact AWc.ret (canQ (N := 55) (k := 0) (l' := [(4, (.d (.bool (decide (a1.fKind = (7 : Int))))))]) (H' := []) rfl ⟨rfl, [], [], rfl, rfl, ⟨⟨_, rfl, (.refl _)⟩, rfl, trivial⟩,  trivial⟩ (doneA (.inr rfl) rfl ⟨trivial, trivial⟩ (.refl _) hasNil))
      · have h := cond_neg c34 h
        refine RegV.noS rfl rfl ?_
        refine RegV.noS rfl rfl ?_
        refine RegV.noS rfl rfl ?_
        refine RegV.p0 rfl rfl rfl ?_
        refine RegV.p0 rfl rfl rfl ?_
        refine RegV.p0 rfl rfl rfl ?_
        refine RegV.nil0 ?_
        have hr := Option.some.inj h
        subst hr
        exact AWc.ret (canQ (N := 55) (k := 0) (l' := [(4, (.d (.bool false)))]) (H' := []) rfl ⟨rfl, [], [], rfl, rfl, ⟨⟨_, rfl, (.refl _)⟩, rfl, trivial⟩,  trivial⟩ (doneA (.inr rfl) rfl ⟨trivial, trivial⟩ (.refl _) hasNil))
  · have h := cond_neg c18 h
    refine AWc.seqS (N := 55) 2 (fun (z : Bool) => [(2, (.ptr 0 0)), (3, (.ptr 1 0)), (29, (.d (.bool z)))]) (fun z => [(0, (.cells [(.d (.int .i64 a0.fKind)), (.d (.str a0.fName)), (.d (.sl (List.map D.str a0.fAliases))), (.d (.sl (List.map TField.enc a0.fFields))), (.d (.sl (List.map D.str a0.fSymbols))), (.d (.bool a0.fHas)), (.d (.str a0.fDefault)), (.d (.int .i64 a0.fItems)), (.d (.sl (List.map (D.int .i64) a0.fBranches))), (.d (.int .i64 a0.fSize))])), (1, (.cells [(.d (.int .i64 a1.fKind)), (.d (.str a1.fName)), (.d (.sl (List.map D.str a1.fAliases))), (.d (.sl (List.map TField.enc a1.fFields))), (.d (.sl (List.map D.str a1.fSymbols))), (.d (.bool a1.fHas)), (.d (.str a1.fDefault)), (.d (.int .i64 a1.fItems)), (.d (.sl (List.map (D.int .i64) a1.fBranches))), (.d (.int .i64 a1.fSize))]))]) (fun z => f233_j54 k a0 a1 z = some r) rfl_le ?_ ?_
    · refine AWc.rg hmix rfl rfl ?_
      refine RegV.p0 (v := (.ptr 0 0)) rfl rfl rfl ?_
      refine RegV.ld (v := (.d (.int .i64 a0.fKind))) (H' := [(0, (.cells [(.d (.int .i64 a0.fKind)), (.d (.str a0.fName)), (.d (.sl (List.map D.str a0.fAliases))), (.d (.sl (List.map TField.enc a0.fFields))), (.d (.sl (List.map D.str a0.fSymbols))), (.d (.bool a0.fHas)), (.d (.str a0.fDefault)), (.d (.int .i64 a0.fItems)), (.d (.sl (List.map (D.int .i64) a0.fBranches))), (.d (.int .i64 a0.fSize))])), (1, (.cells [(.d (.int .i64 a1.fKind)), (.d (.str a1.fName)), (.d (.sl (List.map D.str a1.fAliases))), (.d (.sl (List.map TField.enc a1.fFields))), (.d (.sl (List.map D.str a1.fSymbols))), (.d (.bool a1.fHas)), (.d (.str a1.fDefault)), (.d (.int .i64 a1.fItems)), (.d (.sl (List.map (D.int .i64) a1.fBranches))), (.d (.int .i64 a1.fSize))]))]) rfl rfl trivial rfl rfl rfl rfl rfl ?_
      refine RegV.p0 (v := (.d (.bool (decide (a0.fKind = (9 : Int)))))) rfl rfl rfl ?_
      refine RegV.p0 rfl rfl rfl ?_
      refine RegV.split (fun c48 => ?_) (fun c48 => ?_)
      · have h := cond_pos c48 h
        refine RegV.noS rfl rfl ?_
        refine RegV.noS rfl rfl ?_
        refine RegV.noS rfl rfl ?_
        refine RegV.p0 rfl rfl rfl ?_
        refine RegV.p0 rfl rfl rfl ?_
        refine RegV.nil0 ?_
        exact ⟨true, h, ⟨rfl, [], [], rfl, rfl, ⟨⟨_, rfl, (.refl _)⟩, rfl, ⟨⟨_, rfl, (.refl _)⟩, rfl, ⟨⟨_, rfl, (.refl _)⟩, rfl, trivial⟩⟩⟩, ⟨⟨_, rfl, (.refl _)⟩, rfl, rfl, ⟨⟨_, rfl, (.refl _)⟩, rfl, rfl, trivial⟩⟩⟩⟩
      · have h := cond_neg c48 h
        refine RegV.p0 (v := (.ptr 0 0)) rfl rfl rfl ?_
        refine RegV.ld (v := (.d (.int .i64 a0.fKind))) (H' := [(0, (.cells [(.d (.int .i64 a0.fKind)), (.d (.str a0.fName)), (.d (.sl (List.map D.str a0.fAliases))), (.d (.sl (List.map TField.enc a0.fFields))), (.d (.sl (List.map D.str a0.fSymbols))), (.d (.bool a0.fHas)), (.d (.str a0.fDefault)), (.d (.int .i64 a0.fItems)), (.d (.sl (List.map (D.int .i64) a0.fBranches))), (.d (.int .i64 a0.fSize))])), (1, (.cells [(.d (.int .i64 a1.fKind)), (.d (.str a1.fName)), (.d (.sl (List.map D.str a1.fAliases))), (.d (.sl (List.map TField.enc a1.fFields))), (.d (.sl (List.map D.str a1.fSymbols))), (.d (.bool a1.fHas)), (.d (.str a1.fDefault)), (.d (.int .i64 a1.fItems)), (.d (.sl (List.map (D.int .i64) a1.fBranches))), (.d (.int .i64 a1.fSize))]))]) rfl rfl trivial rfl rfl rfl rfl rfl ?_
        refine RegV.p0 (v := (.d (.bool (decide (a0.fKind = (10 : Int)))))) rfl rfl rfl ?_
        refine RegV.p0 rfl rfl rfl ?_
        refine RegV.p0 rfl rfl rfl ?_
        refine RegV.nil0 ?_
        exact ⟨(decide (a0.fKind = (10 : Int))), h, ⟨rfl, [], [], rfl, rfl, ⟨⟨_, rfl, (.refl _)⟩, rfl, ⟨⟨_, rfl, (.refl _)⟩, rfl, ⟨⟨_, rfl, (.refl _)⟩, rfl, trivial⟩⟩⟩, ⟨⟨_, rfl, (.refl _)⟩, rfl, rfl, ⟨⟨_, rfl, (.refl _)⟩, rfl, rfl, trivial⟩⟩⟩⟩
    · intro j54_1 h
      unfold f233_j54 at h
      refine AWc.cond rfl (fun c54 => ?_) (fun c54 => ?_)
      · have h := cond_pos c54 h
        refine AWc.seq ?_
        refine AWc.rg hmix rfl rfl ?_
        refine RegV.ld (v := (.d (.agg [(.int .i64 a0.fKind), (.str a0.fName), (.sl (List.map D.str a0.fAliases)), (.sl (List.map TField.enc a0.fFields)), (.sl (List.map D.str a0.fSymbols)), (.bool a0.fHas), (.str a0.fDefault), (.int .i64 a0.fItems), (.sl (List.map (D.int .i64) a0.fBranches)), (.int .i64 a0.fSize)]))) (H' := [(0, (.cells [(.d (.int .i64 a0.fKind)), (.d (.str a0.fName)), (.d (.sl (List.map D.str a0.fAliases))), (.d (.sl (List.map TField.enc a0.fFields))), (.d (.sl (List.map D.str a0.fSymbols))), (.d (.bool a0.fHas)), (.d (.str a0.fDefault)), (.d (.int .i64 a0.fItems)), (.d (.sl (List.map (D.int .i64) a0.fBranches))), (.d (.int .i64 a0.fSize))])), (1, (.cells [(.d (.int .i64 a1.fKind)), (.d (.str a1.fName)), (.d (.sl (List.map D.str a1.fAliases))), (.d (.sl (List.map TField.enc a1.fFields))), (.d (.sl (List.map D.str a1.fSymbols))), (.d (.bool a1.fHas)), (.d (.str a1.fDefault)), (.d (.int .i64 a1.fItems)), (.d (.sl (List.map (D.int .i64) a1.fBranches))), (.d (.int .i64 a1.fSize))]))]) rfl rfl (Nat.le_of_ble_eq_true rfl) rfl rfl rfl rfl rfl ?_
        refine RegV.ld (v := (.d (.agg [(.int .i64 a1.fKind), (.str a1.fName), (.sl (List.map D.str a1.fAliases)), (.sl (List.map TField.enc a1.fFields)), (.sl (List.map D.str a1.fSymbols)), (.bool a1.fHas), (.str a1.fDefault), (.int .i64 a1.fItems), (.sl (List.map (D.int .i64) a1.fBranches)), (.int .i64 a1.fSize)]))) (H' := [(1, (.cells [(.d (.int .i64 a1.fKind)), (.d (.str a1.fName)), (.d (.sl (List.map D.str a1.fAliases))), (.d (.sl (List.map TField.enc a1.fFields))), (.d (.sl (List.map D.str a1.fSymbols))), (.d (.bool a1.fHas)), (.d (.str a1.fDefault)), (.d (.int .i64 a1.fItems)), (.d (.sl (List.map (D.int .i64) a1.fBranches))), (.d (.int .i64 a1.fSize))])), (0, (.cells [(.d (.int .i64 a0.fKind)), (.d (.str a0.fName)), (.d (.sl (List.map D.str a0.fAliases))), (.d (.sl (List.map TField.enc a0.fFields))), (.d (.sl (List.map D.str a0.fSymbols))), (.d (.bool a0.fHas)), (.d (.str a0.fDefault)), (.d (.int .i64 a0.fItems)), (.d (.sl (List.map (D.int .i64) a0.fBranches))), (.d (.int .i64 a0.fSize))]))]) rfl rfl (Nat.le_of_ble_eq_true rfl) rfl rfl rfl rfl rfl ?_
        obtain ⟨r60, e60, h⟩ := bind_some h
        refine RegV.call0 (F234 hmix hc.2 e60) rfl rfl rfl rfl (.cons (.refl _) (.cons (.refl _) .nil)) rfl ?_
        refine RegV.p0 rfl rfl rfl ?_
        refine RegV.nil0 ?_
        have hr := Option.some.inj h
        subst hr
        exact AWc.ret (canQ (N := 55) (k := 0) (l' := [(4, (.d (.bool r60)))]) (H' := []) rfl ⟨rfl, [], [], rfl, rfl, ⟨⟨_, rfl, (.refl _)⟩, rfl, trivial⟩,  trivial⟩ (doneA (.inr rfl) rfl ⟨trivial, trivial⟩ (.refl _) hasNil))
      · have h := cond_neg c54 h
        refine AWc.seq ?_
        refine AWc.rg hmix rfl rfl ?_
        refine RegV.p0 (v := (.ptr 0 0)) rfl rfl rfl ?_
        refine RegV.ld (v := (.d (.int .i64 a0.fKind))) (H' := [(0, (.cells [(.d (.int .i64 a0.fKind)), (.d (.str a0.fName)), (.d (.sl (List.map D.str a0.fAliases))), (.d (.sl (List.map TField.enc a0.fFields))), (.d (.sl (List.map D.str a0.fSymbols))), (.d (.bool a0.fHas)), (.d (.str a0.fDefault)), (.d (.int .i64 a0.fItems)), (.d (.sl (List.map (D.int .i64) a0.fBranches))), (.d (.int .i64 a0.fSize))])), (1, (.cells [(.d (.int .i64 a1.fKind)), (.d (.str a1.fName)), (.d (.sl (List.map D.str a1.fAliases))), (.d (.sl (List.map TField.enc a1.fFields))), (.d (.sl (List.map D.str a1.fSymbols))), (.d (.bool a1.fHas)), (.d (.str a1.fDefault)), (.d (.int .i64 a1.fItems)), (.d (.sl (List.map (D.int .i64) a1.fBranches))), (.d (.int .i64 a1.fSize))]))]) rfl rfl trivial rfl rfl rfl rfl rfl ?_
        refine RegV.p0 (v := (.d (.bool (decide (a0.fKind = (14 : Int)))))) rfl rfl rfl ?_
        refine RegV.p0 rfl rfl rfl ?_
        refine RegV.nil0 ?_
        refine AWc.cond rfl (fun c70 => ?_) (fun c70 => ?_)
        · have h := cond_pos c70 h
          refine AWc.seq ?_
          refine AWc.rg hmix rfl rfl ?_
          refine RegV.ld (v := (.d (.agg [(.int .i64 a0.fKind), (.str a0.fName), (.sl (List.map D.str a0.fAliases)), (.sl (List.map TField.enc a0.fFields)), (.sl (List.map D.str a0.fSymbols)), (.bool a0.fHas), (.str a0.fDefault), (.int .i64 a0.fItems), (.sl (List.map (D.int .i64) a0.fBranches)), (.int .i64 a0.fSize)]))) (H' := [(0, (.cells [(.d (.int .i64 a0.fKind)), (.d (.str a0.fName)), (.d (.sl (List.map D.str a0.fAliases))), (.d (.sl (List.map TField.enc a0.fFields))), (.d (.sl (List.map D.str a0.fSymbols))), (.d (.bool a0.fHas)), (.d (.str a0.fDefault)), (.d (.int .i64 a0.fItems)), (.d (.sl (List.map (D.int .i64) a0.fBranches))), (.d (.int .i64 a0.fSize))])), (1, (.cells [(.d (.int .i64 a1.fKind)), (.d (.str a1.fName)), (.d (.sl (List.map D.str a1.fAliases))), (.d (.sl (List.map TField.enc a1.fFields))), (.d (.sl (List.map D.str a1.fSymbols))), (.d (.bool a1.fHas)), (.d (.str a1.fDefault)), (.d (.int .i64 a1.fItems)), (.d (.sl (List.map (D.int .i64) a1.fBranches))), (.d (.int .i64 a1.fSize))]))]) rfl rfl (Nat.le_of_ble_eq_true rfl) rfl rfl rfl rfl rfl ?_
          refine RegV.ld (v := (.d (.agg [(.int .i64 a1.fKind), (.str a1.fName), (.sl (List.map D.str a1.fAliases)), (.sl (List.map TField.enc a1.fFields)), (.sl (List.map D.str a1.fSymbols)), (.bool a1.fHas), (.str a1.fDefault), (.int .i64 a1.fItems), (.sl (List.map (D.int .i64) a1.fBranches)), (.int .i64 a1.fSize)]))) (H' := [(1, (.cells [(.d (.int .i64 a1.fKind)), (.d (.str a1.fName)), (.d (.sl (List.map D.str a1.fAliases))), (.d (.sl (List.map TField.enc a1.fFields))), (.d (.sl (List.map D.str a1.fSymbols))), (.d (.bool a1.fHas)), (.d (.str a1.fDefault)), (.d (.int .i64 a1.fItems)), (.d (.sl (List.map (D.int .i64) a1.fBranches))), (.d (.int .i64 a1.fSize))])), (0, (.cells [(.d (.int .i64 a0.fKind)), (.d (.str a0.fName)), (.d (.sl (List.map D.str a0.fAliases))), (.d (.sl (List.map TField.enc a0.fFields))), (.d (.sl (List.map D.str a0.fSymbols))), (.d (.bool a0.fHas)), (.d (.str a0.fDefault)), (.d (.int .i64 a0.fItems)), (.d (.sl (List.map (D.int .i64) a0.fBranches))), (.d (.int .i64 a0.fSize))]))]) rfl rfl (Nat.le_of_ble_eq_true rfl) rfl rfl rfl rfl rfl ?_
          obtain ⟨r76, e76, h⟩ := bind_some h
          refine RegV.call0 (F234 hmix hc.2 e76) rfl rfl rfl rfl (.cons (.refl _) (.cons (.refl _) .nil)) rfl ?_
          refine RegV.p0 rfl rfl rfl ?_
          refine RegV.split (fun c77 => ?_) (fun c77 => ?_)
          · have h := cond_pos c77 h
            refine RegV.p0 (v := (.ptr 0 9)) rfl rfl rfl ?_
            refine RegV.ld (v := (.d (.int .i64 a0.fSize))) (H' := [(0, (.cells [(.d (.int .i64 a0.fKind)), (.d (.str a0.fName)), (.d (.sl (List.map D.str a0.fAliases))), (.d (.sl (List.map TField.enc a0.fFields))), (.d (.sl (List.map D.str a0.fSymbols))), (.d (.bool a0.fHas)), (.d (.str a0.fDefault)), (.d (.int .i64 a0.fItems)), (.d (.sl (List.map (D.int .i64) a0.fBranches))), (.d (.int .i64 a0.fSize))])), (1, (.cells [(.d (.int .i64 a1.fKind)), (.d (.str a1.fName)), (.d (.sl (List.map D.str a1.fAliases))), (.d (.sl (List.map TField.enc a1.fFields))), (.d (.sl (List.map D.str a1.fSymbols))), (.d (.bool a1.fHas)), (.d (.str a1.fDefault)), (.d (.int .i64 a1.fItems)), (.d (.sl (List.map (D.int .i64) a1.fBranches))), (.d (.int .i64 a1.fSize))]))]) rfl rfl trivial rfl rfl rfl rfl rfl ?_
            refine RegV.p0 (v := (.ptr 1 9)) rfl rfl rfl ?_
            refine RegV.ld (v := (.d (.int .i64 a1.fSize))) (H' := [(1, (.cells [(.d (.int .i64 a1.fKind)), (.d (.str a1.fName)), (.d (.sl (List.map D.str a1.fAliases))), (.d (.sl (List.map TField.enc a1.fFields))), (.d (.sl (List.map D.str a1.fSymbols))), (.d (.bool a1.fHas)), (.d (.str a1.fDefault)), (.d (.int .i64 a1.fItems)), (.d (.sl (List.map (D.int .i64) a1.fBranches))), (.d (.int .i64 a1.fSize))])), (0, (.cells [(.d (.int .i64 a0.fKind)), (.d (.str a0.fName)), (.d (.sl (List.map D.str a0.fAliases))), (.d (.sl (List.map TField.enc a0.fFields))), (.d (.sl (List.map D.str a0.fSymbols))), (.d (.bool a0.fHas)), (.d (.str a0.fDefault)), (.d (.int .i64 a0.fItems)), (.d (.sl (List.map (D.int .i64) a0.fBranches))), (.d (.int .i64 a0.fSize))]))]) rfl rfl trivial rfl rfl rfl rfl rfl ?_
            refine RegV.p0 (v := (.d (.bool (decide (a0.fSize = a1.fSize))))) rfl rfl rfl ?_
            refine RegV.p0 rfl rfl rfl ?_
            refine RegV.p0 rfl rfl rfl ?_
            refine RegV.nil0 ?_
            have hr := Option.some.inj h
            subst hr
            exact AWc.ret (canQ (N := 55) (k := 0) (l' := [(4, (.d (.bool (decide (a0.fSize = a1.fSize)))))]) (H' := []) rfl ⟨rfl, [], [], rfl, rfl, ⟨⟨_, rfl, (.refl _)⟩, rfl, trivial⟩,  trivial⟩ (doneA (.inr rfl) rfl ⟨trivial, trivial⟩ (.refl _) hasNil))
          · have h := cond_neg c77 h
            refine RegV.noS rfl rfl ?_
            refine RegV.noS rfl rfl ?_
            refine RegV.noS rfl rfl ?_
            refine RegV.noS rfl rfl ?_
            refine RegV.noS rfl rfl ?_
            refine RegV.p0 rfl rfl rfl ?_
            refine RegV.p0 rfl rfl rfl ?_
            refine RegV.nil0 ?_
            have hr := Option.some.inj h
            subst hr
            exact AWc.ret (canQ (N := 55) (k := 0) (l' := [(4, (.d (.bool false)))]) (H' := []) rfl ⟨rfl, [], [], rfl, rfl, ⟨⟨_, rfl, (.refl _)⟩, rfl, trivial⟩,  trivial⟩ (doneA (.inr rfl) rfl ⟨trivial, trivial⟩ (.refl _) hasNil))
        · have h := cond_neg c70 h
          refine AWc.skip ?_
          refine AWc.seq ?_
          refine AWc.rg hmix rfl rfl ?_
          refine RegV.p0 rfl rfl rfl ?_
          refine RegV.nil0 ?_
          have hr := Option.some.inj h
          subst hr
          exact AWc.ret (canQ (N := 55) (k := 0) (l' := [(4, (.d (.bool true)))]) (H' := []) rfl ⟨rfl, [], [], rfl, rfl, ⟨⟨_, rfl, (.refl _)⟩, rfl, trivial⟩,  trivial⟩ (doneA (.inr rfl) rfl ⟨trivial, trivial⟩ (.refl _) hasNil))
/-- courant/match.Types -/
def C231 (N : Nat → Nat) : AFunc := { n := 66, params := 4, res := [.tmp 8], body :=
 (.seq (.region false [⟨(some 4), .box (.t 0), none, []⟩,
   ⟨(some 6), .box (.t 2), none, []⟩,
   ⟨(some 8), .mv (.k (.d (.bool false))), none, []⟩])
  (.seq (.seq (.region false [⟨(some 13), .faddr (.t 4) 0, none, []⟩,
     ⟨(some 14), .load (.t 13) 1 false, none, [0]⟩,
     ⟨(some 15), .len (.t 14), none, [1]⟩,
     ⟨(some 16), .faddr (.t 6) 0, none, []⟩,
     ⟨(some 17), .load (.t 16) 1 false, none, [3]⟩,
     ⟨(some 18), .len (.t 17), none, [4]⟩,
     ⟨(some 19), .bin .mul (.t 15) (.t 18), none, [2, 5]⟩,
     ⟨(some 20), .bin .add (.t 19) (.k (.d (.int .i64 1))), none, [6]⟩,
     ⟨(some 21), .mv (.k (.d (.int .i64 0))), none, []⟩])
    (.block 0 (.loop (.seq (.region false [⟨(some 22), .bin .lss (.t 21) (.t 20), none, []⟩])
       (.seq (.cond (.t 22) (.skip)
         (.exit 0))
        (.seq (.block 1 (.seq (.region false [⟨(some 24), .load (.t 4) 1 true, none, []⟩,
            ⟨(some 25), .mv (.t 1), none, []⟩,
            ⟨(some 26), .call (.k (.d (.fn (N 232)))) [(.t 24), (.t 25)], none, [0, 1]⟩,
            ⟨(some 23), .mv (.t 26), none, [2]⟩,
            ⟨(some 27), .ext (.t 23) 0, none, [3]⟩,
            ⟨(some 28), .ext (.t 23) 1, none, [3]⟩,
            ⟨(some 9), .alloc [(.int .i64 0), (.str []), (.sl []), (.sl []), (.sl []), (.bool false), (.str []), (.int .i64 0), (.sl []), (.int .i64 0)], none, []⟩,
            ⟨none, .store (.t 9) (.t 27) 10, none, [6, 4, 2, 0, 1, 3]⟩,
            ⟨(some 10), .mv (.t 28), none, [5, 7, 0, 1, 2, 3, 4, 6]⟩])
           (.seq (.region false [⟨(some 30), .load (.t 6) 1 true, none, []⟩,
             ⟨(some 31), .mv (.t 3), none, []⟩,
             ⟨(some 32), .call (.k (.d (.fn (N 232)))) [(.t 30), (.t 31)], none, [0, 1]⟩,
             ⟨(some 29), .mv (.t 32), none, [2]⟩,
             ⟨(some 33), .ext (.t 29) 0, none, [3]⟩,
             ⟨(some 34), .ext (.t 29) 1, none, [3]⟩,
             ⟨(some 11), .alloc [(.int .i64 0), (.str []), (.sl []), (.sl []), (.sl []), (.bool false), (.str []), (.int .i64 0), (.sl []), (.int .i64 0)], none, []⟩,
             ⟨none, .store (.t 11) (.t 33) 10, none, [6, 4, 2, 0, 1, 3]⟩,
             ⟨(some 12), .mv (.t 34), none, [5, 7, 0, 1, 2, 3, 4, 6]⟩])
            (.seq (.seq (.region false [⟨(some 35), .mv (.t 10), none, []⟩,
               ⟨(some 36), .un .not (.t 35), none, [0]⟩,
               ⟨(some 37), .mv (.t 36), none, [1]⟩,
               ⟨(some 38), .mv (.t 12), (some (37, false)), [2]⟩,
               ⟨(some 39), .un .not (.t 38), (some (37, false)), [3, 2]⟩,
               ⟨(some 40), .pick (.t 37) (.k (.d (.bool true))) (.t 39), none, [2, 4]⟩])
              (.cond (.t 40) (.seq (.region false [⟨(some 8), .mv (.k (.d (.bool false))), none, []⟩])
                .ret)
               (.skip)))
             (.seq (.seq (.region false [⟨(some 41), .faddr (.t 9) 0, none, []⟩,
                ⟨(some 42), .load (.t 41) 1 false, none, [0]⟩,
                ⟨(some 43), .bin .eql (.t 42) (.k (.d (.int .i64 13))), none, [1]⟩,
                ⟨(some 44), .mv (.t 43), none, [2]⟩,
                ⟨(some 45), .faddr (.t 11) 0, (some (44, false)), [3]⟩,
                ⟨(some 46), .load (.t 45) 1 false, (some (44, false)), [4, 3]⟩,
                ⟨(some 47), .bin .eql (.t 46) (.k (.d (.int .i64 13))), (some (44, false)), [5, 3]⟩,
                ⟨(some 48), .pick (.t 44) (.k (.d (.bool true))) (.t 47), none, [3, 6]⟩])
               (.cond (.t 48) (.seq (.region false [⟨(some 8), .mv (.k (.d (.bool true))), none, []⟩])
                 .ret)
                (.skip)))
              (.seq (.seq (.region false [⟨(some 49), .load (.t 9) 10 true, none, []⟩,
                 ⟨(some 50), .load (.t 11) 10 true, none, []⟩,
                 ⟨(some 51), .call (.k (.d (.fn (N 233)))) [(.t 49), (.t 50)], none, [0, 1]⟩,
                 ⟨(some 52), .un .not (.t 51), none, [2]⟩])
                (.cond (.t 52) (.seq (.region false [⟨(some 8), .mv (.k (.d (.bool false))), none, []⟩])
                  .ret)
                 (.skip)))
               (.seq (.seq (.region false [⟨(some 53), .faddr (.t 9) 0, none, []⟩,
                  ⟨(some 54), .load (.t 53) 1 false, none, [0]⟩,
                  ⟨(some 55), .bin .neq (.t 54) (.k (.d (.int .i64 11))), none, [1]⟩,
                  ⟨(some 56), .mv (.t 55), none, [2]⟩,
                  ⟨(some 57), .faddr (.t 9) 0, (some (56, true)), [3]⟩,
                  ⟨(some 58), .load (.t 57) 1 false, (some (56, true)), [4, 3]⟩,
                  ⟨(some 59), .bin .neq (.t 58) (.k (.d (.int .i64 12))), (some (56, true)), [5, 3]⟩,
                  ⟨(some 60), .pick (.t 56) (.t 59) (.k (.d (.bool false))), none, [3, 6]⟩])
                 (.cond (.t 60) (.seq (.region false [⟨(some 8), .mv (.k (.d (.bool true))), none, []⟩])
                   .ret)
                  (.skip)))
                (.region true [⟨(some 61), .faddr (.t 9) 7, none, []⟩,
                 ⟨(some 62), .load (.t 61) 1 false, none, [0]⟩,
                 ⟨(some 63), .faddr (.t 11) 7, none, []⟩,
                 ⟨(some 64), .load (.t 63) 1 false, none, [2]⟩,
                 ⟨(some 1), .mv (.t 62), none, [1, 0]⟩,
                 ⟨(some 3), .mv (.t 64), none, [3, 4, 0, 1, 2]⟩]))))))))
         (.region false [⟨(some 65), .bin .add (.t 21) (.k (.d (.int .i64 1))), none, []⟩,
          ⟨(some 21), .mv (.t 65), none, [0]⟩])))))))
   (.seq (.region false [⟨(some 8), .mv (.k (.d (.bool false))), none, []⟩])
    .ret))) }
def HC231 (P : Program) (N : Nat → Nat) : Prop := HasF P (N 231) (C231 N) ∧ HC232 P N ∧ HC233 P N
def f231_j126 (L : Int → Int → Int → Option (LR2 Unit Unit Bool)) (k : Nat) (r37 : (Bool × Int × (List UInt8) × (List (List UInt8)) × (List TField) × (List (List UInt8)) × Bool × (List UInt8) × Int × (List Int) × Int)) (r49 : (Bool × Int × (List UInt8) × (List (List UInt8)) × (List TField) × (List (List UInt8)) × Bool × (List UInt8) × Int × (List Int) × Int)) (y20_3 : Int) : Option (LR2 Unit Unit Bool) := L r37.2.2.2.2.2.2.2.2.1 r49.2.2.2.2.2.2.2.2.1 (IntKind.i64.wrap (y20_3 + (1 : Int)))
def f231_l20 (a0 : TSchema) (a2 : TSchema) : Nat → Int → Int → Int → Option (LR2 Unit Unit Bool)
  | 0, _, _, _ => none
  | k + 1, y20_1, y20_2, y20_3 => cond (decide (y20_3 < (IntKind.i64.wrap ((IntKind.i64.wrap (((a0.fNodes.length : Nat) : Int) * ((a2.fNodes.length : Nat) : Int))) + (1 : Int))))) ((f232 k (TSchema.mk a0.fNodes) y20_1).bind fun r37 => (f232 k (TSchema.mk a2.fNodes) y20_2).bind fun r49 => cond (!r37.1) (some (.r false)) (cond (!r49.1) (some (.r false)) (cond (decide (r37.2.1 = (13 : Int))) (some (.r true)) (cond (decide (r49.2.1 = (13 : Int))) (some (.r true)) ((f233 k (TNode.mk r37.2.1 r37.2.2.1 r37.2.2.2.1 r37.2.2.2.2.1 r37.2.2.2.2.2.1 r37.2.2.2.2.2.2.1 r37.2.2.2.2.2.2.2.1 r37.2.2.2.2.2.2.2.2.1 r37.2.2.2.2.2.2.2.2.2.1 r37.2.2.2.2.2.2.2.2.2.2) (TNode.mk r49.2.1 r49.2.2.1 r49.2.2.2.1 r49.2.2.2.2.1 r49.2.2.2.2.2.1 r49.2.2.2.2.2.2.1 r49.2.2.2.2.2.2.2.1 r49.2.2.2.2.2.2.2.2.1 r49.2.2.2.2.2.2.2.2.2.1 r49.2.2.2.2.2.2.2.2.2.2)).bind fun r98 => cond (!r98) (some (.r false)) (cond (decide (r37.2.1 ≠ (11 : Int))) (cond (decide (r37.2.1 ≠ (12 : Int))) (some (.r true)) (f231_j126 (f231_l20 a0 a2 k) k r37 r49 y20_3)) (f231_j126 (f231_l20 a0 a2 k) k r37 r49 y20_3))))))) (some (.b0 ()))
def f231 (k : Nat) (a0 : TSchema) (a1 : Int) (a2 : TSchema) (a3 : Int) : Option Bool := (f231_l20 a0 a2 k a1 a3 (0 : Int)).bind fun o20 => match o20 with | .b0 () => some false | .r x => some x | _ => none
theorem F231 {P : Program} {N : Nat → Nat} (hmix : P.follows .mixedOrders = true) (hc : HC231 P N) {k : Nat} {a0 : TSchema} {a1 : Int} {a2 : TSchema} {a3 : Int} {r : Bool} (h : f231 k a0 a1 a2 a3 = some r) :
    ACalls P (N 231) [(.d (TSchema.enc a0)), (.d (.int .i64 a1)), (.d (TSchema.enc a2)), (.d (.int .i64 a3))] [] (.d (.bool r)) [] := by
  refine acalls_canon (F := C231 N) hc.1 0 0 rfl ?_
  unfold f231 at h
  dsimp only [C231, startL]
  refine AWc.seq ?_
  refine AWc.rg hmix rfl rfl ?_
  refine RegV.evS (own := false) (v := (.ptr 0 0)) (H' := [(0, (.cells [(.d (.sl (List.map TNode.enc a0.fNodes)))]))]) (c' := 1) rfl rfl trivial rfl rfl rfl rfl rfl rfl ?_
  refine RegV.evS (own := false) (v := (.ptr 1 0)) (H' := [(1, (.cells [(.d (.sl (List.map TNode.enc a2.fNodes)))])), (0, (.cells [(.d (.sl (List.map TNode.enc a0.fNodes)))]))]) (c' := 2) rfl rfl trivial rfl rfl rfl rfl rfl rfl ?_
  refine RegV.p0 rfl rfl rfl ?_
  refine RegV.nil0 ?_
  refine AWc.seq ?_
  refine AWc.seq ?_
  refine AWc.rg hmix rfl rfl ?_
  refine RegV.p0 (v := (.ptr 0 0)) rfl rfl rfl ?_
  refine RegV.ld (v := (.d (.sl (List.map TNode.enc a0.fNodes)))) (H' := [(0, (.cells [(.d (.sl (List.map TNode.enc a0.fNodes)))])), (1, (.cells [(.d (.sl (List.map TNode.enc a2.fNodes)))]))]) rfl rfl trivial rfl rfl rfl rfl rfl ?_
  refine RegV.len (xs := a0.fNodes) (e := TNode.enc) rfl rfl rfl rfl ?_
  refine RegV.p0 (v := (.ptr 1 0)) rfl rfl rfl ?_
  refine RegV.ld (v := (.d (.sl (List.map TNode.enc a2.fNodes)))) (H' := [(1, (.cells [(.d (.sl (List.map TNode.enc a2.fNodes)))])), (0, (.cells [(.d (.sl (List.map TNode.enc a0.fNodes)))]))]) rfl rfl trivial rfl rfl rfl rfl rfl ?_
  refine RegV.len (xs := a2.fNodes) (e := TNode.enc) rfl rfl rfl rfl ?_
  refine RegV.p0 (v := (.d (.int .i64 (IntKind.i64.wrap (((a0.fNodes.length : Nat) : Int) * ((a2.fNodes.length : Nat) : Int)))))) rfl rfl rfl ?_
  refine RegV.p0 (v := (.d (.int .i64 (IntKind.i64.wrap ((IntKind.i64.wrap (((a0.fNodes.length : Nat) : Int) * ((a2.fNodes.length : Nat) : Int))) + (1 : Int)))))) rfl rfl rfl ?_
  refine RegV.p0 rfl rfl rfl ?_
  refine RegV.nil0 ?_
  obtain ⟨o20, h20, h⟩ := bind_some h
  refine AWc.block ?_
  refine AWc.loopK (N := 66) 2 (fun (x : (Int × Int × Int)) => [(1, (.d (.int .i64 x.1))), (3, (.d (.int .i64 x.2.1))), (4, (.ptr 0 0)), (6, (.ptr 1 0)), (20, (.d (.int .i64 (IntKind.i64.wrap ((IntKind.i64.wrap (((a0.fNodes.length : Nat) : Int) * ((a2.fNodes.length : Nat) : Int))) + (1 : Int)))))), (21, (.d (.int .i64 x.2.2)))]) (fun x => [(0, (.cells [(.d (.sl (List.map TNode.enc a0.fNodes)))])), (1, (.cells [(.d (.sl (List.map TNode.enc a2.fNodes)))]))]) (fun k x => f231_l20 a0 a2 k x.1 x.2.1 x.2.2 = some o20) k (a1, a3, (0 : Int)) rfl_le (fun x hx => by cases hx) h20 ⟨rfl, [], [], rfl, rfl, ⟨⟨_, rfl, (.refl _)⟩, rfl, ⟨⟨_, rfl, (.refl _)⟩, rfl, ⟨⟨_, rfl, (.refl _)⟩, rfl, ⟨⟨_, rfl, (.refl _)⟩, rfl, ⟨⟨_, rfl, (.refl _)⟩, rfl, ⟨⟨_, rfl, (.refl _)⟩, rfl, trivial⟩⟩⟩⟩⟩⟩, ⟨⟨_, rfl, (.refl _)⟩, rfl, rfl, ⟨⟨_, rfl, (.refl _)⟩, rfl, rfl, trivial⟩⟩⟩ ?_
  clear h20
  intro k
  rintro ⟨y20_1, y20_2, y20_3⟩ h20
  dsimp only at h20 ⊢
  rw [f231_l20] at h20
  refine AWc.seq ?_
  refine AWc.rg hmix rfl rfl ?_
  refine RegV.p0 (v := (.d (.bool (decide (y20_3 < (IntKind.i64.wrap ((IntKind.i64.wrap (((a0.fNodes.length : Nat) : Int) * ((a2.fNodes.length : Nat) : Int))) + (1 : Int)))))))) rfl rfl rfl ?_
  refine RegV.nil0 ?_
  refine AWc.seq ?_
  refine AWc.cond rfl (fun c27 => ?_) (fun c27 => ?_)
  · have h20 := cond_pos c27 h20
    refine AWc.skip ?_
    refine AWc.seq ?_
    refine AWc.block ?_
    refine AWc.seq ?_
    refine AWc.rg hmix rfl rfl ?_
    refine RegV.ld (v := (.d (.agg [(.sl (List.map TNode.enc a0.fNodes))]))) (H' := [(0, (.cells [(.d (.sl (List.map TNode.enc a0.fNodes)))])), (1, (.cells [(.d (.sl (List.map TNode.enc a2.fNodes)))]))]) rfl rfl (Nat.le_of_ble_eq_true rfl) rfl rfl rfl rfl rfl ?_
    refine RegV.p0 rfl rfl rfl ?_
    obtain ⟨r37, e37, h20⟩ := bind_some h20
    refine RegV.call0 (F232 hmix hc.2.1 e37) rfl rfl rfl rfl (.cons (.refl _) (.cons (.refl _) .nil)) rfl ?_
    refine RegV.p0 rfl rfl rfl ?_
    refine RegV.p0 rfl rfl rfl ?_
    refine RegV.p0 rfl rfl rfl ?_
    refine RegV.evS (own := false) (v := (.ptr 2 0)) (H' := [(2, (.cells [(.d (.int .i64 (0 : Int))), (.d (.str ([] : List UInt8))), .nils, .nils, .nils, (.d (.bool false)), (.d (.str ([] : List UInt8))), (.d (.int .i64 (0 : Int))), .nils, (.d (.int .i64 (0 : Int)))])), (0, (.cells [(.d (.sl (List.map TNode.enc a0.fNodes)))])), (1, (.cells [(.d (.sl (List.map TNode.enc a2.fNodes)))]))]) (c' := 3) rfl rfl trivial rfl rfl rfl rfl rfl rfl ?_
    refine RegV.evN (own := false) (H' := [(2, (.cells [(.d (.int .i64 r37.2.1)), (.d (.str r37.2.2.1)), (.d (.sl (List.map D.str r37.2.2.2.1))), (.d (.sl (List.map TField.enc r37.2.2.2.2.1))), (.d (.sl (List.map D.str r37.2.2.2.2.2.1))), (.d (.bool r37.2.2.2.2.2.2.1)), (.d (.str r37.2.2.2.2.2.2.2.1)), (.d (.int .i64 r37.2.2.2.2.2.2.2.2.1)), (.d (.sl (List.map (D.int .i64) r37.2.2.2.2.2.2.2.2.2.1))), (.d (.int .i64 r37.2.2.2.2.2.2.2.2.2.2))])), (0, (.cells [(.d (.sl (List.map TNode.enc a0.fNodes)))])), (1, (.cells [(.d (.sl (List.map TNode.enc a2.fNodes)))]))]) (c' := 3) rfl rfl (by exact ⟨rfl, Nat.le_of_ble_eq_true rfl, rfl⟩) rfl rfl rfl rfl ?_
    refine RegV.p0 rfl rfl rfl ?_
    refine RegV.nil0 ?_
    refine AWc.seq ?_
    refine AWc.rg hmix rfl rfl ?_
    refine RegV.ld (v := (.d (.agg [(.sl (List.map TNode.enc a2.fNodes))]))) (H' := [(1, (.cells [(.d (.sl (List.map TNode.enc a2.fNodes)))])), (2, (.cells [(.d (.int .i64 r37.2.1)), (.d (.str r37.2.2.1)), (.d (.sl (List.map D.str r37.2.2.2.1))), (.d (.sl (List.map TField.enc r37.2.2.2.2.1))), (.d (.sl (List.map D.str r37.2.2.2.2.2.1))), (.d (.bool r37.2.2.2.2.2.2.1)), (.d (.str r37.2.2.2.2.2.2.2.1)), (.d (.int .i64 r37.2.2.2.2.2.2.2.2.1)), (.d (.sl (List.map (D.int .i64) r37.2.2.2.2.2.2.2.2.2.1))), (.d (.int .i64 r37.2.2.2.2.2.2.2.2.2.2))])), (0, (.cells [(.d (.sl (List.map TNode.enc a0.fNodes)))]))]) rfl rfl (Nat.le_of_ble_eq_true rfl) rfl rfl rfl rfl rfl ?_
    refine RegV.p0 rfl rfl rfl ?_
    obtain ⟨r49, e49, h20⟩ := bind_some h20
    refine RegV.call0 (F232 hmix hc.2.1 e49) rfl rfl rfl rfl (.cons (.refl _) (.cons (.refl _) .nil)) rfl ?_
    refine RegV.p0 rfl rfl rfl ?_
    refine RegV.p0 rfl rfl rfl ?_
    refine RegV.p0 rfl rfl rfl ?_
    refine RegV.evS (own := false) (v := (.ptr 3 0)) (H' := [(3, (.cells [(.d (.int .i64 (0 : Int))), (.d (.str ([] : List UInt8))), .nils, .nils, .nils, (.d (.bool false)), (.d (.str ([] : List UInt8))), (.d (.int .i64 (0 : Int))), .nils, (.d (.int .i64 (0 : Int)))])), (1, (.cells [(.d (.sl (List.map TNode.enc a2.fNodes)))])), (2, (.cells [(.d (.int .i64 r37.2.1)), (.d (.str r37.2.2.1)), (.d (.sl (List.map D.str r37.2.2.2.1))), (.d (.sl (List.map TField.enc r37.2.2.2.2.1))), (.d (.sl (List.map D.str r37.2.2.2.2.2.1))), (.d (.bool r37.2.2.2.2.2.2.1)), (.d (.str r37.2.2.2.2.2.2.2.1)), (.d (.int .i64 r37.2.2.2.2.2.2.2.2.1)), (.d (.sl (List.map (D.int .i64) r37.2.2.2.2.2.2.2.2.2.1))), (.d (.int .i64 r37.2.2.2.2.2.2.2.2.2.2))])), (0, (.cells [(.d (.sl (List.map TNode.enc a0.fNodes)))]))]) (c' := 4) rfl rfl trivial rfl rfl rfl rfl rfl rfl ?_
    refine RegV.evN (own := false) (H' := [(3, (.cells [(.d (.int .i64 r49.2.1)), (.d (.str r49.2.2.1)), (.d (.sl (List.map D.str r49.2.2.2.1))), (.d (.sl (List.map TField.enc r49.2.2.2.2.1))), (.d (.sl (List.map D.str r49.2.2.2.2.2.1))), (.d (.bool r49.2.2.2.2.2.2.1)), (.d (.str r49.2.2.2.2.2.2.2.1)), (.d (.int .i64 r49.2.2.2.2.2.2.2.2.1)), (.d (.sl (List.map (D.int .i64) r49.2.2.2.2.2.2.2.2.2.1))), (.d (.int .i64 r49.2.2.2.2.2.2.2.2.2.2))])), (1, (.cells [(.d (.sl (List.map TNode.enc a2.fNodes)))])), (2, (.cells [(.d (.int .i64 r37.2.1)), (.d (.str r37.2.2.1)), (.d (.sl (List.map D.str r37.2.2.2.1))), (.d (.sl (List.map TField.enc r37.2.2.2.2.1))), (.d (.sl (List.map D.str r37.2.2.2.2.2.1))), (.d (.bool r37.2.2.2.2.2.2.1)), (.d (.str r37.2.2.2.2.2.2.2.1)), (.d (.int .i64 r37.2.2.2.2.2.2.2.2.1)), (.d (.sl (List.map (D.int .i64) r37.2.2.2.2.2.2.2.2.2.1))), (.d (.int .i64 r37.2.2.2.2.2.2.2.2.2.2))])), (0, (.cells [(.d (.sl (List.map TNode.enc a0.fNodes)))]))]) (c' := 4) rfl rfl (by exact ⟨rfl, Nat.le_of_ble_eq_true rfl, rfl⟩) rfl rfl rfl rfl ?_
    refine RegV.p0 rfl rfl rfl ?_
    refine RegV.nil0 ?_
    refine AWc.seq ?_
    refine AWc.seq ?_
    refine AWc.rg hmix rfl rfl ?_
    refine RegV.p0 rfl rfl rfl ?_
    refine RegV.p0 (v := (.d (.bool (!r37.1)))) rfl rfl rfl ?_
    refine RegV.p0 rfl rfl rfl ?_
    refine RegV.split (fun c62 => ?_) (fun c62 => ?_)
    · have h20 := cond_pos c62 h20
      refine RegV.noS rfl rfl ?_
      refine RegV.noS rfl rfl ?_
      refine RegV.p0 rfl rfl rfl ?_
      refine RegV.nil0 ?_
      refine AWc.cond rfl (fun _ => ?_) (fun hc => by cases hc)
      refine AWc.seq ?_
      refine AWc.rg hmix rfl rfl ?_
      refine RegV.p0 rfl rfl rfl ?_
      refine RegV.nil0 ?_
      cases h20
      dsimp only at h
      have hr := Option.some.inj h
      subst hr
      exact AWc.ret (canQ (N := 66) (k := 0) (l' := [(8, (.d (.bool false)))]) (H' := []) rfl ⟨rfl, [], [], rfl, rfl, ⟨⟨_, rfl, (.refl _)⟩, rfl, trivial⟩,  trivial⟩ (doneA (.inr rfl) rfl ⟨trivial, trivial⟩ (.refl _) hasNil))
    · have h20 := cond_neg c62 h20
      refine RegV.p0 rfl rfl rfl ?_
      refine RegV.p0 (v := (.d (.bool (!r49.1)))) rfl rfl rfl ?_
      refine RegV.p0 rfl rfl rfl ?_
      refine RegV.nil0 ?_
      refine AWc.cond rfl (fun c66 => ?_) (fun c66 => ?_)
      · have h20 := cond_pos c66 h20
        refine AWc.seq ?_
        refine AWc.rg hmix rfl rfl ?_
        refine RegV.p0 rfl rfl rfl ?_
        refine RegV.nil0 ?_
        cases h20
        dsimp only at h
        have hr := Option.some.inj h
        subst hr
        exact AWc.ret (canQ (N := 66) (k := 0) (l' := [(8, (.d (.bool false)))]) (H' := []) rfl ⟨rfl, [], [], rfl, rfl, ⟨⟨_, rfl, (.refl _)⟩, rfl, trivial⟩,  trivial⟩ (doneA (.inr rfl) rfl ⟨trivial, trivial⟩ (.refl _) hasNil))
      · have h20 := cond_neg c66 h20
        refine AWc.skip ?_
        refine AWc.seq ?_
        refine AWc.seq ?_
        refine AWc.rg hmix rfl rfl ?_
        refine RegV.p0 (v := (.ptr 2 0)) rfl rfl rfl ?_
        refine RegV.ld (v := (.d (.int .i64 r37.2.1))) (H' := [(2, (.cells [(.d (.int .i64 r37.2.1)), (.d (.str r37.2.2.1)), (.d (.sl (List.map D.str r37.2.2.2.1))), (.d (.sl (List.map TField.enc r37.2.2.2.2.1))), (.d (.sl (List.map D.str r37.2.2.2.2.2.1))), (.d (.bool r37.2.2.2.2.2.2.1)), (.d (.str r37.2.2.2.2.2.2.2.1)), (.d (.int .i64 r37.2.2.2.2.2.2.2.2.1)), (.d (.sl (List.map (D.int .i64) r37.2.2.2.2.2.2.2.2.2.1))), (.d (.int .i64 r37.2.2.2.2.2.2.2.2.2.2))])), (3, (.cells [(.d (.int .i64 r49.2.1)), (.d (.str r49.2.2.1)), (.d (.sl (List.map D.str r49.2.2.2.1))), (.d (.sl (List.map TField.enc r49.2.2.2.2.1))), (.d (.sl (List.map D.str r49.2.2.2.2.2.1))), (.d (.bool r49.2.2.2.2.2.2.1)), (.d (.str r49.2.2.2.2.2.2.2.1)), (.d (.int .i64 r49.2.2.2.2.2.2.2.2.1)), (.d (.sl (List.map (D.int .i64) r49.2.2.2.2.2.2.2.2.2.1))), (.d (.int .i64 r49.2.2.2.2.2.2.2.2.2.2))])), (1, (.cells [(.d (.sl (List.map TNode.enc a2.fNodes)))])), (0, (.cells [(.d (.sl (List.map TNode.enc a0.fNodes)))]))]) rfl rfl trivial rfl rfl rfl rfl rfl ?_
        refine RegV.p0 (v := (.d (.bool (decide (r37.2.1 = (13 : Int)))))) rfl rfl rfl ?_
        refine RegV.p0 rfl rfl rfl ?_
        refine RegV.split (fun c80 => ?_) (fun c80 => ?_)
        · have h20 := cond_pos c80 h20
          refine RegV.noS rfl rfl ?_
          refine RegV.noS rfl rfl ?_
          refine RegV.noS rfl rfl ?_
          refine RegV.p0 rfl rfl rfl ?_
          refine RegV.nil0 ?_
          refine AWc.cond rfl (fun _ => ?_) (fun hc => by cases hc)
          refine AWc.seq ?_
          refine AWc.rg hmix rfl rfl ?_
          refine RegV.p0 rfl rfl rfl ?_
          refine RegV.nil0 ?_
          cases h20
          dsimp only at h
          have hr := Option.some.inj h
          subst hr
          exact AWc.ret (canQ (N := 66) (k := 0) (l' := [(8, (.d (.bool true)))]) (H' := []) rfl ⟨rfl, [], [], rfl, rfl, ⟨⟨_, rfl, (.refl _)⟩, rfl, trivial⟩,  trivial⟩ (doneA (.inr rfl) rfl ⟨trivial, trivial⟩ (.refl _) hasNil))
        · have h20 := cond_neg c80 h20
          refine RegV.p0 (v := (.ptr 3 0)) rfl rfl rfl ?_
          refine RegV.ld (v := (.d (.int .i64 r49.2.1))) (H' := [(3, (.cells [(.d (.int .i64 r49.2.1)), (.d (.str r49.2.2.1)), (.d (.sl (List.map D.str r49.2.2.2.1))), (.d (.sl (List.map TField.enc r49.2.2.2.2.1))), (.d (.sl (List.map D.str r49.2.2.2.2.2.1))), (.d (.bool r49.2.2.2.2.2.2.1)), (.d (.str r49.2.2.2.2.2.2.2.1)), (.d (.int .i64 r49.2.2.2.2.2.2.2.2.1)), (.d (.sl (List.map (D.int .i64) r49.2.2.2.2.2.2.2.2.2.1))), (.d (.int .i64 r49.2.2.2.2.2.2.2.2.2.2))])), (2, (.cells [(.d (.int .i64 r37.2.1)), (.d (.str r37.2.2.1)), (.d (.sl (List.map D.str r37.2.2.2.1))), (.d (.sl (List.map TField.enc r37.2.2.2.2.1))), (.d (.sl (List.map D.str r37.2.2.2.2.2.1))), (.d (.bool r37.2.2.2.2.2.2.1)), (.d (.str r37.2.2.2.2.2.2.2.1)), (.d (.int .i64 r37.2.2.2.2.2.2.2.2.1)), (.d (.sl (List.map (D.int .i64) r37.2.2.2.2.2.2.2.2.2.1))), (.d (.int .i64 r37.2.2.2.2.2.2.2.2.2.2))])), (1, (.cells [(.d (.sl (List.map TNode.enc a2.fNodes)))])), (0, (.cells [(.d (.sl (List.map TNode.enc a0.fNodes)))]))]) rfl rfl trivial rfl rfl rfl rfl rfl ?_
          refine RegV.p0 (v := (.d (.bool (decide (r49.2.1 = (13 : Int)))))) rfl rfl rfl ?_
          refine RegV.p0 rfl rfl rfl ?_
          refine RegV.nil0 ?_
          refine AWc.cond rfl (fun c85 => ?_) (fun c85 => ?_)
          · have h20 := cond_pos c85 h20
            refine AWc.seq ?_
            refine AWc.rg hmix rfl rfl ?_
            refine RegV.p0 rfl rfl rfl ?_
            refine RegV.nil0 ?_
            cases h20
            dsimp only at h
            have hr := Option.some.inj h
            subst hr
            exact AWc.ret (canQ (N := 66) (k := 0) (l' := [(8, (.d (.bool true)))]) (H' := []) rfl ⟨rfl, [], [], rfl, rfl, ⟨⟨_, rfl, (.refl _)⟩, rfl, trivial⟩,  trivial⟩ (doneA (.inr rfl) rfl ⟨trivial, trivial⟩ (.refl _) hasNil))
          · have h20 := cond_neg c85 h20
            refine AWc.skip ?_
            refine AWc.seq ?_
            refine AWc.seq ?_
            refine AWc.rg hmix rfl rfl ?_
            refine RegV.ld (v := (.d (.agg [(.int .i64 r37.2.1), (.str r37.2.2.1), (.sl (List.map D.str r37.2.2.2.1)), (.sl (List.map TField.enc r37.2.2.2.2.1)), (.sl (List.map D.str r37.2.2.2.2.2.1)), (.bool r37.2.2.2.2.2.2.1), (.str r37.2.2.2.2.2.2.2.1), (.int .i64 r37.2.2.2.2.2.2.2.2.1), (.sl (List.map (D.int .i64) r37.2.2.2.2.2.2.2.2.2.1)), (.int .i64 r37.2.2.2.2.2.2.2.2.2.2)]))) (H' := [(2, (.cells [(.d (.int .i64 r37.2.1)), (.d (.str r37.2.2.1)), (.d (.sl (List.map D.str r37.2.2.2.1))), (.d (.sl (List.map TField.enc r37.2.2.2.2.1))), (.d (.sl (List.map D.str r37.2.2.2.2.2.1))), (.d (.bool r37.2.2.2.2.2.2.1)), (.d (.str r37.2.2.2.2.2.2.2.1)), (.d (.int .i64 r37.2.2.2.2.2.2.2.2.1)), (.d (.sl (List.map (D.int .i64) r37.2.2.2.2.2.2.2.2.2.1))), (.d (.int .i64 r37.2.2.2.2.2.2.2.2.2.2))])), (3, (.cells [(.d (.int .i64 r49.2.1)), (.d (.str r49.2.2.1)), (.d (.sl (List.map D.str r49.2.2.2.1))), (.d (.sl (List.map TField.enc r49.2.2.2.2.1))), (.d (.sl (List.map D.str r49.2.2.2.2.2.1))), (.d (.bool r49.2.2.2.2.2.2.1)), (.d (.str r49.2.2.2.2.2.2.2.1)), (.d (.int .i64 r49.2.2.2.2.2.2.2.2.1)), (.d (.sl (List.map (D.int .i64) r49.2.2.2.2.2.2.2.2.2.1))), (.d (.int .i64 r49.2.2.2.2.2.2.2.2.2.2))])), (1, (.cells [(.d (.sl (List.map TNode.enc a2.fNodes)))])), (0, (.cells [(.d (.sl (List.map TNode.enc a0.fNodes)))]))]) rfl rfl (Nat.le_of_ble_eq_true rfl) rfl rfl rfl rfl rfl ?_
            refine RegV.ld (v := (.d (.agg [(.int .i64 r49.2.1), (.str r49.2.2.1), (.sl (List.map D.str r49.2.2.2.1)), (.sl (List.map TField.enc r49.2.2.2.2.1)), (.sl (List.map D.str r49.2.2.2.2.2.1)), (.bool r49.2.2.2.2.2.2.1), (.str r49.2.2.2.2.2.2.2.1), (.int .i64 r49.2.2.2.2.2.2.2.2.1), (.sl (List.map (D.int .i64) r49.2.2.2.2.2.2.2.2.2.1)), (.int .i64 r49.2.2.2.2.2.2.2.2.2.2)]))) (H' := [(3, (.cells [(.d (.int .i64 r49.2.1)), (.d (.str r49.2.2.1)), (.d (.sl (List.map D.str r49.2.2.2.1))), (.d (.sl (List.map TField.enc r49.2.2.2.2.1))), (.d (.sl (List.map D.str r49.2.2.2.2.2.1))), (.d (.bool r49.2.2.2.2.2.2.1)), (.d (.str r49.2.2.2.2.2.2.2.1)), (.d (.int .i64 r49.2.2.2.2.2.2.2.2.1)), (.d (.sl (List.map (D.int .i64) r49.2.2.2.2.2.2.2.2.2.1))), (.d (.int .i64 r49.2.2.2.2.2.2.2.2.2.2))])), (2, (.cells [(.d (.int .i64 r37.2.1)), (.d (.str r37.2.2.1)), (.d (.sl (List.map D.str r37.2.2.2.1))), (.d (.sl (List.map TField.enc r37.2.2.2.2.1))), (.d (.sl (List.map D.str r37.2.2.2.2.2.1))), (.d (.bool r37.2.2.2.2.2.2.1)), (.d (.str r37.2.2.2.2.2.2.2.1)), (.d (.int .i64 r37.2.2.2.2.2.2.2.2.1)), (.d (.sl (List.map (D.int .i64) r37.2.2.2.2.2.2.2.2.2.1))), (.d (.int .i64 r37.2.2.2.2.2.2.2.2.2.2))])), (1, (.cells [(.d (.sl (List.map TNode.enc a2.fNodes)))])), (0, (.cells [(.d (.sl (List.map TNode.enc a0.fNodes)))]))]) rfl rfl (Nat.le_of_ble_eq_true rfl) rfl rfl rfl rfl rfl ?_
            obtain ⟨r98, e98, h20⟩ := bind_some h20
            refine RegV.call0 (F233 hmix hc.2.2 e98) rfl rfl rfl rfl (.cons (.refl _) (.cons (.refl _) .nil)) rfl ?_
            refine RegV.p0 (v := (.d (.bool (!r98)))) rfl rfl rfl ?_
            refine RegV.nil0 ?_
            refine AWc.cond rfl (fun c100 => ?_) (fun c100 => ?_)
            · have h20 := cond_pos c100 h20
              refine AWc.seq ?_
              refine AWc.rg hmix rfl rfl ?_
              refine RegV.p0 rfl rfl rfl ?_
              refine RegV.nil0 ?_
              cases h20
              dsimp only at h
              have hr := Option.some.inj h
              subst hr
              exact AWc.ret (canQ (N := 66) (k := 0) (l' := [(8, (.d (.bool false)))]) (H' := []) rfl ⟨rfl, [], [], rfl, rfl, ⟨⟨_, rfl, (.refl _)⟩, rfl, trivial⟩,  trivial⟩ (doneA (.inr rfl) rfl ⟨trivial, trivial⟩ (.refl _) hasNil))
            · have h20 := cond_neg c100 h20
              refine AWc.skip ?_
              refine AWc.seqS (N := 66) 4 (fun (z : Unit) => [(4, (.ptr 0 0)), (6, (.ptr 1 0)), (9, (.ptr 2 0)), (11, (.ptr 3 0)), (20, (.d (.int .i64 (IntKind.i64.wrap ((IntKind.i64.wrap (((a0.fNodes.length : Nat) : Int) * ((a2.fNodes.length : Nat) : Int))) + (1 : Int)))))), (21, (.d (.int .i64 y20_3))), (38, (.d (.bool r49.1))), (39, (.d (.bool (!r49.1)))), (45, (.ptr 3 0)), (46, (.d (.int .i64 r49.2.1))), (47, (.d (.bool (decide (r49.2.1 = (13 : Int)))))), (57, .any), (58, .any), (59, .any)]) (fun z => [(0, (.cells [(.d (.sl (List.map TNode.enc a0.fNodes)))])), (1, (.cells [(.d (.sl (List.map TNode.enc a2.fNodes)))])), (2, (.cells [(.d (.int .i64 r37.2.1)), (.d (.str r37.2.2.1)), (.d (.sl (List.map D.str r37.2.2.2.1))), (.d (.sl (List.map TField.enc r37.2.2.2.2.1))), (.d (.sl (List.map D.str r37.2.2.2.2.2.1))), (.d (.bool r37.2.2.2.2.2.2.1)), (.d (.str r37.2.2.2.2.2.2.2.1)), (.d (.int .i64 r37.2.2.2.2.2.2.2.2.1)), (.d (.sl (List.map (D.int .i64) r37.2.2.2.2.2.2.2.2.2.1))), (.d (.int .i64 r37.2.2.2.2.2.2.2.2.2.2))])), (3, (.cells [(.d (.int .i64 r49.2.1)), (.d (.str r49.2.2.1)), (.d (.sl (List.map D.str r49.2.2.2.1))), (.d (.sl (List.map TField.enc r49.2.2.2.2.1))), (.d (.sl (List.map D.str r49.2.2.2.2.2.1))), (.d (.bool r49.2.2.2.2.2.2.1)), (.d (.str r49.2.2.2.2.2.2.2.1)), (.d (.int .i64 r49.2.2.2.2.2.2.2.2.1)), (.d (.sl (List.map (D.int .i64) r49.2.2.2.2.2.2.2.2.2.1))), (.d (.int .i64 r49.2.2.2.2.2.2.2.2.2.2))]))]) (fun z => f231_j126 (f231_l20 a0 a2 k) k r37 r49 y20_3 = some o20) rfl_le ?_ ?_
              · refine AWc.seq ?_
                refine AWc.rg hmix rfl rfl ?_
                refine RegV.p0 (v := (.ptr 2 0)) rfl rfl rfl ?_
                refine RegV.ld (v := (.d (.int .i64 r37.2.1))) (H' := [(2, (.cells [(.d (.int .i64 r37.2.1)), (.d (.str r37.2.2.1)), (.d (.sl (List.map D.str r37.2.2.2.1))), (.d (.sl (List.map TField.enc r37.2.2.2.2.1))), (.d (.sl (List.map D.str r37.2.2.2.2.2.1))), (.d (.bool r37.2.2.2.2.2.2.1)), (.d (.str r37.2.2.2.2.2.2.2.1)), (.d (.int .i64 r37.2.2.2.2.2.2.2.2.1)), (.d (.sl (List.map (D.int .i64) r37.2.2.2.2.2.2.2.2.2.1))), (.d (.int .i64 r37.2.2.2.2.2.2.2.2.2.2))])), (3, (.cells [(.d (.int .i64 r49.2.1)), (.d (.str r49.2.2.1)), (.d (.sl (List.map D.str r49.2.2.2.1))), (.d (.sl (List.map TField.enc r49.2.2.2.2.1))), (.d (.sl (List.map D.str r49.2.2.2.2.2.1))), (.d (.bool r49.2.2.2.2.2.2.1)), (.d (.str r49.2.2.2.2.2.2.2.1)), (.d (.int .i64 r49.2.2.2.2.2.2.2.2.1)), (.d (.sl (List.map (D.int .i64) r49.2.2.2.2.2.2.2.2.2.1))), (.d (.int .i64 r49.2.2.2.2.2.2.2.2.2.2))])), (1, (.cells [(.d (.sl (List.map TNode.enc a2.fNodes)))])), (0, (.cells [(.d (.sl (List.map TNode.enc a0.fNodes)))]))]) rfl rfl trivial rfl rfl rfl rfl rfl ?_
                refine RegV.p0 (v := (.d (.bool (decide (r37.2.1 ≠ (11 : Int)))))) rfl rfl rfl ?_
                refine RegV.p0 rfl rfl rfl ?_
                refine RegV.split (fun c114 => ?_) (fun c114 => ?_)
                · have h20 := cond_pos c114 h20
                  refine RegV.p0 (v := (.ptr 2 0)) rfl rfl rfl ?_
                  refine RegV.ld (v := (.d (.int .i64 r37.2.1))) (H' := [(2, (.cells [(.d (.int .i64 r37.2.1)), (.d (.str r37.2.2.1)), (.d (.sl (List.map D.str r37.2.2.2.1))), (.d (.sl (List.map TField.enc r37.2.2.2.2.1))), (.d (.sl (List.map D.str r37.2.2.2.2.2.1))), (.d (.bool r37.2.2.2.2.2.2.1)), (.d (.str r37.2.2.2.2.2.2.2.1)), (.d (.int .i64 r37.2.2.2.2.2.2.2.2.1)), (.d (.sl (List.map (D.int .i64) r37.2.2.2.2.2.2.2.2.2.1))), (.d (.int .i64 r37.2.2.2.2.2.2.2.2.2.2))])), (3, (.cells [(.d (.int .i64 r49.2.1)), (.d (.str r49.2.2.1)), (.d (.sl (List.map D.str r49.2.2.2.1))), (.d (.sl (List.map TField.enc r49.2.2.2.2.1))), (.d (.sl (List.map D.str r49.2.2.2.2.2.1))), (.d (.bool r49.2.2.2.2.2.2.1)), (.d (.str r49.2.2.2.2.2.2.2.1)), (.d (.int .i64 r49.2.2.2.2.2.2.2.2.1)), (.d (.sl (List.map (D.int .i64) r49.2.2.2.2.2.2.2.2.2.1))), (.d (.int .i64 r49.2.2.2.2.2.2.2.2.2.2))])), (1, (.cells [(.d (.sl (List.map TNode.enc a2.fNodes)))])), (0, (.cells [(.d (.sl (List.map TNode.enc a0.fNodes)))]))]) rfl rfl trivial rfl rfl rfl rfl rfl ?_
                  refine RegV.p0 (v := (.d (.bool (decide (r37.2.1 ≠ (12 : Int)))))) rfl rfl rfl ?_
                  refine RegV.p0 rfl rfl rfl ?_
                  refine RegV.nil0 ?_
                  refine AWc.cond rfl (fun c119 => ?_) (fun c119 => ?_)
                  · have h20 := cond_pos c119 h20
                    refine AWc.seq ?_
                    refine AWc.rg hmix rfl rfl ?_
                    refine RegV.p0 rfl rfl rfl ?_
                    refine RegV.nil0 ?_
                    cases h20
                    dsimp only at h
                    have hr := Option.some.inj h
                    subst hr
                    exact AWc.ret (canQ (N := 66) (k := 0) (l' := [(8, (.d (.bool true)))]) (H' := []) rfl ⟨rfl, [], [], rfl, rfl, ⟨⟨_, rfl, (.refl _)⟩, rfl, trivial⟩,  trivial⟩ (doneA (.inr rfl) rfl ⟨trivial, trivial⟩ (.refl _) hasNil))
                  · have h20 := cond_neg c119 h20
                    refine AWc.skip ?_
                    exact ⟨(), h20, ⟨rfl, [], [], rfl, rfl, ⟨⟨_, rfl, (.refl _)⟩, rfl, ⟨⟨_, rfl, (.refl _)⟩, rfl, ⟨⟨_, rfl, (.refl _)⟩, rfl, ⟨⟨_, rfl, (.refl _)⟩, rfl, ⟨⟨_, rfl, (.refl _)⟩, rfl, ⟨⟨_, rfl, (.refl _)⟩, rfl, ⟨⟨_, rfl, (.refl _)⟩, rfl, ⟨⟨_, rfl, (.refl _)⟩, rfl, ⟨⟨_, rfl, (.refl _)⟩, rfl, ⟨⟨_, rfl, (.refl _)⟩, rfl, ⟨⟨_, rfl, (.refl _)⟩, rfl, ⟨⟨_, rfl, (.any _)⟩, rfl, ⟨⟨_, rfl, (.any _)⟩, rfl, ⟨⟨_, rfl, (.any _)⟩, rfl, trivial⟩⟩⟩⟩⟩⟩⟩⟩⟩⟩⟩⟩⟩⟩, ⟨⟨_, rfl, (.refl _)⟩, rfl, rfl, ⟨⟨_, rfl, (.refl _)⟩, rfl, rfl, ⟨⟨_, rfl, (.refl _)⟩, rfl, rfl, ⟨⟨_, rfl, (.refl _)⟩, rfl, rfl, trivial⟩⟩⟩⟩⟩⟩
                · have h20 := cond_neg c114 h20
                  refine RegV.noS rfl rfl ?_
                  refine RegV.noS rfl rfl ?_
                  refine RegV.noS rfl rfl ?_
                  refine RegV.p0 rfl rfl rfl ?_
                  refine RegV.nil0 ?_
                  refine AWc.cond rfl (fun hc => by cases hc) (fun _ => ?_)
                  refine AWc.skip ?_
                  exact ⟨(), h20, ⟨rfl, [], [], rfl, rfl, ⟨⟨_, rfl, (.refl _)⟩, rfl, ⟨⟨_, rfl, (.refl _)⟩, rfl, ⟨⟨_, rfl, (.refl _)⟩, rfl, ⟨⟨_, rfl, (.refl _)⟩, rfl, ⟨⟨_, rfl, (.refl _)⟩, rfl, ⟨⟨_, rfl, (.refl _)⟩, rfl, ⟨⟨_, rfl, (.refl _)⟩, rfl, ⟨⟨_, rfl, (.refl _)⟩, rfl, ⟨⟨_, rfl, (.refl _)⟩, rfl, ⟨⟨_, rfl, (.refl _)⟩, rfl, ⟨⟨_, rfl, (.refl _)⟩, rfl, ⟨⟨_, rfl, (.any _)⟩, rfl, ⟨⟨_, rfl, (.any _)⟩, rfl, ⟨⟨_, rfl, (.any _)⟩, rfl, trivial⟩⟩⟩⟩⟩⟩⟩⟩⟩⟩⟩⟩⟩⟩, ⟨⟨_, rfl, (.refl _)⟩, rfl, rfl, ⟨⟨_, rfl, (.refl _)⟩, rfl, rfl, ⟨⟨_, rfl, (.refl _)⟩, rfl, rfl, ⟨⟨_, rfl, (.refl _)⟩, rfl, rfl, trivial⟩⟩⟩⟩⟩⟩
              · rintro ⟨⟩ h20
                unfold f231_j126 at h20
                refine AWc.rg hmix rfl rfl ?_
                refine RegV.p0 (v := (.ptr 2 7)) rfl rfl rfl ?_
                refine RegV.ld (v := (.d (.int .i64 r37.2.2.2.2.2.2.2.2.1))) (H' := [(2, (.cells [(.d (.int .i64 r37.2.1)), (.d (.str r37.2.2.1)), (.d (.sl (List.map D.str r37.2.2.2.1))), (.d (.sl (List.map TField.enc r37.2.2.2.2.1))), (.d (.sl (List.map D.str r37.2.2.2.2.2.1))), (.d (.bool r37.2.2.2.2.2.2.1)), (.d (.str r37.2.2.2.2.2.2.2.1)), (.d (.int .i64 r37.2.2.2.2.2.2.2.2.1)), (.d (.sl (List.map (D.int .i64) r37.2.2.2.2.2.2.2.2.2.1))), (.d (.int .i64 r37.2.2.2.2.2.2.2.2.2.2))])), (0, (.cells [(.d (.sl (List.map TNode.enc a0.fNodes)))])), (1, (.cells [(.d (.sl (List.map TNode.enc a2.fNodes)))])), (3, (.cells [(.d (.int .i64 r49.2.1)), (.d (.str r49.2.2.1)), (.d (.sl (List.map D.str r49.2.2.2.1))), (.d (.sl (List.map TField.enc r49.2.2.2.2.1))), (.d (.sl (List.map D.str r49.2.2.2.2.2.1))), (.d (.bool r49.2.2.2.2.2.2.1)), (.d (.str r49.2.2.2.2.2.2.2.1)), (.d (.int .i64 r49.2.2.2.2.2.2.2.2.1)), (.d (.sl (List.map (D.int .i64) r49.2.2.2.2.2.2.2.2.2.1))), (.d (.int .i64 r49.2.2.2.2.2.2.2.2.2.2))]))]) rfl rfl trivial rfl rfl rfl rfl rfl ?_
                refine RegV.p0 (v := (.ptr 3 7)) rfl rfl rfl ?_
                refine RegV.ld (v := (.d (.int .i64 r49.2.2.2.2.2.2.2.2.1))) (H' := [(3, (.cells [(.d (.int .i64 r49.2.1)), (.d (.str r49.2.2.1)), (.d (.sl (List.map D.str r49.2.2.2.1))), (.d (.sl (List.map TField.enc r49.2.2.2.2.1))), (.d (.sl (List.map D.str r49.2.2.2.2.2.1))), (.d (.bool r49.2.2.2.2.2.2.1)), (.d (.str r49.2.2.2.2.2.2.2.1)), (.d (.int .i64 r49.2.2.2.2.2.2.2.2.1)), (.d (.sl (List.map (D.int .i64) r49.2.2.2.2.2.2.2.2.2.1))), (.d (.int .i64 r49.2.2.2.2.2.2.2.2.2.2))])), (2, (.cells [(.d (.int .i64 r37.2.1)), (.d (.str r37.2.2.1)), (.d (.sl (List.map D.str r37.2.2.2.1))), (.d (.sl (List.map TField.enc r37.2.2.2.2.1))), (.d (.sl (List.map D.str r37.2.2.2.2.2.1))), (.d (.bool r37.2.2.2.2.2.2.1)), (.d (.str r37.2.2.2.2.2.2.2.1)), (.d (.int .i64 r37.2.2.2.2.2.2.2.2.1)), (.d (.sl (List.map (D.int .i64) r37.2.2.2.2.2.2.2.2.2.1))), (.d (.int .i64 r37.2.2.2.2.2.2.2.2.2.2))])), (0, (.cells [(.d (.sl (List.map TNode.enc a0.fNodes)))])), (1, (.cells [(.d (.sl (List.map TNode.enc a2.fNodes)))]))]) rfl rfl trivial rfl rfl rfl rfl rfl ?_
                refine RegV.p0 rfl rfl rfl ?_
                refine RegV.p0 rfl rfl rfl ?_
                refine RegV.nil1 (by kernel_rfl) ?_
                refine AWc.rg hmix rfl rfl ?_
                refine RegV.p0 (v := (.d (.int .i64 (IntKind.i64.wrap (y20_3 + (1 : Int)))))) rfl rfl rfl ?_
                refine RegV.p0 rfl rfl rfl ?_
                refine RegV.nil0 ?_
                exact ⟨(r37.2.2.2.2.2.2.2.2.1, r49.2.2.2.2.2.2.2.2.1, (IntKind.i64.wrap (y20_3 + (1 : Int)))), h20, ⟨rfl, [], [], rfl, rfl, ⟨⟨_, rfl, (.refl _)⟩, rfl, ⟨⟨_, rfl, (.refl _)⟩, rfl, ⟨⟨_, rfl, (.refl _)⟩, rfl, ⟨⟨_, rfl, (.refl _)⟩, rfl, ⟨⟨_, rfl, (.refl _)⟩, rfl, ⟨⟨_, rfl, (.refl _)⟩, rfl, trivial⟩⟩⟩⟩⟩⟩, ⟨⟨_, rfl, (.refl _)⟩, rfl, rfl, ⟨⟨_, rfl, (.refl _)⟩, rfl, rfl, trivial⟩⟩⟩⟩
  · have h20 := cond_neg c27 h20
    cases h20
    dsimp only at h
    refine AWc.exit ?_
    refine inBlk_eq ?_
    refine AWc.seq ?_
    refine AWc.rg hmix rfl rfl ?_
    refine RegV.p0 rfl rfl rfl ?_
    refine RegV.nil0 ?_
    have hr := Option.some.inj h
    subst hr
    exact AWc.ret (canQ (N := 66) (k := 0) (l' := [(8, (.d (.bool false)))]) (H' := []) rfl ⟨rfl, [], [], rfl, rfl, ⟨⟨_, rfl, (.refl _)⟩, rfl, trivial⟩,  trivial⟩ (doneA (.inr rfl) rfl ⟨trivial, trivial⟩ (.refl _) hasNil))
/-- courant/courantlaw09.awake -/
def C230 (N : Nat → Nat) : AFunc := { n := 23, params := 0, res := [.tmp 0], body :=
 (.seq (.region false [⟨(some 0), .mv (.k (.d (.bool false))), none, []⟩])
  (.seq (.region false [⟨(some 3), .build [(.int .i64 0), (.str []), (.sl []), (.sl []), (.sl []), (.bool false), (.str []), (.int .i64 0), (.sl []), (.int .i64 0)] [(0, 1, (.k (.d (.int .i64 3))))], none, []⟩,
    ⟨(some 4), .bslice 1 10 [(.int .i64 0), (.str []), (.sl []), (.sl []), (.sl []), (.bool false), (.str []), (.int .i64 0), (.sl []), (.int .i64 0)] [(0, (.t 3))], none, [0]⟩,
    ⟨(some 5), .build [(.sl [])] [(0, 1, (.t 4))], none, [1]⟩,
    ⟨(some 6), .build [(.int .i64 0), (.str []), (.sl []), (.sl []), (.sl []), (.bool false), (.str []), (.int .i64 0), (.sl []), (.int .i64 0)] [(0, 1, (.k (.d (.int .i64 4))))], none, []⟩,
    ⟨(some 7), .bslice 1 10 [(.int .i64 0), (.str []), (.sl []), (.sl []), (.sl []), (.bool false), (.str []), (.int .i64 0), (.sl []), (.int .i64 0)] [(0, (.t 6))], none, [3]⟩,
    ⟨(some 8), .build [(.sl [])] [(0, 1, (.t 7))], none, [4]⟩,
    ⟨(some 1), .alloc [(.sl [])], none, []⟩,
    ⟨(some 2), .alloc [(.sl [])], none, []⟩,
    ⟨none, .store (.t 1) (.t 5) 1, none, [6, 2, 0, 1, 7]⟩,
    ⟨none, .store (.t 2) (.t 8) 1, none, [7, 5, 8, 0, 1, 2, 3, 4, 6]⟩])
   (.seq (.region false [⟨(some 9), .load (.t 1) 1 true, none, []⟩,
     ⟨(some 10), .load (.t 2) 1 true, none, []⟩,
     ⟨(some 11), .call (.k (.d (.fn (N 231)))) [(.t 9), (.k (.d (.int .i64 0))), (.t 10), (.k (.d (.int .i64 0)))], none, [0, 1]⟩,
     ⟨(some 12), .mv (.t 11), none, [2]⟩,
     ⟨(some 13), .load (.t 2) 1 true, (some (12, true)), [3]⟩,
     ⟨(some 14), .load (.t 1) 1 true, (some (12, true)), [3]⟩,
     ⟨(some 15), .call (.k (.d (.fn (N 231)))) [(.t 13), (.k (.d (.int .i64 0))), (.t 14), (.k (.d (.int .i64 0)))], (some (12, true)), [4, 5, 3]⟩,
     ⟨(some 16), .un .not (.t 15), (some (12, true)), [6, 3]⟩,
     ⟨(some 17), .pick (.t 12) (.t 16) (.k (.d (.bool false))), none, [3, 7]⟩,
     ⟨(some 18), .mv (.t 17), none, [8, 6]⟩,
     ⟨(some 19), .build [(.int .i64 0), (.str []), (.sl []), (.sl []), (.sl []), (.bool false), (.str []), (.int .i64 0), (.sl []), (.int .i64 0)] [(1, 1, (.k (.d (.str [97, 46, 98]))))], (some (18, true)), [9]⟩,
     ⟨(some 20), .build [(.int .i64 0), (.str []), (.sl []), (.sl []), (.sl []), (.bool false), (.str []), (.int .i64 0), (.sl []), (.int .i64 0)] [(1, 1, (.k (.d (.str [99, 46, 98]))))], (some (18, true)), [9]⟩,
     ⟨(some 21), .call (.k (.d (.fn (N 234)))) [(.t 19), (.t 20)], (some (18, true)), [10, 11, 9]⟩,
     ⟨(some 22), .pick (.t 18) (.t 21) (.k (.d (.bool false))), none, [9, 12]⟩,
     ⟨(some 0), .mv (.t 22), none, [13, 12, 0, 1, 2, 3, 4, 5, 6, 7, 8, 9, 10, 11]⟩])
    .ret))) }
def HC230 (P : Program) (N : Nat → Nat) : Prop := HasF P (N 230) (C230 N) ∧ HC231 P N ∧ HC234 P N
def f230 (k : Nat) : Option Bool := (f231 k (TSchema.mk ([(TNode.mk (3 : Int) ([] : List UInt8) ([] : List (List UInt8)) ([] : List TField) ([] : List (List UInt8)) false ([] : List UInt8) (0 : Int) ([] : List Int) (0 : Int))] : List TNode)) (0 : Int) (TSchema.mk ([(TNode.mk (4 : Int) ([] : List UInt8) ([] : List (List UInt8)) ([] : List TField) ([] : List (List UInt8)) false ([] : List UInt8) (0 : Int) ([] : List Int) (0 : Int))] : List TNode)) (0 : Int)).bind fun r23 => cond r23 ((f231 k (TSchema.mk ([(TNode.mk (4 : Int) ([] : List UInt8) ([] : List (List UInt8)) ([] : List TField) ([] : List (List UInt8)) false ([] : List UInt8) (0 : Int) ([] : List Int) (0 : Int))] : List TNode)) (0 : Int) (TSchema.mk ([(TNode.mk (3 : Int) ([] : List UInt8) ([] : List (List UInt8)) ([] : List TField) ([] : List (List UInt8)) false ([] : List UInt8) (0 : Int) ([] : List Int) (0 : Int))] : List TNode)) (0 : Int)).bind fun r27 => cond (!r27) ((f234 k (TNode.mk (0 : Int) ([97, 46, 98] : List UInt8) ([] : List (List UInt8)) ([] : List TField) ([] : List (List UInt8)) false ([] : List UInt8) (0 : Int) ([] : List Int) (0 : Int)) (TNode.mk (0 : Int) ([99, 46, 98] : List UInt8) ([] : List (List UInt8)) ([] : List TField) ([] : List (List UInt8)) false ([] : List UInt8) (0 : Int) ([] : List Int) (0 : Int))).bind fun r33 => some r33) (some false)) (some false)
theorem F230 {P : Program} {N : Nat → Nat} (hmix : P.follows .mixedOrders = true) (hc : HC230 P N) {k : Nat} {r : Bool} (h : f230 k = some r) :
    ACalls P (N 230) [] [] (.d (.bool r)) [] := by
  refine acalls_canon (F := C230 N) hc.1 0 0 rfl ?_
  unfold f230 at h
  dsimp only [C230, startL]
  refine AWc.seq ?_
  refine AWc.rg hmix rfl rfl ?_
  refine RegV.p0 rfl rfl rfl ?_
  refine RegV.nil0 ?_
  refine AWc.seq ?_
  refine AWc.rg hmix rfl rfl ?_
  refine RegV.p1 (v := (.d (.agg [(.int .i64 (3 : Int)), (.str ([] : List UInt8)), (.sl (List.map D.str ([] : List (List UInt8)))), (.sl (List.map TField.enc ([] : List TField))), (.sl (List.map D.str ([] : List (List UInt8)))), (.bool false), (.str ([] : List UInt8)), (.int .i64 (0 : Int)), (.sl (List.map (D.int .i64) ([] : List Int))), (.int .i64 (0 : Int))]))) rfl rfl (by exact ⟨⟨rfl, Nat.le_of_ble_eq_true rfl⟩, trivial⟩) rfl rfl ?_
  refine RegV.p1 (v := (.d (.sl (List.map TNode.enc ([(TNode.mk (3 : Int) ([] : List UInt8) ([] : List (List UInt8)) ([] : List TField) ([] : List (List UInt8)) false ([] : List UInt8) (0 : Int) ([] : List Int) (0 : Int))] : List TNode))))) rfl rfl (by exact ⟨rfl, Nat.le_of_ble_eq_true rfl, mapLen (e := TNode.enc) (xs := ([(TNode.mk (3 : Int) ([] : List UInt8) ([] : List (List UInt8)) ([] : List TField) ([] : List (List UInt8)) false ([] : List UInt8) (0 : Int) ([] : List Int) (0 : Int))] : List TNode)) (z := 10) (fun _ => rfl)⟩) rfl rfl ?_
  refine RegV.p1 (v := (.d (.agg [(.sl (List.map TNode.enc ([(TNode.mk (3 : Int) ([] : List UInt8) ([] : List (List UInt8)) ([] : List TField) ([] : List (List UInt8)) false ([] : List UInt8) (0 : Int) ([] : List Int) (0 : Int))] : List TNode)))]))) rfl rfl (by exact ⟨⟨rfl, Nat.le_of_ble_eq_true rfl⟩, trivial⟩) rfl rfl ?_
  refine RegV.p1 (v := (.d (.agg [(.int .i64 (4 : Int)), (.str ([] : List UInt8)), (.sl (List.map D.str ([] : List (List UInt8)))), (.sl (List.map TField.enc ([] : List TField))), (.sl (List.map D.str ([] : List (List UInt8)))), (.bool false), (.str ([] : List UInt8)), (.int .i64 (0 : Int)), (.sl (List.map (D.int .i64) ([] : List Int))), (.int .i64 (0 : Int))]))) rfl rfl (by exact ⟨⟨rfl, Nat.le_of_ble_eq_true rfl⟩, trivial⟩) rfl rfl ?_
  refine RegV.p1 (v := (.d (.sl (List.map TNode.enc ([(TNode.mk (4 : Int) ([] : List UInt8) ([] : List (List UInt8)) ([] : List TField) ([] : List (List UInt8)) false ([] : List UInt8) (0 : Int) ([] : List Int) (0 : Int))] : List TNode))))) rfl rfl (by exact ⟨rfl, Nat.le_of_ble_eq_true rfl, mapLen (e := TNode.enc) (xs := ([(TNode.mk (4 : Int) ([] : List UInt8) ([] : List (List UInt8)) ([] : List TField) ([] : List (List UInt8)) false ([] : List UInt8) (0 : Int) ([] : List Int) (0 : Int))] : List TNode)) (z := 10) (fun _ => rfl)⟩) rfl rfl ?_
  refine RegV.p1 (v := (.d (.agg [(.sl (List.map TNode.enc ([(TNode.mk (4 : Int) ([] : List UInt8) ([] : List (List UInt8)) ([] : List TField) ([] : List (List UInt8)) false ([] : List UInt8) (0 : Int) ([] : List Int) (0 : Int))] : List TNode)))]))) rfl rfl (by exact ⟨⟨rfl, Nat.le_of_ble_eq_true rfl⟩, trivial⟩) rfl rfl ?_
  refine RegV.evS (own := false) (v := (.ptr 0 0)) (H' := [(0, (.cells [.nils]))]) (c' := 1) rfl rfl trivial rfl rfl rfl rfl rfl rfl ?_
  refine RegV.evS (own := false) (v := (.ptr 1 0)) (H' := [(1, (.cells [.nils])), (0, (.cells [.nils]))]) (c' := 2) rfl rfl trivial rfl rfl rfl rfl rfl rfl ?_
  refine RegV.evN (own := false) (H' := [(0, (.cells [(.d (.sl (List.map TNode.enc ([(TNode.mk (3 : Int) ([] : List UInt8) ([] : List (List UInt8)) ([] : List TField) ([] : List (List UInt8)) false ([] : List UInt8) (0 : Int) ([] : List Int) (0 : Int))] : List TNode))))])), (1, (.cells [.nils]))]) (c' := 2) rfl rfl (by exact ⟨rfl, Nat.le_of_ble_eq_true rfl, rfl⟩) rfl rfl rfl rfl ?_
  refine RegV.evN (own := false) (H' := [(1, (.cells [(.d (.sl (List.map TNode.enc ([(TNode.mk (4 : Int) ([] : List UInt8) ([] : List (List UInt8)) ([] : List TField) ([] : List (List UInt8)) false ([] : List UInt8) (0 : Int) ([] : List Int) (0 : Int))] : List TNode))))])), (0, (.cells [(.d (.sl (List.map TNode.enc ([(TNode.mk (3 : Int) ([] : List UInt8) ([] : List (List UInt8)) ([] : List TField) ([] : List (List UInt8)) false ([] : List UInt8) (0 : Int) ([] : List Int) (0 : Int))] : List TNode))))]))]) (c' := 2) rfl rfl (by exact ⟨rfl, Nat.le_of_ble_eq_true rfl, rfl⟩) rfl rfl rfl rfl ?_
  refine RegV.nil0 ?_
  refine AWc.seq ?_
  refine AWc.rg hmix rfl rfl ?_
  refine RegV.ld (v := (.d (.agg [(.sl (List.map TNode.enc ([(TNode.mk (3 : Int) ([] : List UInt8) ([] : List (List UInt8)) ([] : List TField) ([] : List (List UInt8)) false ([] : List UInt8) (0 : Int) ([] : List Int) (0 : Int))] : List TNode)))]))) (H' := [(0, (.cells [(.d (.sl (List.map TNode.enc ([(TNode.mk (3 : Int) ([] : List UInt8) ([] : List (List UInt8)) ([] : List TField) ([] : List (List UInt8)) false ([] : List UInt8) (0 : Int) ([] : List Int) (0 : Int))] : List TNode))))])), (1, (.cells [(.d (.sl (List.map TNode.enc ([(TNode.mk (4 : Int) ([] : List UInt8) ([] : List (List UInt8)) ([] : List TField) ([] : List (List UInt8)) false ([] : List UInt8) (0 : Int) ([] : List Int) (0 : Int))] : List TNode))))]))]) rfl rfl (Nat.le_of_ble_eq_true rfl) rfl rfl rfl rfl rfl ?_
  refine RegV.ld (v := (.d (.agg [(.sl (List.map TNode.enc ([(TNode.mk (4 : Int) ([] : List UInt8) ([] : List (List UInt8)) ([] : List TField) ([] : List (List UInt8)) false ([] : List UInt8) (0 : Int) ([] : List Int) (0 : Int))] : List TNode)))]))) (H' := [(1, (.cells [(.d (.sl (List.map TNode.enc ([(TNode.mk (4 : Int) ([] : List UInt8) ([] : List (List UInt8)) ([] : List TField) ([] : List (List UInt8)) false ([] : List UInt8) (0 : Int) ([] : List Int) (0 : Int))] : List TNode))))])), (0, (.cells [(.d (.sl (List.map TNode.enc ([(TNode.mk (3 : Int) ([] : List UInt8) ([] : List (List UInt8)) ([] : List TField) ([] : List (List UInt8)) false ([] : List UInt8) (0 : Int) ([] : List Int) (0 : Int))] : List TNode))))]))]) rfl rfl (Nat.le_of_ble_eq_true rfl) rfl rfl rfl rfl rfl ?_
  obtain ⟨r23, e23, h⟩ := bind_some h
  refine RegV.call0 (F231 hmix hc.2.1 e23) rfl rfl rfl rfl (.cons (.refl _) (.cons (.refl _) (.cons (.refl _) (.cons (.refl _) .nil)))) rfl ?_
  refine RegV.p0 rfl rfl rfl ?_
  refine RegV.split (fun c24 => ?_) (fun c24 => ?_)
  · have h := cond_pos c24 h
    refine RegV.ld (v := (.d (.agg [(.sl (List.map TNode.enc ([(TNode.mk (4 : Int) ([] : List UInt8) ([] : List (List UInt8)) ([] : List TField) ([] : List (List UInt8)) false ([] : List UInt8) (0 : Int) ([] : List Int) (0 : Int))] : List TNode)))]))) (H' := [(1, (.cells [(.d (.sl (List.map TNode.enc ([(TNode.mk (4 : Int) ([] : List UInt8) ([] : List (List UInt8)) ([] : List TField) ([] : List (List UInt8)) false ([] : List UInt8) (0 : Int) ([] : List Int) (0 : Int))] : List TNode))))])), (0, (.cells [(.d (.sl (List.map TNode.enc ([(TNode.mk (3 : Int) ([] : List UInt8) ([] : List (List UInt8)) ([] : List TField) ([] : List (List UInt8)) false ([] : List UInt8) (0 : Int) ([] : List Int) (0 : Int))] : List TNode))))]))]) rfl rfl (Nat.le_of_ble_eq_true rfl) rfl rfl rfl rfl rfl ?_
    refine RegV.ld (v := (.d (.agg [(.sl (List.map TNode.enc ([(TNode.mk (3 : Int) ([] : List UInt8) ([] : List (List UInt8)) ([] : List TField) ([] : List (List UInt8)) false ([] : List UInt8) (0 : Int) ([] : List Int) (0 : Int))] : List TNode)))]))) (H' := [(0, (.cells [(.d (.sl (List.map TNode.enc ([(TNode.mk (3 : Int) ([] : List UInt8) ([] : List (List UInt8)) ([] : List TField) ([] : List (List UInt8)) false ([] : List UInt8) (0 : Int) ([] : List Int) (0 : Int))] : List TNode))))])), (1, (.cells [(.d (.sl (List.map TNode.enc ([(TNode.mk (4 : Int) ([] : List UInt8) ([] : List (List UInt8)) ([] : List TField) ([] : List (List UInt8)) false ([] : List UInt8) (0 : Int) ([] : List Int) (0 : Int))] : List TNode))))]))]) rfl rfl (Nat.le_of_ble_eq_true rfl) rfl rfl rfl rfl rfl ?_
    obtain ⟨r27, e27, h⟩ := bind_some h
    refine RegV.call0 (F231 hmix hc.2.1 e27) rfl rfl rfl rfl (.cons (.refl _) (.cons (.refl _) (.cons (.refl _) (.cons (.refl _) .nil)))) rfl ?_
    refine RegV.p0 (v := (.d (.bool (!r27)))) rfl rfl rfl ?_
    refine RegV.p0 rfl rfl rfl ?_
    refine RegV.p0 rfl rfl rfl ?_
    refine RegV.split (fun c30 => ?_) (fun c30 => ?_)
    · have h := cond_pos c30 h
      refine RegV.p1 (v := (.d (.agg [(.int .i64 (0 : Int)), (.str ([97, 46, 98] : List UInt8)), (.sl (List.map D.str ([] : List (List UInt8)))), (.sl (List.map TField.enc ([] : List TField))), (.sl (List.map D.str ([] : List (List UInt8)))), (.bool false), (.str ([] : List UInt8)), (.int .i64 (0 : Int)), (.sl (List.map (D.int .i64) ([] : List Int))), (.int .i64 (0 : Int))]))) rfl rfl (by exact ⟨⟨rfl, Nat.le_of_ble_eq_true rfl⟩, trivial⟩) rfl rfl ?_
      refine RegV.p1 (v := (.d (.agg [(.int .i64 (0 : Int)), (.str ([99, 46, 98] : List UInt8)), (.sl (List.map D.str ([] : List (List UInt8)))), (.sl (List.map TField.enc ([] : List TField))), (.sl (List.map D.str ([] : List (List UInt8)))), (.bool false), (.str ([] : List UInt8)), (.int .i64 (0 : Int)), (.sl (List.map (D.int .i64) ([] : List Int))), (.int .i64 (0 : Int))]))) rfl rfl (by exact ⟨⟨rfl, Nat.le_of_ble_eq_true rfl⟩, trivial⟩) rfl rfl ?_
      obtain ⟨r33, e33, h⟩ := bind_some h
      refine RegV.call0 (F234 hmix hc.2.2 e33) rfl rfl rfl rfl (.cons (.refl _) (.cons (.refl _) .nil)) rfl ?_
      refine RegV.p0 rfl rfl rfl ?_
      refine RegV.p0 rfl rfl rfl ?_
      refine RegV.nil0 ?_
      have hr := Option.some.inj h
      subst hr
      exact AWc.ret (canQ (N := 23) (k := 0) (l' := [(0, (.d (.bool r33)))]) (H' := []) rfl ⟨rfl, [], [], rfl, rfl, ⟨⟨_, rfl, (.refl _)⟩, rfl, trivial⟩,  trivial⟩ (doneA (.inr rfl) rfl ⟨trivial, trivial⟩ (.refl _) hasNil))
    · have h := cond_neg c30 h
      refine RegV.noS rfl rfl ?_
      refine RegV.noS rfl rfl ?_
      refine RegV.noS rfl rfl ?_
      refine RegV.p0 rfl rfl rfl ?_
      refine RegV.p0 rfl rfl rfl ?_
      refine RegV.nil0 ?_
      have hr := Option.some.inj h
      subst hr
      exact AWc.ret (canQ (N := 23) (k := 0) (l' := [(0, (.d (.bool false)))]) (H' := []) rfl ⟨rfl, [], [], rfl, rfl, ⟨⟨_, rfl, (.refl _)⟩, rfl, trivial⟩,  trivial⟩ (doneA (.inr rfl) rfl ⟨trivial, trivial⟩ (.refl _) hasNil))
  · have h := cond_neg c24 h
    refine RegV.noS rfl rfl ?_
    refine RegV.noS rfl rfl ?_
    refine RegV.noS rfl rfl ?_
    refine RegV.noS rfl rfl ?_
    refine RegV.p0 rfl rfl rfl ?_
    refine RegV.p0 rfl rfl rfl ?_
    refine RegV.noS rfl rfl ?_
    refine RegV.noS rfl rfl ?_
    refine RegV.noS rfl rfl ?_
    refine RegV.p0 rfl rfl rfl ?_
    refine RegV.p0 rfl rfl rfl ?_
    refine RegV.nil0 ?_
    have hr := Option.some.inj h
    subst hr
    exact AWc.ret (canQ (N := 23) (k := 0) (l' := [(0, (.d (.bool false)))]) (H' := []) rfl ⟨rfl, [], [], rfl, rfl, ⟨⟨_, rfl, (.refl _)⟩, rfl, trivial⟩,  trivial⟩ (doneA (.inr rfl) rfl ⟨trivial, trivial⟩ (.refl _) hasNil))
/-- courant/match.Branch -/
def C241 (N : Nat → Nat) : AFunc := { n := 38, params := 4, res := [.tmp 8], body :=
 (.seq (.region false [⟨(some 4), .box (.t 0), none, []⟩,
   ⟨(some 6), .box (.t 2), none, []⟩,
   ⟨(some 8), .mv (.k (.d (.int .i64 0))), none, []⟩])
  (.scope (.seq (.region false [⟨(some 14), .load (.t 6) 1 true, none, []⟩,
     ⟨(some 15), .mv (.t 3), none, []⟩,
     ⟨(some 16), .call (.k (.d (.fn (N 232)))) [(.t 14), (.t 15)], none, [0, 1]⟩,
     ⟨(some 13), .mv (.t 16), none, [2]⟩,
     ⟨(some 17), .ext (.t 13) 0, none, [3]⟩,
     ⟨(some 18), .ext (.t 13) 1, none, [3]⟩,
     ⟨(some 9), .alloc [(.int .i64 0), (.str []), (.sl []), (.sl []), (.sl []), (.bool false), (.str []), (.int .i64 0), (.sl []), (.int .i64 0)], none, []⟩,
     ⟨none, .store (.t 9) (.t 17) 10, none, [6, 4, 2, 0, 1, 3]⟩,
     ⟨(some 10), .mv (.t 18), none, [5, 7, 0, 1, 2, 3, 4, 6]⟩])
    (.seq (.seq (.region false [⟨(some 19), .faddr (.t 9) 0, none, []⟩,
       ⟨(some 20), .load (.t 19) 1 false, none, [0]⟩,
       ⟨(some 21), .bin .neq (.t 20) (.k (.d (.int .i64 13))), none, [1]⟩])
      (.cond (.t 21) (.seq (.region false [⟨(some 8), .mv (.k (.d (.int .i64 (-1)))), none, []⟩])
        .ret)
       (.skip)))
     (.seq (.label 0)
      (.seq (.seq (.region false [⟨(some 22), .faddr (.t 9) 8, none, []⟩,
         ⟨(some 23), .load (.t 22) 1 false, none, [0]⟩,
         ⟨(some 24), .len (.t 23), none, [1]⟩,
         ⟨(some 25), .mv (.k (.d (.int .i64 0))), none, []⟩])
        (.block 0 (.loop (.seq (.region false [⟨(some 26), .bin .lss (.t 25) (.t 24), none, []⟩])
           (.seq (.cond (.t 26) (.skip)
             (.exit 0))
            (.seq (.block 1 (.seq (.region false [⟨(some 27), .mv (.t 25), none, []⟩,
                ⟨(some 28), .iaddr (.t 23) (.t 25) 1, none, []⟩,
                ⟨(some 29), .load (.t 28) 1 false, none, [1]⟩,
                ⟨(some 11), .mv (.t 27), none, [0, 1, 2]⟩,
                ⟨(some 12), .mv (.t 29), none, [2, 3, 0, 1]⟩])
               (.seq (.seq (.region false [⟨(some 30), .load (.t 4) 1 true, none, []⟩,
                  ⟨(some 31), .mv (.t 1), none, []⟩,
                  ⟨(some 32), .load (.t 6) 1 true, none, []⟩,
                  ⟨(some 33), .mv (.t 12), none, []⟩,
                  ⟨(some 34), .call (.k (.d (.fn (N 231)))) [(.t 30), (.t 31), (.t 32), (.t 33)], none, [0, 1, 2, 3]⟩,
                  ⟨(some 35), .un .not (.t 34), none, [4]⟩])
                 (.cond (.t 35) (.exit 1)
                  (.skip)))
                (.seq (.region false [⟨(some 36), .mv (.t 11), none, []⟩,
                  ⟨(some 8), .mv (.t 36), none, [0]⟩])
                 .ret))))
             (.region false [⟨(some 37), .bin .add (.t 25) (.k (.d (.int .i64 1))), none, []⟩,
              ⟨(some 25), .mv (.t 37), none, [0]⟩])))))))
       (.seq (.region false [⟨(some 8), .mv (.k (.d (.int .i64 (-1)))), none, []⟩])
        .ret))))))) }
def HC241 (P : Program) (N : Nat → Nat) : Prop := HasF P (N 241) (C241 N) ∧ HC232 P N ∧ HC231 P N
def f241_l44 (r13 : (Bool × Int × (List UInt8) × (List (List UInt8)) × (List TField) × (List (List UInt8)) × Bool × (List UInt8) × Int × (List Int) × Int)) (a0 : TSchema) (a1 : Int) (a2 : TSchema) : Nat → Int → Option (LR2 Unit Unit Int)
  | 0, _ => none
  | k + 1, y44_1 => cond (decide (y44_1 < ((r13.2.2.2.2.2.2.2.2.2.1.length : Nat) : Int))) (gd (0 ≤ y44_1 ∧ y44_1 < ((r13.2.2.2.2.2.2.2.2.2.1.length : Nat) : Int)) ((f231 k (TSchema.mk a0.fNodes) a1 (TSchema.mk a2.fNodes) (rd r13.2.2.2.2.2.2.2.2.2.1 y44_1)).bind fun r72 => cond (!r72) (f241_l44 r13 a0 a1 a2 k (IntKind.i64.wrap (y44_1 + (1 : Int)))) (some (.r y44_1)))) (some (.b0 ()))
def f241 (k : Nat) (a0 : TSchema) (a1 : Int) (a2 : TSchema) (a3 : Int) : Option Int := (f232 k (TSchema.mk a2.fNodes) a3).bind fun r13 => cond (decide (r13.2.1 ≠ (13 : Int))) (some (-1 : Int)) ((f241_l44 r13 a0 a1 a2 k (0 : Int)).bind fun o44 => match o44 with | .b0 () => some (-1 : Int) | .r x => some x | _ => none)
theorem F241 {P : Program} {N : Nat → Nat} (hmix : P.follows .mixedOrders = true) (hc : HC241 P N) {k : Nat} {a0 : TSchema} {a1 : Int} {a2 : TSchema} {a3 : Int} {r : Int} (h : f241 k a0 a1 a2 a3 = some r) :
    ACalls P (N 241) [(.d (TSchema.enc a0)), (.d (.int .i64 a1)), (.d (TSchema.enc a2)), (.d (.int .i64 a3))] [] (.d (.int .i64 r)) [] := by
  refine acalls_canon (F := C241 N) hc.1 0 0 rfl ?_
  unfold f241 at h
  dsimp only [C241, startL]
  refine AWc.seq ?_
  refine AWc.rg hmix rfl rfl ?_
  refine RegV.evS (own := false) (v := (.ptr 0 0)) (H' := [(0, (.cells [(.d (.sl (List.map TNode.enc a0.fNodes)))]))]) (c' := 1) rfl rfl trivial rfl rfl rfl rfl rfl rfl ?_
  refine RegV.evS (own := false) (v := (.ptr 1 0)) (H' := [(1, (.cells [(.d (.sl (List.map TNode.enc a2.fNodes)))])), (0, (.cells [(.d (.sl (List.map TNode.enc a0.fNodes)))]))]) (c' := 2) rfl rfl trivial rfl rfl rfl rfl rfl rfl ?_
  refine RegV.p0 rfl rfl rfl ?_
  refine RegV.nil0 ?_
  refine AWc.scope ?_
  refine AWc.seq ?_
  refine AWc.rg hmix rfl rfl ?_
  refine RegV.ld (v := (.d (.agg [(.sl (List.map TNode.enc a2.fNodes))]))) (H' := [(1, (.cells [(.d (.sl (List.map TNode.enc a2.fNodes)))])), (0, (.cells [(.d (.sl (List.map TNode.enc a0.fNodes)))]))]) rfl rfl (Nat.le_of_ble_eq_true rfl) rfl rfl rfl rfl rfl ?_
  refine RegV.p0 rfl rfl rfl ?_
  obtain ⟨r13, e13, h⟩ := bind_some h
  refine RegV.call0 (F232 hmix hc.2.1 e13) rfl rfl rfl rfl (.cons (.refl _) (.cons (.refl _) .nil)) rfl ?_
  refine RegV.p0 rfl rfl rfl ?_
  refine RegV.p0 rfl rfl rfl ?_
  refine RegV.p0 rfl rfl rfl ?_
  refine RegV.evS (own := false) (v := (.ptr 2 0)) (H' := [(2, (.cells [(.d (.int .i64 (0 : Int))), (.d (.str ([] : List UInt8))), .nils, .nils, .nils, (.d (.bool false)), (.d (.str ([] : List UInt8))), (.d (.int .i64 (0 : Int))), .nils, (.d (.int .i64 (0 : Int)))])), (1, (.cells [(.d (.sl (List.map TNode.enc a2.fNodes)))])), (0, (.cells [(.d (.sl (List.map TNode.enc a0.fNodes)))]))]) (c' := 3) rfl rfl trivial rfl rfl rfl rfl rfl rfl ?_
  refine RegV.evN (own := false) (H' := [(2, (.cells [(.d (.int .i64 r13.2.1)), (.d (.str r13.2.2.1)), (.d (.sl (List.map D.str r13.2.2.2.1))), (.d (.sl (List.map TField.enc r13.2.2.2.2.1))), (.d (.sl (List.map D.str r13.2.2.2.2.2.1))), (.d (.bool r13.2.2.2.2.2.2.1)), (.d (.str r13.2.2.2.2.2.2.2.1)), (.d (.int .i64 r13.2.2.2.2.2.2.2.2.1)), (.d (.sl (List.map (D.int .i64) r13.2.2.2.2.2.2.2.2.2.1))), (.d (.int .i64 r13.2.2.2.2.2.2.2.2.2.2))])), (1, (.cells [(.d (.sl (List.map TNode.enc a2.fNodes)))])), (0, (.cells [(.d (.sl (List.map TNode.enc a0.fNodes)))]))]) (c' := 3) rfl rfl (by exact ⟨rfl, Nat.le_of_ble_eq_true rfl, rfl⟩) rfl rfl rfl rfl ?_
  refine RegV.p0 rfl rfl rfl ?_
  refine RegV.nil0 ?_
  refine AWc.seq ?_
  refine AWc.seq ?_
  refine AWc.rg hmix rfl rfl ?_
  refine RegV.p0 (v := (.ptr 2 0)) rfl rfl rfl ?_
  refine RegV.ld (v := (.d (.int .i64 r13.2.1))) (H' := [(2, (.cells [(.d (.int .i64 r13.2.1)), (.d (.str r13.2.2.1)), (.d (.sl (List.map D.str r13.2.2.2.1))), (.d (.sl (List.map TField.enc r13.2.2.2.2.1))), (.d (.sl (List.map D.str r13.2.2.2.2.2.1))), (.d (.bool r13.2.2.2.2.2.2.1)), (.d (.str r13.2.2.2.2.2.2.2.1)), (.d (.int .i64 r13.2.2.2.2.2.2.2.2.1)), (.d (.sl (List.map (D.int .i64) r13.2.2.2.2.2.2.2.2.2.1))), (.d (.int .i64 r13.2.2.2.2.2.2.2.2.2.2))])), (1, (.cells [(.d (.sl (List.map TNode.enc a2.fNodes)))])), (0, (.cells [(.d (.sl (List.map TNode.enc a0.fNodes)))]))]) rfl rfl trivial rfl rfl rfl rfl rfl ?_
  refine RegV.p0 (v := (.d (.bool (decide (r13.2.1 ≠ (13 : Int)))))) rfl rfl rfl ?_
  refine RegV.nil0 ?_
  refine AWc.cond rfl (fun c27 => ?_) (fun c27 => ?_)
  · have h := cond_pos c27 h
    refine AWc.seq ?_
    refine AWc.rg hmix rfl rfl ?_
    refine RegV.p0 rfl rfl rfl ?_
    refine RegV.nil0 ?_
    have hr := Option.some.inj h
    subst hr
    exact AWc.ret (canQ (N := 38) (k := 0) (l' := [(8, (.d (.int .i64 (-1 : Int))))]) (H' := []) rfl ⟨rfl, [], [], rfl, rfl, ⟨⟨_, rfl, (.refl _)⟩, rfl, trivial⟩,  trivial⟩ (doneA (.inr rfl) rfl ⟨trivial, trivial⟩ (.refl _) hasNil))
  · have h := cond_neg c27 h
    refine AWc.skip ?_
    refine AWc.seq ?_
    refine AWc.label ?_
    refine AWc.seq ?_
    refine AWc.seq ?_
    refine AWc.rg hmix rfl rfl ?_
    refine RegV.p0 (v := (.ptr 2 8)) rfl rfl rfl ?_
    refine RegV.ld (v := (.d (.sl (List.map (D.int .i64) r13.2.2.2.2.2.2.2.2.2.1)))) (H' := [(2, (.cells [(.d (.int .i64 r13.2.1)), (.d (.str r13.2.2.1)), (.d (.sl (List.map D.str r13.2.2.2.1))), (.d (.sl (List.map TField.enc r13.2.2.2.2.1))), (.d (.sl (List.map D.str r13.2.2.2.2.2.1))), (.d (.bool r13.2.2.2.2.2.2.1)), (.d (.str r13.2.2.2.2.2.2.2.1)), (.d (.int .i64 r13.2.2.2.2.2.2.2.2.1)), (.d (.sl (List.map (D.int .i64) r13.2.2.2.2.2.2.2.2.2.1))), (.d (.int .i64 r13.2.2.2.2.2.2.2.2.2.2))])), (1, (.cells [(.d (.sl (List.map TNode.enc a2.fNodes)))])), (0, (.cells [(.d (.sl (List.map TNode.enc a0.fNodes)))]))]) rfl rfl trivial rfl rfl rfl rfl rfl ?_
    refine RegV.len (xs := r13.2.2.2.2.2.2.2.2.2.1) (e := (D.int .i64)) rfl rfl rfl rfl ?_
    refine RegV.p0 rfl rfl rfl ?_
    refine RegV.nil0 ?_
    obtain ⟨o44, h44, h⟩ := bind_some h
    refine AWc.block ?_
    refine AWc.loopK (N := 38) 2 (fun (x : Int) => [(1, (.d (.int .i64 a1))), (4, (.ptr 0 0)), (6, (.ptr 1 0)), (23, (.d (.sl (List.map (D.int .i64) r13.2.2.2.2.2.2.2.2.2.1)))), (24, (.d (.int .i64 ((r13.2.2.2.2.2.2.2.2.2.1.length : Nat) : Int)))), (25, (.d (.int .i64 x)))]) (fun x => [(0, (.cells [(.d (.sl (List.map TNode.enc a0.fNodes)))])), (1, (.cells [(.d (.sl (List.map TNode.enc a2.fNodes)))]))]) (fun k x => f241_l44 r13 a0 a1 a2 k x = some o44) k (0 : Int) rfl_le (fun x hx => by cases hx) h44 ⟨rfl, [], [], rfl, rfl, ⟨⟨_, rfl, (.refl _)⟩, rfl, ⟨⟨_, rfl, (.refl _)⟩, rfl, ⟨⟨_, rfl, (.refl _)⟩, rfl, ⟨⟨_, rfl, (.refl _)⟩, rfl, ⟨⟨_, rfl, (.refl _)⟩, rfl, ⟨⟨_, rfl, (.refl _)⟩, rfl, trivial⟩⟩⟩⟩⟩⟩, ⟨⟨_, rfl, (.refl _)⟩, rfl, rfl, ⟨⟨_, rfl, (.refl _)⟩, rfl, rfl, trivial⟩⟩⟩ ?_
    clear h44
    intro k
    intro y44_1 h44
    rw [f241_l44] at h44
    refine AWc.seq ?_
    refine AWc.rg hmix rfl rfl ?_
    refine RegV.p0 (v := (.d (.bool (decide (y44_1 < ((r13.2.2.2.2.2.2.2.2.2.1.length : Nat) : Int)))))) rfl rfl rfl ?_
    refine RegV.nil0 ?_
    refine AWc.seq ?_
    refine AWc.cond rfl (fun c51 => ?_) (fun c51 => ?_)
    · have h44 := cond_pos c51 h44
      refine AWc.skip ?_
      refine AWc.seq ?_
      refine AWc.block ?_
      refine AWc.seq ?_
      refine AWc.rg hmix rfl rfl ?_
      refine RegV.p0 rfl rfl rfl ?_
      obtain ⟨b60, h44⟩ := gd_some h44
      refine RegV.iad (xs := r13.2.2.2.2.2.2.2.2.2.1) (e := (D.int .i64)) rfl rfl rfl rfl (fun _ => rfl) b60 rfl ?_
      refine RegV.p0 (v := (.d (.int .i64 (rd r13.2.2.2.2.2.2.2.2.2.1 y44_1)))) rfl rfl rfl ?_
      refine RegV.p0 rfl rfl rfl ?_
      refine RegV.p0 rfl rfl rfl ?_
      refine RegV.nil0 ?_
      refine AWc.seq ?_
      refine AWc.seq ?_
      refine AWc.rg hmix rfl rfl ?_
      refine RegV.ld (v := (.d (.agg [(.sl (List.map TNode.enc a0.fNodes))]))) (H' := [(0, (.cells [(.d (.sl (List.map TNode.enc a0.fNodes)))])), (1, (.cells [(.d (.sl (List.map TNode.enc a2.fNodes)))]))]) rfl rfl (Nat.le_of_ble_eq_true rfl) rfl rfl rfl rfl rfl ?_
      refine RegV.p0 rfl rfl rfl ?_
      refine RegV.ld (v := (.d (.agg [(.sl (List.map TNode.enc a2.fNodes))]))) (H' := [(1, (.cells [(.d (.sl (List.map TNode.enc a2.fNodes)))])), (0, (.cells [(.d (.sl (List.map TNode.enc a0.fNodes)))]))]) rfl rfl (Nat.le_of_ble_eq_true rfl) rfl rfl rfl rfl rfl ?_
      refine RegV.p0 rfl rfl rfl ?_
      obtain ⟨r72, e72, h44⟩ := bind_some h44
      refine RegV.call0 (F231 hmix hc.2.2 e72) rfl rfl rfl rfl (.cons (.refl _) (.cons (.refl _) (.cons (.refl _) (.cons (.refl _) .nil)))) rfl ?_
      refine RegV.p0 (v := (.d (.bool (!r72)))) rfl rfl rfl ?_
      refine RegV.nil0 ?_
      refine AWc.cond rfl (fun c74 => ?_) (fun c74 => ?_)
      · have h44 := cond_pos c74 h44
        refine AWc.exit ?_
        refine inBlk_eq ?_
        refine AWc.rg hmix rfl rfl ?_
        refine RegV.p0 (v := (.d (.int .i64 (IntKind.i64.wrap (y44_1 + (1 : Int)))))) rfl rfl rfl ?_
        refine RegV.p0 rfl rfl rfl ?_
        refine RegV.nil0 ?_
        exact ⟨(IntKind.i64.wrap (y44_1 + (1 : Int))), h44, ⟨rfl, [], [], rfl, rfl, ⟨⟨_, rfl, (.refl _)⟩, rfl, ⟨⟨_, rfl, (.refl _)⟩, rfl, ⟨⟨_, rfl, (.refl _)⟩, rfl, ⟨⟨_, rfl, (.refl _)⟩, rfl, ⟨⟨_, rfl, (.refl _)⟩, rfl, ⟨⟨_, rfl, (.refl _)⟩, rfl, trivial⟩⟩⟩⟩⟩⟩, ⟨⟨_, rfl, (.refl _)⟩, rfl, rfl, ⟨⟨_, rfl, (.refl _)⟩, rfl, rfl, trivial⟩⟩⟩⟩
      · have h44 := cond_neg c74 h44
        refine AWc.skip ?_
        refine AWc.seq ?_
        refine AWc.rg hmix rfl rfl ?_
        refine RegV.p0 rfl rfl rfl ?_
        refine RegV.p0 rfl rfl rfl ?_
        refine RegV.nil0 ?_
        cases h44
        dsimp only at h
        have hr := Option.some.inj h
        subst hr
        exact AWc.ret (canQ (N := 38) (k := 0) (l' := [(8, (.d (.int .i64 y44_1)))]) (H' := []) rfl ⟨rfl, [], [], rfl, rfl, ⟨⟨_, rfl, (.refl _)⟩, rfl, trivial⟩,  trivial⟩ (doneA (.inr rfl) rfl ⟨trivial, trivial⟩ (.refl _) hasNil))
    · have h44 := cond_neg c51 h44
      cases h44
      dsimp only at h
      refine AWc.exit ?_
      refine inBlk_eq ?_
      refine AWc.seq ?_
      refine AWc.rg hmix rfl rfl ?_
      refine RegV.p0 rfl rfl rfl ?_
      refine RegV.nil0 ?_
      have hr := Option.some.inj h
      subst hr
      exact AWc.ret (canQ (N := 38) (k := 0) (l' := [(8, (.d (.int .i64 (-1 : Int))))]) (H' := []) rfl ⟨rfl, [], [], rfl, rfl, ⟨⟨_, rfl, (.refl _)⟩, rfl, trivial⟩,  trivial⟩ (doneA (.inr rfl) rfl ⟨trivial, trivial⟩ (.refl _) hasNil))
/-- courant/courantlaw09.MatchFirst -/
def C228 (N : Nat → Nat) : AFunc := { n := 94, params := 4, res := [.tmp 8], body :=
 (.seq (.region false [⟨(some 4), .box (.t 0), none, []⟩,
   ⟨(some 5), .box (.t 1), none, []⟩,
   ⟨(some 8), .mv (.k (.d (.bool false))), none, []⟩])
  (.seq (.seq (.region false [⟨(some 12), .load (.t 4) 1 true, none, []⟩,
     ⟨(some 13), .call (.k (.d (.fn (N 229)))) [(.t 12)], none, [0]⟩,
     ⟨(some 14), .un .not (.t 13), none, [1]⟩,
     ⟨(some 15), .mv (.t 14), none, [2, 1]⟩,
     ⟨(some 16), .load (.t 5) 1 true, (some (15, false)), [3]⟩,
     ⟨(some 17), .call (.k (.d (.fn (N 229)))) [(.t 16)], (some (15, false)), [4, 3]⟩,
     ⟨(some 18), .un .not (.t 17), (some (15, false)), [5, 3]⟩,
     ⟨(some 19), .pick (.t 15) (.k (.d (.bool true))) (.t 18), none, [3, 6]⟩,
     ⟨(some 20), .mv (.t 19), none, [7, 5]⟩,
     ⟨(some 21), .mv (.t 3), (some (20, false)), [8]⟩,
     ⟨(some 22), .bin .lss (.t 21) (.k (.d (.int .i64 0))), (some (20, false)), [9, 8]⟩,
     ⟨(some 23), .pick (.t 20) (.k (.d (.bool true))) (.t 22), none, [8, 10]⟩,
     ⟨(some 24), .mv (.t 23), none, [11, 8]⟩,
     ⟨(some 25), .mv (.t 3), (some (24, false)), [12]⟩,
     ⟨(some 26), .faddr (.t 5) 0, (some (24, false)), [12]⟩,
     ⟨(some 27), .load (.t 26) 1 false, (some (24, false)), [14, 12]⟩,
     ⟨(some 28), .len (.t 27), (some (24, false)), [15, 12]⟩,
     ⟨(some 29), .bin .geq (.t 25) (.t 28), (some (24, false)), [13, 16, 12]⟩,
     ⟨(some 30), .pick (.t 24) (.k (.d (.bool true))) (.t 29), none, [12, 17]⟩])
    (.cond (.t 30) (.seq (.region false [⟨(some 31), .call (.k (.d (.fn (N 230)))) [], none, []⟩,
       ⟨(some 8), .mv (.t 31), none, [0]⟩])
      .ret)
     (.skip)))
   (.seq (.region false [⟨(some 32), .load (.t 4) 1 true, none, []⟩,
     ⟨(some 33), .mv (.t 2), none, []⟩,
     ⟨(some 34), .load (.t 5) 1 true, none, []⟩,
     ⟨(some 35), .mv (.t 3), none, []⟩,
     ⟨(some 36), .call (.k (.d (.fn (N 241)))) [(.t 32), (.t 33), (.t 34), (.t 35)], none, [0, 1, 2, 3]⟩,
     ⟨(some 9), .mv (.t 36), none, [4, 0, 1, 2, 3]⟩])
    (.seq (.region false [⟨(some 37), .faddr (.t 5) 0, none, []⟩,
      ⟨(some 38), .load (.t 37) 1 false, none, [0]⟩,
      ⟨(some 39), .mv (.t 3), none, []⟩,
      ⟨(some 40), .iaddr (.t 38) (.t 39) 10, none, [1, 2]⟩,
      ⟨(some 41), .faddr (.t 40) 8, none, [3]⟩,
      ⟨(some 42), .load (.t 41) 1 false, none, [4]⟩,
      ⟨(some 10), .mv (.t 42), none, [5, 0, 1, 2, 3, 4]⟩])
     (.seq (.seq (.region false [⟨(some 43), .call (.k (.d (.fn (N 230)))) [], none, []⟩,
        ⟨(some 44), .un .not (.t 43), none, [0]⟩,
        ⟨(some 45), .mv (.t 44), none, [1, 0]⟩,
        ⟨(some 46), .faddr (.t 5) 0, (some (45, false)), [2]⟩,
        ⟨(some 47), .load (.t 46) 1 false, (some (45, false)), [3, 2]⟩,
        ⟨(some 48), .mv (.t 3), (some (45, false)), [2]⟩,
        ⟨(some 49), .iaddr (.t 47) (.t 48) 10, (some (45, false)), [4, 5, 2]⟩,
        ⟨(some 50), .faddr (.t 49) 0, (some (45, false)), [6, 2]⟩,
        ⟨(some 51), .load (.t 50) 1 false, (some (45, false)), [7, 2]⟩,
        ⟨(some 52), .bin .neq (.t 51) (.k (.d (.int .i64 13))), (some (45, false)), [8, 2]⟩,
        ⟨(some 53), .pick (.t 45) (.k (.d (.bool true))) (.t 52), none, [2, 9]⟩])
       (.cond (.t 53) (.seq (.region false [⟨(some 54), .call (.k (.d (.fn (N 230)))) [], none, []⟩,
          ⟨(some 55), .mv (.t 54), none, [0]⟩,
          ⟨(some 56), .mv (.t 9), (some (55, true)), [1]⟩,
          ⟨(some 57), .bin .eql (.t 56) (.k (.d (.int .i64 (-1)))), (some (55, true)), [2, 1]⟩,
          ⟨(some 58), .pick (.t 55) (.t 57) (.k (.d (.bool false))), none, [1, 3]⟩,
          ⟨(some 8), .mv (.t 58), none, [4, 1, 0, 2, 3]⟩])
         .ret)
        (.skip)))
      (.seq (.seq (.region false [⟨(some 59), .mv (.t 9), none, []⟩,
         ⟨(some 60), .bin .lss (.t 59) (.k (.d (.int .i64 (-1)))), none, [0]⟩,
         ⟨(some 61), .mv (.t 60), none, [1]⟩,
         ⟨(some 62), .mv (.t 9), (some (61, false)), [2]⟩,
         ⟨(some 63), .mv (.t 10), (some (61, false)), [2]⟩,
         ⟨(some 64), .len (.t 63), (some (61, false)), [4, 2]⟩,
         ⟨(some 65), .bin .geq (.t 62) (.t 64), (some (61, false)), [3, 5, 2]⟩,
         ⟨(some 66), .pick (.t 61) (.k (.d (.bool true))) (.t 65), none, [2, 6]⟩])
        (.cond (.t 66) (.seq (.region false [⟨(some 8), .mv (.k (.d (.bool false))), none, []⟩])
          .ret)
         (.skip)))
       (.seq (.seq (.region false [⟨(some 11), .mv (.k (.d (.int .i64 0))), none, []⟩])
         (.block 0 (.loop (.seq (.seq (.region false [⟨(some 67), .mv (.t 11), none, []⟩,
              ⟨(some 68), .mv (.t 10), none, []⟩,
              ⟨(some 69), .len (.t 68), none, [1]⟩,
              ⟨(some 70), .bin .lss (.t 67) (.t 69), none, [0, 2]⟩,
              ⟨(some 71), .mv (.t 70), none, [3]⟩,
              ⟨(some 72), .mv (.t 9), (some (71, true)), [4]⟩,
              ⟨(some 73), .bin .lss (.t 72) (.k (.d (.int .i64 0))), (some (71, true)), [5, 4]⟩,
              ⟨(some 74), .mv (.t 73), (some (71, true)), [6, 4]⟩,
              ⟨(some 75), .mv (.t 11), (some (74, false)), [7]⟩,
              ⟨(some 76), .mv (.t 9), (some (74, false)), [7]⟩,
              ⟨(some 77), .bin .leq (.t 75) (.t 76), (some (74, false)), [8, 9, 7]⟩,
              ⟨(some 78), .pick (.t 74) (.k (.d (.bool true))) (.t 77), (some (71, true)), [7, 10, 4]⟩,
              ⟨(some 79), .pick (.t 71) (.t 78) (.k (.d (.bool false))), none, [4, 11]⟩])
             (.cond (.t 79) (.skip)
              (.exit 0)))
            (.seq (.block 1 (.seq (.region true [⟨(some 82), .load (.t 4) 1 true, none, []⟩,
                ⟨(some 83), .mv (.t 2), none, []⟩,
                ⟨(some 84), .load (.t 5) 1 true, none, []⟩,
                ⟨(some 85), .mv (.t 10), none, []⟩,
                ⟨(some 86), .mv (.t 11), none, []⟩,
                ⟨(some 87), .iaddr (.t 85) (.t 86) 1, none, [3, 4]⟩,
                ⟨(some 88), .load (.t 87) 1 false, none, [5]⟩,
                ⟨(some 89), .call (.k (.d (.fn (N 231)))) [(.t 82), (.t 83), (.t 84), (.t 88)], none, [0, 1, 2, 6]⟩,
                ⟨(some 90), .mv (.t 11), none, []⟩,
                ⟨(some 91), .mv (.t 9), none, []⟩,
                ⟨(some 92), .bin .eql (.t 90) (.t 91), none, [8, 9]⟩,
                ⟨(some 93), .beq true (.t 89) (.t 92), none, [7, 10]⟩])
               (.cond (.t 93) (.seq (.region false [⟨(some 8), .mv (.k (.d (.bool false))), none, []⟩])
                 .ret)
                (.skip))))
             (.region false [⟨(some 80), .mv (.t 11), none, []⟩,
              ⟨(some 81), .bin .add (.t 80) (.k (.d (.int .i64 1))), none, [0]⟩,
              ⟨(some 11), .mv (.t 81), none, [1, 0]⟩]))))))
        (.seq (.region false [⟨(some 8), .mv (.k (.d (.bool true))), none, []⟩])
         .ret)))))))) }
def HC228 (P : Program) (N : Nat → Nat) : Prop := HasF P (N 228) (C228 N) ∧ HC229 P N ∧ HC230 P N ∧ HC241 P N ∧ HC231 P N
def f228_j130 (L : Int → Option (LR2 Unit Unit Bool)) (k : Nat) (y108_1 : Int) (a1 : TSchema) (a3 : Int) (a0 : TSchema) (a2 : Int) (r45 : Int) (j130_1 : Bool) (j130_2 : Bool) : Option (LR2 Unit Unit Bool) := gd (0 ≤ y108_1 ∧ y108_1 < ((((rd a1.fNodes a3).fBranches).length : Nat) : Int)) ((f231 k (TSchema.mk a0.fNodes) a2 (TSchema.mk a1.fNodes) (rd ((rd a1.fNodes a3).fBranches) y108_1)).bind fun r142 => cond (!(r142 == (decide (y108_1 = r45)))) (some (.r false)) (L (IntKind.i64.wrap (y108_1 + (1 : Int)))))
def f228_l108 (a1 : TSchema) (a3 : Int) (r45 : Int) (a0 : TSchema) (a2 : Int) : Nat → Int → Option (LR2 Unit Unit Bool)
  | 0, _ => none
  | k + 1, y108_1 => cond (decide (y108_1 < ((((rd a1.fNodes a3).fBranches).length : Nat) : Int))) (cond (decide (r45 < (0 : Int))) (f228_j130 (f228_l108 a1 a3 r45 a0 a2 k) k y108_1 a1 a3 a0 a2 r45 true true) (cond (decide (y108_1 ≤ r45)) (f228_j130 (f228_l108 a1 a3 r45 a0 a2 k) k y108_1 a1 a3 a0 a2 r45 false (decide (y108_1 ≤ r45))) (some (.b0 ())))) (some (.b0 ()))
def f228_j72 (k : Nat) (r45 : Int) (a1 : TSchema) (a3 : Int) (a0 : TSchema) (a2 : Int) (j72_1 : Bool) : Option Bool := cond j72_1 ((f230 k).bind fun r76 => cond r76 (some (decide (r45 = (-1 : Int)))) (some false)) (cond (decide (r45 < (-1 : Int))) (some false) (cond (decide (r45 ≥ ((((rd a1.fNodes a3).fBranches).length : Nat) : Int))) (some false) ((f228_l108 a1 a3 r45 a0 a2 k (0 : Int)).bind fun o108 => match o108 with | .b0 () => some true | .r x => some x | _ => none)))
def f228 (k : Nat) (a0 : TSchema) (a1 : TSchema) (a2 : Int) (a3 : Int) : Option Bool := (f229 k (TSchema.mk a0.fNodes)).bind fun r12 => cond (!r12) ((f230 k).bind fun r34 => some r34) ((f229 k (TSchema.mk a1.fNodes)).bind fun r16 => cond (!r16) ((f230 k).bind fun r34 => some r34) (cond (decide (a3 < (0 : Int))) ((f230 k).bind fun r34 => some r34) (cond (decide (a3 ≥ ((a1.fNodes.length : Nat) : Int))) ((f230 k).bind fun r34 => some r34) ((f241 k (TSchema.mk a0.fNodes) a2 (TSchema.mk a1.fNodes) a3).bind fun r45 => gd (0 ≤ a3 ∧ a3 < ((a1.fNodes.length : Nat) : Int)) ((f230 k).bind fun r61 => cond (!r61) (f228_j72 k r45 a1 a3 a0 a2 true) (gd (0 ≤ a3 ∧ a3 < ((a1.fNodes.length : Nat) : Int)) (f228_j72 k r45 a1 a3 a0 a2 (decide ((rd a1.fNodes a3).fKind ≠ (13 : Int))))))))))
theorem F228 {P : Program} {N : Nat → Nat} (hmix : P.follows .mixedOrders = true) (hc : HC228 P N) {k : Nat} {a0 : TSchema} {a1 : TSchema} {a2 : Int} {a3 : Int} {r : Bool} (h : f228 k a0 a1 a2 a3 = some r) :
    ACalls P (N 228) [(.d (TSchema.enc a0)), (.d (TSchema.enc a1)), (.d (.int .i64 a2)), (.d (.int .i64 a3))] [] (.d (.bool r)) [] := by
  refine acalls_canon (F := C228 N) hc.1 0 0 rfl ?_
  unfold f228 at h
  dsimp only [C228, startL]
  refine AWc.seq ?_
  refine AWc.rg hmix rfl rfl ?_
  refine RegV.evS (own := false) (v := (.ptr 0 0)) (H' := [(0, (.cells [(.d (.sl (List.map TNode.enc a0.fNodes)))]))]) (c' := 1) rfl rfl trivial rfl rfl rfl rfl rfl rfl ?_
  refine RegV.evS (own := false) (v := (.ptr 1 0)) (H' := [(1, (.cells [(.d (.sl (List.map TNode.enc a1.fNodes)))])), (0, (.cells [(.d (.sl (List.map TNode.enc a0.fNodes)))]))]) (c' := 2) rfl rfl trivial rfl rfl rfl rfl rfl rfl ?_
  refine RegV.p0 rfl rfl rfl ?_
  refine RegV.nil0 ?_
  refine AWc.seq ?_
  refine AWc.seq ?_
  refine AWc.rg hmix rfl rfl ?_
  refine RegV.ld (v := (.d (.agg [(.sl (List.map TNode.enc a0.fNodes))]))) (H' := [(0, (.cells [(.d (.sl (List.map TNode.enc a0.fNodes)))])), (1, (.cells [(.d (.sl (List.map TNode.enc a1.fNodes)))]))]) rfl rfl (Nat.le_of_ble_eq_true rfl) rfl rfl rfl rfl rfl ?_
  obtain ⟨r12, e12, h⟩ := bind_some h
  refine RegV.call0 (F229 hmix hc.2.1 e12) rfl rfl rfl rfl (.cons (.refl _) .nil) rfl ?_
  refine RegV.p0 (v := (.d (.bool (!r12)))) rfl rfl rfl ?_
  refine RegV.p0 rfl rfl rfl ?_
  refine RegV.split (fun c14 => ?_) (fun c14 => ?_)
  · have h := cond_pos c14 h
    refine RegV.noS rfl rfl ?_
    refine RegV.noS rfl rfl ?_
    refine RegV.noS rfl rfl ?_
    refine RegV.p0 rfl rfl rfl ?_
    refine RegV.p0 rfl rfl rfl ?_
    refine RegV.noS rfl rfl ?_
    refine RegV.noS rfl rfl ?_
    refine RegV.p0 rfl rfl rfl ?_
    refine RegV.p0 rfl rfl rfl ?_
    refine RegV.noS rfl rfl ?_
    refine RegV.noS rfl rfl ?_
    refine RegV.noS rfl rfl ?_
    refine RegV.noS rfl rfl ?_
    refine RegV.noS rfl rfl ?_
    refine RegV.p0 rfl rfl rfl ?_
    refine RegV.nil0 ?_
    refine AWc.cond rfl (fun _ => ?_) (fun hc => by cases hc)
    refine AWc.seq ?_
    refine AWc.rg hmix rfl rfl ?_
    obtain ⟨r34, e34, h⟩ := bind_some h
    refine RegV.call0 (F230 hmix hc.2.2.1 e34) rfl rfl rfl rfl .nil rfl ?_
    refine RegV.p0 rfl rfl rfl ?_
    refine RegV.nil0 ?_
    have hr := Option.some.inj h
    subst hr
    exact AWc.ret (canQ (N := 94) (k := 0) (l' := [(8, (.d (.bool r34)))]) (H' := []) rfl ⟨rfl, [], [], rfl, rfl, ⟨⟨_, rfl, (.refl _)⟩, rfl, trivial⟩,  trivial⟩ (doneA (.inr rfl) rfl ⟨trivial, trivial⟩ (.refl _) hasNil))
  · have h := cond_neg c14 h
    refine RegV.ld (v := (.d (.agg [(.sl (List.map TNode.enc a1.fNodes))]))) (H' := [(1, (.cells [(.d (.sl (List.map TNode.enc a1.fNodes)))])), (0, (.cells [(.d (.sl (List.map TNode.enc a0.fNodes)))]))]) rfl rfl (Nat.le_of_ble_eq_true rfl) rfl rfl rfl rfl rfl ?_
    obtain ⟨r16, e16, h⟩ := bind_some h
    refine RegV.call0 (F229 hmix hc.2.1 e16) rfl rfl rfl rfl (.cons (.refl _) .nil) rfl ?_
    refine RegV.p0 (v := (.d (.bool (!r16)))) rfl rfl rfl ?_
    refine RegV.p0 rfl rfl rfl ?_
    refine RegV.p0 rfl rfl rfl ?_
    refine RegV.split (fun c19 => ?_) (fun c19 => ?_)
    · have h := cond_pos c19 h
      refine RegV.noS rfl rfl ?_
      refine RegV.noS rfl rfl ?_
      refine RegV.p0 rfl rfl rfl ?_
      refine RegV.p0 rfl rfl rfl ?_
      refine RegV.noS rfl rfl ?_
      refine RegV.noS rfl rfl ?_
      refine RegV.noS rfl rfl ?_
      refine RegV.noS rfl rfl ?_
      refine RegV.noS rfl rfl ?_
      refine RegV.p0 rfl rfl rfl ?_
      refine RegV.nil0 ?_
      refine AWc.cond rfl (fun _ => ?_) (fun hc => by cases hc)
      refine AWc.seq ?_
      refine AWc.rg hmix rfl rfl ?_
      obtain ⟨r34, e34, h⟩ := bind_some h
      refine RegV.call0 (F230 hmix hc.2.2.1 e34) rfl rfl rfl rfl .nil rfl ?_
      refine RegV.p0 rfl rfl rfl ?_
      refine RegV.nil0 ?_
      have hr := Option.some.inj h
      subst hr
      exact AWc.ret (canQ (N := 94) (k := 0) (l' := [(8, (.d (.bool r34)))]) (H' := []) rfl ⟨rfl, [], [], rfl, rfl, ⟨⟨_, rfl, (.refl _)⟩, rfl, trivial⟩,  trivial⟩ (doneA (.inr rfl) rfl ⟨trivial, trivial⟩ (.refl _) hasNil))
    · have h := cond_neg c19 h
      refine RegV.p0 rfl rfl rfl ?_
      refine RegV.p0 (v := (.d (.bool (decide (a3 < (0 : Int)))))) rfl rfl rfl ?_
      refine RegV.p0 rfl rfl rfl ?_
      refine RegV.p0 rfl rfl rfl ?_
      refine RegV.split (fun c23 => ?_) (fun c23 => ?_)
      · have h := cond_pos c23 h
        refine RegV.noS rfl rfl ?_
        refine RegV.noS rfl rfl ?_
        refine RegV.noS rfl rfl ?_
        refine RegV.noS rfl rfl ?_
        refine RegV.noS rfl rfl ?_
        refine RegV.p0 rfl rfl rfl ?_
        refine RegV.nil0 ?_
        refine AWc.cond rfl (fun _ => ?_) (fun hc => by cases hc)
        refine AWc.seq ?_
        refine AWc.rg hmix rfl rfl ?_
        obtain ⟨r34, e34, h⟩ := bind_some h
        refine RegV.call0 (F230 hmix hc.2.2.1 e34) rfl rfl rfl rfl .nil rfl ?_
        refine RegV.p0 rfl rfl rfl ?_
        refine RegV.nil0 ?_
        have hr := Option.some.inj h
        subst hr
        exact AWc.ret (canQ (N := 94) (k := 0) (l' := [(8, (.d (.bool r34)))]) (H' := []) rfl ⟨rfl, [], [], rfl, rfl, ⟨⟨_, rfl, (.refl _)⟩, rfl, trivial⟩,  trivial⟩ (doneA (.inr rfl) rfl ⟨trivial, trivial⟩ (.refl _) hasNil))
      · have h := cond_neg c23 h
        refine RegV.p0 rfl rfl rfl ?_
        refine RegV.p0 (v := (.ptr 1 0)) rfl rfl rfl ?_
        refine RegV.ld (v := (.d (.sl (List.map TNode.enc a1.fNodes)))) (H' := [(1, (.cells [(.d (.sl (List.map TNode.enc a1.fNodes)))])), (0, (.cells [(.d (.sl (List.map TNode.enc a0.fNodes)))]))]) rfl rfl trivial rfl rfl rfl rfl rfl ?_
        refine RegV.len (xs := a1.fNodes) (e := TNode.enc) rfl rfl rfl rfl ?_
        refine RegV.p0 (v := (.d (.bool (decide (a3 ≥ ((a1.fNodes.length : Nat) : Int)))))) rfl rfl rfl ?_
        refine RegV.p0 rfl rfl rfl ?_
        refine RegV.nil0 ?_
        refine AWc.cond rfl (fun c30 => ?_) (fun c30 => ?_)
        · have h := cond_pos c30 h
          refine AWc.seq ?_
          refine AWc.rg hmix rfl rfl ?_
          obtain ⟨r34, e34, h⟩ := bind_some h
          refine RegV.call0 (F230 hmix hc.2.2.1 e34) rfl rfl rfl rfl .nil rfl ?_
          refine RegV.p0 rfl rfl rfl ?_
          refine RegV.nil0 ?_
          have hr := Option.some.inj h
          subst hr
          exact AWc.ret (canQ (N := 94) (k := 0) (l' := [(8, (.d (.bool r34)))]) (H' := []) rfl ⟨rfl, [], [], rfl, rfl, ⟨⟨_, rfl, (.refl _)⟩, rfl, trivial⟩,  trivial⟩ (doneA (.inr rfl) rfl ⟨trivial, trivial⟩ (.refl _) hasNil))
        · have h := cond_neg c30 h
          refine AWc.skip ?_
          refine AWc.seq ?_
          refine AWc.rg hmix rfl rfl ?_
          refine RegV.ld (v := (.d (.agg [(.sl (List.map TNode.enc a0.fNodes))]))) (H' := [(0, (.cells [(.d (.sl (List.map TNode.enc a0.fNodes)))])), (1, (.cells [(.d (.sl (List.map TNode.enc a1.fNodes)))]))]) rfl rfl (Nat.le_of_ble_eq_true rfl) rfl rfl rfl rfl rfl ?_
          refine RegV.p0 rfl rfl rfl ?_
          refine RegV.ld (v := (.d (.agg [(.sl (List.map TNode.enc a1.fNodes))]))) (H' := [(1, (.cells [(.d (.sl (List.map TNode.enc a1.fNodes)))])), (0, (.cells [(.d (.sl (List.map TNode.enc a0.fNodes)))]))]) rfl rfl (Nat.le_of_ble_eq_true rfl) rfl rfl rfl rfl rfl ?_
          refine RegV.p0 rfl rfl rfl ?_
          obtain ⟨r45, e45, h⟩ := bind_some h
          refine RegV.call0 (F241 hmix hc.2.2.2.1 e45) rfl rfl rfl rfl (.cons (.refl _) (.cons (.refl _) (.cons (.refl _) (.cons (.refl _) .nil)))) rfl ?_
          refine RegV.p0 rfl rfl rfl ?_
          refine RegV.nil0 ?_
          refine AWc.seq ?_
          refine AWc.rg hmix rfl rfl ?_
          refine RegV.p0 (v := (.ptr 1 0)) rfl rfl rfl ?_
          refine RegV.ld (v := (.d (.sl (List.map TNode.enc a1.fNodes)))) (H' := [(1, (.cells [(.d (.sl (List.map TNode.enc a1.fNodes)))])), (0, (.cells [(.d (.sl (List.map TNode.enc a0.fNodes)))]))]) rfl rfl trivial rfl rfl rfl rfl rfl ?_
          refine RegV.p0 rfl rfl rfl ?_
          obtain ⟨b53, h⟩ := gd_some h
          refine RegV.iad (xs := a1.fNodes) (e := TNode.enc) rfl rfl rfl rfl (fun _ => rfl) b53 rfl ?_
          refine RegV.p0 (v := (.cp (TNode.enc (rd a1.fNodes a3)) 8)) rfl rfl rfl ?_
          refine RegV.p0 (v := (.d (.sl (List.map (D.int .i64) (rd a1.fNodes a3).fBranches)))) rfl rfl rfl ?_
          refine RegV.p0 rfl rfl rfl ?_
          refine RegV.nil0 ?_
          refine AWc.seq ?_
          refine AWc.seqS (N := 94) 2 (fun (z : Bool) => [(2, (.d (.int .i64 a2))), (4, (.ptr 0 0)), (5, (.ptr 1 0)), (9, (.d (.int .i64 r45))), (10, (.d (.sl (List.map (D.int .i64) (rd a1.fNodes a3).fBranches)))), (53, (.d (.bool z)))]) (fun z => [(0, (.cells [(.d (.sl (List.map TNode.enc a0.fNodes)))])), (1, (.cells [(.d (.sl (List.map TNode.enc a1.fNodes)))]))]) (fun z => f228_j72 k r45 a1 a3 a0 a2 z = some r) rfl_le ?_ ?_
          · refine AWc.rg hmix rfl rfl ?_
            obtain ⟨r61, e61, h⟩ := bind_some h
            refine RegV.call0 (F230 hmix hc.2.2.1 e61) rfl rfl rfl rfl .nil rfl ?_
            refine RegV.p0 (v := (.d (.bool (!r61)))) rfl rfl rfl ?_
            refine RegV.p0 rfl rfl rfl ?_
            refine RegV.split (fun c63 => ?_) (fun c63 => ?_)
            · have h := cond_pos c63 h
              refine RegV.noS rfl rfl ?_
              refine RegV.noS rfl rfl ?_
              refine RegV.noS rfl rfl ?_
              refine RegV.noS rfl rfl ?_
              refine RegV.noS rfl rfl ?_
              refine RegV.noS rfl rfl ?_
              refine RegV.noS rfl rfl ?_
              refine RegV.p0 rfl rfl rfl ?_
              refine RegV.nil0 ?_
              exact ⟨true, h, ⟨rfl, [], [], rfl, rfl, ⟨⟨_, rfl, (.refl _)⟩, rfl, ⟨⟨_, rfl, (.refl _)⟩, rfl, ⟨⟨_, rfl, (.refl _)⟩, rfl, ⟨⟨_, rfl, (.refl _)⟩, rfl, ⟨⟨_, rfl, (.refl _)⟩, rfl, ⟨⟨_, rfl, (.refl _)⟩, rfl, trivial⟩⟩⟩⟩⟩⟩, ⟨⟨_, rfl, (.refl _)⟩, rfl, rfl, ⟨⟨_, rfl, (.refl _)⟩, rfl, rfl, trivial⟩⟩⟩⟩
            · have h := cond_neg c63 h
              refine RegV.p0 (v := (.ptr 1 0)) rfl rfl rfl ?_
              refine RegV.ld (v := (.d (.sl (List.map TNode.enc a1.fNodes)))) (H' := [(1, (.cells [(.d (.sl (List.map TNode.enc a1.fNodes)))])), (0, (.cells [(.d (.sl (List.map TNode.enc a0.fNodes)))]))]) rfl rfl trivial rfl rfl rfl rfl rfl ?_
              refine RegV.p0 rfl rfl rfl ?_
              obtain ⟨b67, h⟩ := gd_some h
              refine RegV.iad (xs := a1.fNodes) (e := TNode.enc) rfl rfl rfl rfl (fun _ => rfl) b67 rfl ?_
              refine RegV.p0 (v := (.cp (TNode.enc (rd a1.fNodes a3)) 0)) rfl rfl rfl ?_
              refine RegV.p0 (v := (.d (.int .i64 (rd a1.fNodes a3).fKind))) rfl rfl rfl ?_
              refine RegV.p0 (v := (.d (.bool (decide ((rd a1.fNodes a3).fKind ≠ (13 : Int)))))) rfl rfl rfl ?_
              refine RegV.p0 rfl rfl rfl ?_
              refine RegV.nil0 ?_
              exact ⟨(decide ((rd a1.fNodes a3).fKind ≠ (13 : Int))), h, ⟨rfl, [], [], rfl, rfl, ⟨⟨_, rfl, (.refl _)⟩, rfl, ⟨⟨_, rfl, (.refl _)⟩, rfl, ⟨⟨_, rfl, (.refl _)⟩, rfl, ⟨⟨_, rfl, (.refl _)⟩, rfl, ⟨⟨_, rfl, (.refl _)⟩, rfl, ⟨⟨_, rfl, (.refl _)⟩, rfl, trivial⟩⟩⟩⟩⟩⟩, ⟨⟨_, rfl, (.refl _)⟩, rfl, rfl, ⟨⟨_, rfl, (.refl _)⟩, rfl, rfl, trivial⟩⟩⟩⟩
          · intro j72_1 h
            unfold f228_j72 at h
            refine AWc.cond rfl (fun c72 => ?_) (fun c72 => ?_)
            · have h := cond_pos c72 h
              refine AWc.seq ?_
              refine AWc.rg hmix rfl rfl ?_
              obtain ⟨r76, e76, h⟩ := bind_some h
              refine RegV.call0 (F230 hmix hc.2.2.1 e76) rfl rfl rfl rfl .nil rfl ?_
              refine RegV.p0 rfl rfl rfl ?_
              refine RegV.split (fun c77 => ?_) (fun c77 => ?_)
              · have h := cond_pos c77 h
                refine RegV.p0 rfl rfl rfl ?_
                refine RegV.p0 (v := (.d (.bool (decide (r45 = (-1 : Int)))))) rfl rfl rfl ?_
                refine RegV.p0 rfl rfl rfl ?_
                refine RegV.p0 rfl rfl rfl ?_
                refine RegV.nil0 ?_
                have hr := Option.some.inj h
                subst hr
                exact AWc.ret (canQ (N := 94) (k := 0) (l' := [(8, (.d (.bool (decide (r45 = (-1 : Int))))))]) (H' := []) rfl ⟨rfl, [], [], rfl, rfl, ⟨⟨_, rfl, (.refl _)⟩, rfl, trivial⟩,  trivial⟩ (doneA (.inr rfl) rfl ⟨trivial, trivial⟩ (.refl _) hasNil))
              · have h := cond_neg c77 h
                refine RegV.noS rfl rfl ?_
                refine RegV.noS rfl rfl ?_
                refine RegV.p0 rfl rfl rfl ?_
                refine RegV.p0 rfl rfl rfl ?_
                refine RegV.nil0 ?_
                have hr := Option.some.inj h
                subst hr
                exact AWc.ret (canQ (N := 94) (k := 0) (l' := [(8, (.d (.bool false)))]) (H' := []) rfl ⟨rfl, [], [], rfl, rfl, ⟨⟨_, rfl, (.refl _)⟩, rfl, trivial⟩,  trivial⟩ (doneA (.inr rfl) rfl ⟨trivial, trivial⟩ (.refl _) hasNil))
            · have h := cond_neg c72 h
              refine AWc.skip ?_
              refine AWc.seq ?_
              refine AWc.seq ?_
              refine AWc.rg hmix rfl rfl ?_
              refine RegV.p0 rfl rfl rfl ?_
              refine RegV.p0 (v := (.d (.bool (decide (r45 < (-1 : Int)))))) rfl rfl rfl ?_
              refine RegV.p0 rfl rfl rfl ?_
              refine RegV.split (fun c90 => ?_) (fun c90 => ?_)
              · have h := cond_pos c90 h
                refine RegV.noS rfl rfl ?_
                refine RegV.noS rfl rfl ?_
                refine RegV.noS rfl rfl ?_
                refine RegV.noS rfl rfl ?_
                refine RegV.p0 rfl rfl rfl ?_
                refine RegV.nil0 ?_
                refine AWc.cond rfl (fun _ => ?_) (fun hc => by cases hc)
                refine AWc.seq ?_
                refine AWc.rg hmix rfl rfl ?_
                refine RegV.p0 rfl rfl rfl ?_
                refine RegV.nil0 ?_
                have hr := Option.some.inj h
                subst hr
                exact AWc.ret (canQ (N := 94) (k := 0) (l' := [(8, (.d (.bool false)))]) (H' := []) rfl ⟨rfl, [], [], rfl, rfl, ⟨⟨_, rfl, (.refl _)⟩, rfl, trivial⟩,  trivial⟩ (doneA (.inr rfl) rfl ⟨trivial, trivial⟩ (.refl _) hasNil))
              · have h := cond_neg c90 h
                refine RegV.p0 rfl rfl rfl ?_
                refine RegV.p0 rfl rfl rfl ?_
                refine RegV.len (xs := (rd a1.fNodes a3).fBranches) (e := (D.int .i64)) rfl rfl rfl rfl ?_
                refine RegV.p0 (v := (.d (.bool (decide (r45 ≥ ((((rd a1.fNodes a3).fBranches).length : Nat) : Int)))))) rfl rfl rfl ?_
                refine RegV.p0 rfl rfl rfl ?_
                refine RegV.nil0 ?_
                refine AWc.cond rfl (fun c96 => ?_) (fun c96 => ?_)
                · have h := cond_pos c96 h
                  refine AWc.seq ?_
                  refine AWc.rg hmix rfl rfl ?_
                  refine RegV.p0 rfl rfl rfl ?_
                  refine RegV.nil0 ?_
                  have hr := Option.some.inj h
                  subst hr
                  exact AWc.ret (canQ (N := 94) (k := 0) (l' := [(8, (.d (.bool false)))]) (H' := []) rfl ⟨rfl, [], [], rfl, rfl, ⟨⟨_, rfl, (.refl _)⟩, rfl, trivial⟩,  trivial⟩ (doneA (.inr rfl) rfl ⟨trivial, trivial⟩ (.refl _) hasNil))
                · have h := cond_neg c96 h
                  refine AWc.skip ?_
                  refine AWc.seq ?_
                  refine AWc.seq ?_
                  refine AWc.rg hmix rfl rfl ?_
                  refine RegV.p0 rfl rfl rfl ?_
                  refine RegV.nil0 ?_
                  obtain ⟨o108, h108, h⟩ := bind_some h
                  refine AWc.block ?_
                  refine AWc.loopK (N := 94) 2 (fun (x : Int) => [(2, (.d (.int .i64 a2))), (4, (.ptr 0 0)), (5, (.ptr 1 0)), (9, (.d (.int .i64 r45))), (10, (.d (.sl (List.map (D.int .i64) (rd a1.fNodes a3).fBranches)))), (11, (.d (.int .i64 x)))]) (fun x => [(0, (.cells [(.d (.sl (List.map TNode.enc a0.fNodes)))])), (1, (.cells [(.d (.sl (List.map TNode.enc a1.fNodes)))]))]) (fun k x => f228_l108 a1 a3 r45 a0 a2 k x = some o108) k (0 : Int) rfl_le (fun x hx => by cases hx) h108 ⟨rfl, [], [], rfl, rfl, ⟨⟨_, rfl, (.refl _)⟩, rfl, ⟨⟨_, rfl, (.refl _)⟩, rfl, ⟨⟨_, rfl, (.refl _)⟩, rfl, ⟨⟨_, rfl, (.refl _)⟩, rfl, ⟨⟨_, rfl, (.refl _)⟩, rfl, ⟨⟨_, rfl, (.refl _)⟩, rfl, trivial⟩⟩⟩⟩⟩⟩, ⟨⟨_, rfl, (.refl _)⟩, rfl, rfl, ⟨⟨_, rfl, (.refl _)⟩, rfl, rfl, trivial⟩⟩⟩ ?_
                  clear h108
                  intro k
                  intro y108_1 h108
                  rw [f228_l108] at h108
                  refine AWc.seqS (N := 94) 2 (fun (z : (Bool × Bool)) => [(2, (.d (.int .i64 a2))), (4, (.ptr 0 0)), (5, (.ptr 1 0)), (9, (.d (.int .i64 r45))), (10, (.d (.sl (List.map (D.int .i64) (rd a1.fNodes a3).fBranches)))), (11, (.d (.int .i64 y108_1))), (72, (.d (.int .i64 r45))), (73, (.d (.bool (decide (r45 < (0 : Int)))))), (74, (.d (.bool z.1))), (75, .any), (76, .any), (77, .any), (78, (.d (.bool z.2)))]) (fun z => [(0, (.cells [(.d (.sl (List.map TNode.enc a0.fNodes)))])), (1, (.cells [(.d (.sl (List.map TNode.enc a1.fNodes)))]))]) (fun z => f228_j130 (f228_l108 a1 a3 r45 a0 a2 k) k y108_1 a1 a3 a0 a2 r45 z.1 z.2 = some o108) rfl_le ?_ ?_
                  · refine AWc.seq ?_
                    refine AWc.rg hmix rfl rfl ?_
                    refine RegV.p0 rfl rfl rfl ?_
                    refine RegV.p0 rfl rfl rfl ?_
                    refine RegV.len (xs := (rd a1.fNodes a3).fBranches) (e := (D.int .i64)) rfl rfl rfl rfl ?_
                    refine RegV.p0 (v := (.d (.bool (decide (y108_1 < ((((rd a1.fNodes a3).fBranches).length : Nat) : Int)))))) rfl rfl rfl ?_
                    refine RegV.p0 rfl rfl rfl ?_
                    refine RegV.split (fun c118 => ?_) (fun c118 => ?_)
                    · have h108 := cond_pos c118 h108
                      refine RegV.p0 rfl rfl rfl ?_
                      refine RegV.p0 (v := (.d (.bool (decide (r45 < (0 : Int)))))) rfl rfl rfl ?_
                      refine RegV.p0 rfl rfl rfl ?_
                      refine RegV.split (fun c121 => ?_) (fun c121 => ?_)
                      · have h108 := cond_pos c121 h108
                        refine RegV.noS rfl rfl ?_
                        refine RegV.noS rfl rfl ?_
                        refine RegV.noS rfl rfl ?_
                        refine RegV.p0 rfl rfl rfl ?_
                        refine RegV.p0 rfl rfl rfl ?_
                        refine RegV.nil0 ?_
                        refine AWc.cond rfl (fun _ => ?_) (fun hc => by cases hc)
                        refine AWc.skip ?_
                        exact ⟨(true, true), h108, ⟨rfl, [], [], rfl, rfl, ⟨⟨_, rfl, (.refl _)⟩, rfl, ⟨⟨_, rfl, (.refl _)⟩, rfl, ⟨⟨_, rfl, (.refl _)⟩, rfl, ⟨⟨_, rfl, (.refl _)⟩, rfl, ⟨⟨_, rfl, (.refl _)⟩, rfl, ⟨⟨_, rfl, (.refl _)⟩, rfl, ⟨⟨_, rfl, (.refl _)⟩, rfl, ⟨⟨_, rfl, (.refl _)⟩, rfl, ⟨⟨_, rfl, (.refl _)⟩, rfl, ⟨⟨_, rfl, (.any _)⟩, rfl, ⟨⟨_, rfl, (.any _)⟩, rfl, ⟨⟨_, rfl, (.any _)⟩, rfl, ⟨⟨_, rfl, (.refl _)⟩, rfl, trivial⟩⟩⟩⟩⟩⟩⟩⟩⟩⟩⟩⟩⟩, ⟨⟨_, rfl, (.refl _)⟩, rfl, rfl, ⟨⟨_, rfl, (.refl _)⟩, rfl, rfl, trivial⟩⟩⟩⟩
                      · have h108 := cond_neg c121 h108
                        refine RegV.p0 rfl rfl rfl ?_
                        refine RegV.p0 rfl rfl rfl ?_
                        refine RegV.p0 (v := (.d (.bool (decide (y108_1 ≤ r45))))) rfl rfl rfl ?_
                        refine RegV.p0 rfl rfl rfl ?_
                        refine RegV.p0 rfl rfl rfl ?_
                        refine RegV.nil0 ?_
                        refine AWc.cond rfl (fun c127 => ?_) (fun c127 => ?_)
                        · have h108 := cond_pos c127 h108
                          refine AWc.skip ?_
                          exact ⟨(false, (decide (y108_1 ≤ r45))), h108, ⟨rfl, [], [], rfl, rfl, ⟨⟨_, rfl, (.refl _)⟩, rfl, ⟨⟨_, rfl, (.refl _)⟩, rfl, ⟨⟨_, rfl, (.refl _)⟩, rfl, ⟨⟨_, rfl, (.refl _)⟩, rfl, ⟨⟨_, rfl, (.refl _)⟩, rfl, ⟨⟨_, rfl, (.refl _)⟩, rfl, ⟨⟨_, rfl, (.refl _)⟩, rfl, ⟨⟨_, rfl, (.refl _)⟩, rfl, ⟨⟨_, rfl, (.refl _)⟩, rfl, ⟨⟨_, rfl, (.any _)⟩, rfl, ⟨⟨_, rfl, (.any _)⟩, rfl, ⟨⟨_, rfl, (.any _)⟩, rfl, ⟨⟨_, rfl, (.refl _)⟩, rfl, trivial⟩⟩⟩⟩⟩⟩⟩⟩⟩⟩⟩⟩⟩, ⟨⟨_, rfl, (.refl _)⟩, rfl, rfl, ⟨⟨_, rfl, (.refl _)⟩, rfl, rfl, trivial⟩⟩⟩⟩
                        · have h108 := cond_neg c127 h108
                          cases h108
                          dsimp only at h
                          refine AWc.exit ?_
                          refine inBlk_eq ?_
                          refine AWc.seq ?_
                          refine AWc.rg hmix rfl rfl ?_
                          refine RegV.p0 rfl rfl rfl ?_
                          refine RegV.nil0 ?_
                          have hr := Option.some.inj h
                          subst hr
                          exact AWc.ret (canQ (N := 94) (k := 0) (l' := [(8, (.d (.bool true)))]) (H' := []) rfl ⟨rfl, [], [], rfl, rfl, ⟨⟨_, rfl, (.refl _)⟩, rfl, trivial⟩,  trivial⟩ (doneA (.inr rfl) rfl ⟨trivial, trivial⟩ (.refl _) hasNil))
                    · have h108 := cond_neg c118 h108
                      refine RegV.noS rfl rfl ?_
                      refine RegV.noS rfl rfl ?_
                      refine RegV.noS rfl rfl ?_
                      refine RegV.noS rfl rfl ?_
                      refine RegV.noS rfl rfl ?_
                      refine RegV.noS rfl rfl ?_
                      refine RegV.noS rfl rfl ?_
                      refine RegV.p0 rfl rfl rfl ?_
                      refine RegV.nil0 ?_
                      refine AWc.cond rfl (fun hc => by cases hc) (fun _ => ?_)
                      cases h108
                      dsimp only at h
                      refine AWc.exit ?_
                      refine inBlk_eq ?_
                      refine AWc.seq ?_
                      refine AWc.rg hmix rfl rfl ?_
                      refine RegV.p0 rfl rfl rfl ?_
                      refine RegV.nil0 ?_
                      have hr := Option.some.inj h
                      subst hr
                      exact AWc.ret (canQ (N := 94) (k := 0) (l' := [(8, (.d (.bool true)))]) (H' := []) rfl ⟨rfl, [], [], rfl, rfl, ⟨⟨_, rfl, (.refl _)⟩, rfl, trivial⟩,  trivial⟩ (doneA (.inr rfl) rfl ⟨trivial, trivial⟩ (.refl _) hasNil))
                  · rintro ⟨j130_1, j130_2⟩ h108
                    dsimp only at h108 ⊢
                    unfold f228_j130 at h108
                    refine AWc.seq ?_
                    refine AWc.block ?_
                    refine AWc.seq ?_
                    refine AWc.rg hmix rfl rfl ?_
                    refine RegV.ld (v := (.d (.agg [(.sl (List.map TNode.enc a0.fNodes))]))) (H' := [(0, (.cells [(.d (.sl (List.map TNode.enc a0.fNodes)))])), (1, (.cells [(.d (.sl (List.map TNode.enc a1.fNodes)))]))]) rfl rfl (Nat.le_of_ble_eq_true rfl) rfl rfl rfl rfl rfl ?_
                    refine RegV.p0 rfl rfl rfl ?_
                    refine RegV.ld (v := (.d (.agg [(.sl (List.map TNode.enc a1.fNodes))]))) (H' := [(1, (.cells [(.d (.sl (List.map TNode.enc a1.fNodes)))])), (0, (.cells [(.d (.sl (List.map TNode.enc a0.fNodes)))]))]) rfl rfl (Nat.le_of_ble_eq_true rfl) rfl rfl rfl rfl rfl ?_
                    refine RegV.p0 rfl rfl rfl ?_
                    refine RegV.p0 rfl rfl rfl ?_
                    obtain ⟨b140, h108⟩ := gd_some h108
                    refine RegV.iad (xs := (rd a1.fNodes a3).fBranches) (e := (D.int .i64)) rfl rfl rfl rfl (fun _ => rfl) b140 rfl ?_
                    refine RegV.p0 (v := (.d (.int .i64 (rd ((rd a1.fNodes a3).fBranches) y108_1)))) rfl rfl rfl ?_
                    obtain ⟨r142, e142, h108⟩ := bind_some h108
                    refine RegV.call0 (F231 hmix hc.2.2.2.2 e142) rfl rfl rfl rfl (.cons (.refl _) (.cons (.refl _) (.cons (.refl _) (.cons (.refl _) .nil)))) rfl ?_
                    refine RegV.p0 rfl rfl rfl ?_
                    refine RegV.p0 rfl rfl rfl ?_
                    refine RegV.p0 (v := (.d (.bool (decide (y108_1 = r45))))) rfl rfl rfl ?_
                    refine RegV.p0 (v := (.d (.bool (!(r142 == (decide (y108_1 = r45))))))) rfl rfl rfl ?_
                    refine RegV.nil1 (by kernel_rfl) ?_
                    refine AWc.cond rfl (fun c147 => ?_) (fun c147 => ?_)
                    · have h108 := cond_pos c147 h108
                      refine AWc.seq ?_
                      refine AWc.rg hmix rfl rfl ?_
                      refine RegV.p0 rfl rfl rfl ?_
                      refine RegV.nil0 ?_
                      cases h108
                      dsimp only at h
                      have hr := Option.some.inj h
                      subst hr
                      exact AWc.ret (canQ (N := 94) (k := 0) (l' := [(8, (.d (.bool false)))]) (H' := []) rfl ⟨rfl, [], [], rfl, rfl, ⟨⟨_, rfl, (.refl _)⟩, rfl, trivial⟩,  trivial⟩ (doneA (.inr rfl) rfl ⟨trivial, trivial⟩ (.refl _) hasNil))
                    · have h108 := cond_neg c147 h108
                      refine AWc.skip ?_
                      refine AWc.rg hmix rfl rfl ?_
                      refine RegV.p0 rfl rfl rfl ?_
                      refine RegV.p0 (v := (.d (.int .i64 (IntKind.i64.wrap (y108_1 + (1 : Int)))))) rfl rfl rfl ?_
                      refine RegV.p0 rfl rfl rfl ?_
                      refine RegV.nil0 ?_
                      exact ⟨(IntKind.i64.wrap (y108_1 + (1 : Int))), h108, ⟨rfl, [], [], rfl, rfl, ⟨⟨_, rfl, (.refl _)⟩, rfl, ⟨⟨_, rfl, (.refl _)⟩, rfl, ⟨⟨_, rfl, (.refl _)⟩, rfl, ⟨⟨_, rfl, (.refl _)⟩, rfl, ⟨⟨_, rfl, (.refl _)⟩, rfl, ⟨⟨_, rfl, (.refl _)⟩, rfl, trivial⟩⟩⟩⟩⟩⟩, ⟨⟨_, rfl, (.refl _)⟩, rfl, rfl, ⟨⟨_, rfl, (.refl _)⟩, rfl, rfl, trivial⟩⟩⟩⟩
/-- courant/courantlaw09.MatchNodes$1 -/
def C243 (N : Nat → Nat) : AFunc := { n := 7, params := 1, res := [.cell 2 1 true], body :=
 (.seq (.region false [⟨(some 2), .alloc [(.sl [])], none, []⟩])
  (.seq (.region false [⟨(some 3), .mv (.t 0), none, []⟩,
    ⟨(some 4), .build [(.int .i64 0), (.str []), (.sl []), (.sl []), (.sl []), (.bool false), (.str []), (.int .i64 0), (.sl []), (.int .i64 0)] [(0, 1, (.t 3))], none, [0]⟩,
    ⟨(some 5), .bslice 1 10 [(.int .i64 0), (.str []), (.sl []), (.sl []), (.sl []), (.bool false), (.str []), (.int .i64 0), (.sl []), (.int .i64 0)] [(0, (.t 4))], none, [1]⟩,
    ⟨(some 6), .build [(.sl [])] [(0, 1, (.t 5))], none, [2]⟩,
    ⟨none, .store (.t 2) (.t 6) 1, none, [3, 0, 1, 2]⟩])
   .ret)) }
def HC243 (P : Program) (N : Nat → Nat) : Prop := HasF P (N 243) (C243 N)
def f243 (k : Nat) (a0 : Int) : Option Unit := some ()
theorem F243 {P : Program} {N : Nat → Nat} (hmix : P.follows .mixedOrders = true) (hc : HC243 P N) {k : Nat} {a0 : Int} {r : Unit} (h : f243 k a0 = some r) :
    ACalls P (N 243) [(.d (.int .i64 a0))] [] (.d (.agg [(.sl (List.map TNode.enc ([(TNode.mk a0 ([] : List UInt8) ([] : List (List UInt8)) ([] : List TField) ([] : List (List UInt8)) false ([] : List UInt8) (0 : Int) ([] : List Int) (0 : Int))] : List TNode)))])) [] := by
  refine acalls_canon (F := C243 N) hc 0 0 rfl ?_
  unfold f243 at h
  dsimp only [C243, startL]
  refine AWc.seq ?_
  refine AWc.rg hmix rfl rfl ?_
  refine RegV.evS (own := false) (v := (.ptr 0 0)) (H' := [(0, (.cells [.nils]))]) (c' := 1) rfl rfl trivial rfl rfl rfl rfl rfl rfl ?_
  refine RegV.nil0 ?_
  refine AWc.seq ?_
  refine AWc.rg hmix rfl rfl ?_
  refine RegV.p0 rfl rfl rfl ?_
  refine RegV.p1 (v := (.d (.agg [(.int .i64 a0), (.str ([] : List UInt8)), (.sl (List.map D.str ([] : List (List UInt8)))), (.sl (List.map TField.enc ([] : List TField))), (.sl (List.map D.str ([] : List (List UInt8)))), (.bool false), (.str ([] : List UInt8)), (.int .i64 (0 : Int)), (.sl (List.map (D.int .i64) ([] : List Int))), (.int .i64 (0 : Int))]))) rfl rfl (by exact ⟨⟨rfl, Nat.le_of_ble_eq_true rfl⟩, trivial⟩) rfl rfl ?_
  refine RegV.p1 (v := (.d (.sl (List.map TNode.enc ([(TNode.mk a0 ([] : List UInt8) ([] : List (List UInt8)) ([] : List TField) ([] : List (List UInt8)) false ([] : List UInt8) (0 : Int) ([] : List Int) (0 : Int))] : List TNode))))) rfl rfl (by exact ⟨rfl, Nat.le_of_ble_eq_true rfl, mapLen (e := TNode.enc) (xs := ([(TNode.mk a0 ([] : List UInt8) ([] : List (List UInt8)) ([] : List TField) ([] : List (List UInt8)) false ([] : List UInt8) (0 : Int) ([] : List Int) (0 : Int))] : List TNode)) (z := 10) (fun _ => rfl)⟩) rfl rfl ?_
  refine RegV.p1 (v := (.d (.agg [(.sl (List.map TNode.enc ([(TNode.mk a0 ([] : List UInt8) ([] : List (List UInt8)) ([] : List TField) ([] : List (List UInt8)) false ([] : List UInt8) (0 : Int) ([] : List Int) (0 : Int))] : List TNode)))]))) rfl rfl (by exact ⟨⟨rfl, Nat.le_of_ble_eq_true rfl⟩, trivial⟩) rfl rfl ?_
  refine RegV.evN (own := false) (H' := [(0, (.cells [(.d (.sl (List.map TNode.enc ([(TNode.mk a0 ([] : List UInt8) ([] : List (List UInt8)) ([] : List TField) ([] : List (List UInt8)) false ([] : List UInt8) (0 : Int) ([] : List Int) (0 : Int))] : List TNode))))]))]) (c' := 1) rfl rfl (by exact ⟨rfl, Nat.le_of_ble_eq_true rfl, rfl⟩) rfl rfl rfl rfl ?_
  refine RegV.nil0 ?_
  have hr := Option.some.inj h
  subst hr
  exact AWc.ret (canQ (N := 7) (k := 1) (l' := [(2, (.ptr 0 0))]) (H' := [(0, (.cells [(.d (.sl (List.map TNode.enc ([(TNode.mk a0 ([] : List UInt8) ([] : List (List UInt8)) ([] : List TField) ([] : List (List UInt8)) false ([] : List UInt8) (0 : Int) ([] : List Int) (0 : Int))] : List TNode))))]))]) rfl ⟨rfl, [], [], rfl, rfl, ⟨⟨_, rfl, (.refl _)⟩, rfl, trivial⟩, ⟨⟨_, rfl, (.refl _)⟩, rfl, rfl, trivial⟩⟩ (doneA (.inr rfl) rfl ⟨(Nat.le_of_ble_eq_true rfl), trivial⟩ (.refl _) hasNil))
end Go.Proofs.Abs
