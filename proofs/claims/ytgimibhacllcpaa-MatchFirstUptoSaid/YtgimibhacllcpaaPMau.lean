/- The laws MatchNodes and MatchFirst over the Lean functions. -/
import Derived.Test.YtgimibhacllcpaaPMat
namespace Go.Proofs.Abs
open Go
set_option linter.unusedVariables false
set_option maxRecDepth 10000

/-! ### two types, node by node -/
def kindsS (x y : TNode) : Bool :=
  if x.fKind ≠ y.fKind then
    (decide (x.fKind = 3) && decide (y.fKind = 4)) || (decide (x.fKind = 8) && decide (y.fKind = 7))
  else if x.fKind = 9 ∨ x.fKind = 10 then namedS x y
  else if x.fKind = 14 then namedS x y && decide (x.fSize = y.fSize)
  else true
theorem kinds_match {x y : TNode} (hx : x.fName.length ≤ 1048576) (hy : y.fName.length ≤ 1048576) (ha : y.fAliases.length ≤ 1048576) {k : Nat} (hk : 1048576 < k) : f233 k x y = some (kindsS x y) := by
  have e : ∀ x : TNode, TNode.mk x.fKind x.fName x.fAliases x.fFields x.fSymbols x.fHas x.fDefault x.fItems x.fBranches x.fSize = x := fun x => rfl
  simp only [f233, f233_j54, e, named_match hx hy ha hk, Option.bind_some, cond_dec, kindsS]
  generalize x.fKind = p
  generalize y.fKind = q
  by_cases c1 : p = q
  · subst c1
    by_cases c2 : p = 9
    · simp [c2]
    · by_cases c3 : p = 10
      · simp [c3]
      · by_cases c4 : p = 14
        · simp [c4]; cases namedS x y <;> simp
        · simp [c2, c3, c4]
  · by_cases c2 : p = 3
    · by_cases c3 : q = 4 <;> simp [c2, c3] <;> simp_all
    · by_cases c3 : p = 8 <;> simp [c1, c2, c3] <;> simp_all
def inS (s : TSchema) (i : Int) : Bool := decide (0 ≤ i ∧ i < ((s.fNodes.length : Nat) : Int))
def tyS (a b : TSchema) : Nat → Int → Int → Bool
  | 0, _, _ => false
  | m + 1, i, j => inS a i && (inS b j && (
      let x := rd a.fNodes i
      let y := rd b.fNodes j
      decide (x.fKind = 13) || (decide (y.fKind = 13) || (kindsS x y && (if x.fKind = 11 ∨ x.fKind = 12 then tyS a b m x.fItems y.fItems else true)))))
/-- names and lists of bounded length -/
def SmallN (x : TNode) : Prop := x.fName.length ≤ 1048576 ∧ x.fAliases.length ≤ 1048576
theorem at_in {a : TSchema} {i : Int} {k : Nat} (h : inS a i = true) : f232 k a i = some (true, (rd a.fNodes i).fKind, (rd a.fNodes i).fName, (rd a.fNodes i).fAliases, (rd a.fNodes i).fFields, (rd a.fNodes i).fSymbols, (rd a.fNodes i).fHas, (rd a.fNodes i).fDefault, (rd a.fNodes i).fItems, (rd a.fNodes i).fBranches, (rd a.fNodes i).fSize) := by
  simp only [inS, decide_eq_true_eq] at h
  simp only [f232, f232_j20, cond_dec]
  rw [if_neg (by omega), if_neg (by omega), gd_pos h]
theorem at_out {a : TSchema} {i : Int} {k : Nat} (h : inS a i = false) : ∃ r, f232 k a i = some (false, r) := by
  simp only [inS, decide_eq_false_iff_not] at h
  simp only [f232, f232_j20, cond_dec]
  by_cases c : i < 0
  · rw [if_pos c]; exact ⟨_, rfl⟩
  · rw [if_neg c, if_pos (by omega)]; exact ⟨_, rfl⟩
theorem rd_mem {α : Type} [Inhabited α] {l : List α} {i : Int} (h : 0 ≤ i ∧ i < ((l.length : Nat) : Int)) : rd l i ∈ l := by
  simp only [rd]
  rw [List.getD_eq_getElem?_getD, List.getElem?_eq_getElem (show i.toNat < l.length by omega)]
  exact List.getElem_mem _
theorem l231 {a b : TSchema} {M : Nat} (hM : a.fNodes.length * b.fNodes.length + 1 = M) (hM2 : M ≤ 1048576) (ha : ∀ x ∈ a.fNodes, SmallN x) (hb : ∀ x ∈ b.fNodes, SmallN x) : ∀ (m n k : Nat) (i j : Int), m + n = M → m + 1048576 < k →
    (f231_l20 a b k i j (n : Int)).bind (fun o20 => match o20 with | .b0 () => some false | .r x => some x | _ => none) = some (tyS a b m i j) := by
  intro m
  induction m with
  | zero =>
    intro n k i j hm hk
    obtain ⟨k, rfl, _⟩ := succ_of_pos (show 0 < k by omega)
    have e1 : IntKind.i64.wrap (((a.fNodes.length : Nat) : Int) * ((b.fNodes.length : Nat) : Int)) = ((a.fNodes.length * b.fNodes.length : Nat) : Int) := by
      rw [show ((a.fNodes.length : Nat) : Int) * ((b.fNodes.length : Nat) : Int) = ((a.fNodes.length * b.fNodes.length : Nat) : Int) by push_cast; rfl, i64w (by omega)]
    have e2 : IntKind.i64.wrap (((a.fNodes.length * b.fNodes.length : Nat) : Int) + 1) = (M : Int) := by rw [i64w (by omega)]; omega
    rw [f231_l20, cond_dec, e1, e2, if_neg (by omega)]
    rfl
  | succ m ih =>
    intro n k i j hm hk
    obtain ⟨k, rfl, hk'⟩ := succ_of_pos (show 0 < k by omega)
    have e1 : IntKind.i64.wrap (((a.fNodes.length : Nat) : Int) * ((b.fNodes.length : Nat) : Int)) = ((a.fNodes.length * b.fNodes.length : Nat) : Int) := by
      rw [show ((a.fNodes.length : Nat) : Int) * ((b.fNodes.length : Nat) : Int) = ((a.fNodes.length * b.fNodes.length : Nat) : Int) by push_cast; rfl, i64w (by omega)]
    have e2 : IntKind.i64.wrap (((a.fNodes.length * b.fNodes.length : Nat) : Int) + 1) = (M : Int) := by rw [i64w (by omega)]; omega
    have e3 : ∀ s : TSchema, TSchema.mk s.fNodes = s := fun s => rfl
    have e4 : ∀ x : TNode, TNode.mk x.fKind x.fName x.fAliases x.fFields x.fSymbols x.fHas x.fDefault x.fItems x.fBranches x.fSize = x := fun x => rfl
    have e5 : IntKind.i64.wrap ((n : Int) + 1) = ((n + 1 : Nat) : Int) := by rw [i64w (by omega)]; omega
    rw [f231_l20]
    simp only [cond_dec, e1, e2, e3]
    rw [if_pos (by omega)]
    cases hi : inS a i with
    | false =>
      obtain ⟨r, hr⟩ := at_out (k := k) hi
      cases hj : inS b j with
      | false =>
        obtain ⟨r2, hr2⟩ := at_out (k := k) hj
        simp [hr, hr2, tyS, hi]
      | true => simp [hr, at_in hj, tyS, hi]
    | true =>
      cases hj : inS b j with
      | false =>
        obtain ⟨r2, hr2⟩ := at_out (k := k) hj
        simp [at_in hi, hr2, tyS, hi, hj]
      | true =>
        have hix : 0 ≤ i ∧ i < ((a.fNodes.length : Nat) : Int) := by simpa [inS] using hi
        have hjx : 0 ≤ j ∧ j < ((b.fNodes.length : Nat) : Int) := by simpa [inS] using hj
        have hx := ha _ (rd_mem hix)
        have hy := hb _ (rd_mem hjx)
        simp only [at_in hi, at_in hj, Option.bind_some, e4, kinds_match hx.1 hy.1 hy.2 (show 1048576 < k by omega), f231_j126, e5, tyS, hi, hj, Bool.true_and, Bool.not_true, cond_false]
        have h1 := ih (n + 1) k (rd a.fNodes i).fItems (rd b.fNodes j).fItems (by omega) (by omega)
        by_cases c1 : (rd a.fNodes i).fKind = 13
        · simp [c1]
        by_cases c2 : (rd b.fNodes j).fKind = 13
        · simp [c1, c2]
        rw [if_neg c1, if_neg c2]
        cases hkk : kindsS (rd a.fNodes i) (rd b.fNodes j) with
        | false => simp [c1, c2]
        | true =>
          by_cases c3 : (rd a.fNodes i).fKind = 11
          · simp only [c3]
            simpa [c2] using h1
          · by_cases c4 : (rd a.fNodes i).fKind = 12
            · simp only [c4]
              simpa [c2] using h1
            · simp [c1, c2, c3, c4]
theorem types_match {a b : TSchema} {M : Nat} (hM : a.fNodes.length * b.fNodes.length + 1 = M) (hM2 : M ≤ 1048576) (ha : ∀ x ∈ a.fNodes, SmallN x) (hb : ∀ x ∈ b.fNodes, SmallN x) {i j : Int} {k : Nat} (hk : M + 1048576 < k) : f231 k a i b j = some (tyS a b M i j) := by
  have := l231 hM hM2 ha hb M 0 k i j rfl hk
  simp only [f231]
  exact this

/-! ### the first branch that matches -/
theorem l44 {a b : TSchema} {M : Nat} (hM : a.fNodes.length * b.fNodes.length + 1 = M) (hM2 : M ≤ 1048576) (ha : ∀ x ∈ a.fNodes, SmallN x) (hb : ∀ x ∈ b.fNodes, SmallN x) {q : Bool × Int × (List UInt8) × (List (List UInt8)) × (List TField) × (List (List UInt8)) × Bool × (List UInt8) × Int × (List Int) × Int} {i : Int} {B : List Int} (hB : q.2.2.2.2.2.2.2.2.2.1 = B) (hBl : B.length ≤ 1048576) :
    ∀ (m n k : Nat), m + n = B.length → m + M + 1048577 < k → (∀ j, j < n → tyS a b M i (rd B (j : Int)) = false) →
    ∃ r : Int, (f241_l44 q a i b k (n : Int)).bind (fun o44 => match o44 with | .b0 () => some (-1 : Int) | .r x => some x | _ => none) = some r ∧
      ((r = -1 ∧ ∀ j, j < B.length → tyS a b M i (rd B (j : Int)) = false) ∨ ∃ p : Nat, r = (p : Int) ∧ p < B.length ∧ tyS a b M i (rd B (p : Int)) = true ∧ ∀ j, j < p → tyS a b M i (rd B (j : Int)) = false) := by
  have e3 : ∀ s : TSchema, TSchema.mk s.fNodes = s := fun s => rfl
  intro m
  induction m with
  | zero =>
    intro n k hm hk hall
    obtain ⟨k, rfl, _⟩ := succ_of_pos (show 0 < k by omega)
    refine ⟨-1, ?_, .inl ⟨rfl, fun j hj => hall j (by omega)⟩⟩
    rw [f241_l44, cond_dec, hB, if_neg (by omega)]
    rfl
  | succ m ih =>
    intro n k hm hk hall
    obtain ⟨k, rfl, hk'⟩ := succ_of_pos (show 0 < k by omega)
    have e5 : IntKind.i64.wrap ((n : Int) + 1) = ((n + 1 : Nat) : Int) := by rw [i64w (by omega)]; omega
    rw [f241_l44]
    simp only [cond_dec, hB, e3, e5, types_match hM hM2 ha hb (show M + 1048576 < k by omega), Option.bind_some]
    rw [if_pos (by omega), gd_pos (by omega)]
    cases ht : tyS a b M i (rd B (n : Int)) with
    | false =>
      have := ih (n + 1) k (by omega) (by omega) (fun j hj => by
        rcases Nat.lt_or_ge j n with h | h
        · exact hall j h
        · obtain rfl : j = n := by omega
          exact ht)
      simpa using this
    | true => exact ⟨(n : Int), rfl, .inr ⟨n, rfl, by omega, ht, hall⟩⟩
theorem l108 {a b : TSchema} {M : Nat} (hM : a.fNodes.length * b.fNodes.length + 1 = M) (hM2 : M ≤ 1048576) (ha : ∀ x ∈ a.fNodes, SmallN x) (hb : ∀ x ∈ b.fNodes, SmallN x) {i j : Int} {B : List Int} (hB : (rd b.fNodes j).fBranches = B) (hBl : B.length ≤ 1048576) {r : Int}
    (hr : (r = -1 ∧ ∀ j, j < B.length → tyS a b M i (rd B (j : Int)) = false) ∨ ∃ p : Nat, r = (p : Int) ∧ p < B.length ∧ tyS a b M i (rd B (p : Int)) = true ∧ ∀ j, j < p → tyS a b M i (rd B (j : Int)) = false) :
    ∀ (m n k : Nat), m + n = B.length → m + M + 1048577 < k → f228_l108 b j r a i k (n : Int) = some (.b0 ()) := by
  have e3 : ∀ s : TSchema, TSchema.mk s.fNodes = s := fun s => rfl
  intro m
  induction m with
  | zero =>
    intro n k hm hk
    obtain ⟨k, rfl, _⟩ := succ_of_pos (show 0 < k by omega)
    rw [f228_l108, cond_dec, hB, if_neg (by omega)]
  | succ m ih =>
    intro n k hm hk
    obtain ⟨k, rfl, hk'⟩ := succ_of_pos (show 0 < k by omega)
    have e5 : IntKind.i64.wrap ((n : Int) + 1) = ((n + 1 : Nat) : Int) := by rw [i64w (by omega)]; omega
    have h1 := ih (n + 1) k (by omega) (by omega)
    rw [f228_l108]
    simp only [cond_dec, hB, e3, e5, f228_j130, types_match hM hM2 ha hb (show M + 1048576 < k by omega), Option.bind_some, h1]
    rw [if_pos (by omega), gd_pos (by omega)]
    rcases hr with ⟨rfl, hall⟩ | ⟨p, rfl, hp, ht, hall⟩
    · rw [if_pos (by omega), hall n (by omega)]
      simp [show ¬ ((n : Int) = -1) by omega]
    · rw [if_neg (by omega)]
      by_cases c : (n : Int) ≤ (p : Int)
      · rw [if_pos c]
        rcases Nat.lt_or_ge n p with h | h
        · rw [hall n h, show decide ((n : Int) = (p : Int)) = false from decide_eq_false (by omega)]
          rfl
        · obtain rfl : n = p := by omega
          rw [ht, show decide ((n : Int) = (n : Int)) = true from decide_eq_true rfl]
          rfl
      · rw [if_neg c]
theorem l15 {a : TSchema} : ∀ (m n k : Nat) (v : Int), m + n = 50 → m < k → ∃ v', f229_l15 a k v (n : Int) = some (.b0 v') := by
  intro m
  induction m with
  | zero =>
    intro n k v hm hk
    obtain ⟨k, rfl, _⟩ := succ_of_pos hk
    rw [f229_l15]
    simp only [cond_dec]
    by_cases c : ((n : Nat) : Int) < ((a.fNodes.length : Nat) : Int)
    · rw [if_pos c, if_neg (by omega)]; exact ⟨_, rfl⟩
    · rw [if_neg c]; exact ⟨_, rfl⟩
  | succ m ih =>
    intro n k v hm hk
    obtain ⟨k, rfl, hk'⟩ := succ_of_pos hk
    rw [f229_l15]
    simp only [cond_dec]
    by_cases c : ((n : Nat) : Int) < ((a.fNodes.length : Nat) : Int)
    · rw [if_pos c, if_pos (by omega), gd_pos (by omega), gd_pos (by omega), gd_pos (by omega), show IntKind.i64.wrap ((n : Int) + 1) = ((n + 1 : Nat) : Int) from by rw [i64w (by omega)]; omega]
      exact ih (n + 1) k _ (by omega) (by omega)
    · rw [if_neg c]; exact ⟨_, rfl⟩
theorem few_some {a : TSchema} {k : Nat} (hk : 60 < k) : ∃ b, f229 k a = some b ∧ (b = true → a.fNodes.length ≤ 50) := by
  obtain ⟨v, hv⟩ := l15 (a := a) 50 0 k 0 rfl (by omega)
  simp only [f229]
  rw [show f229_l15 a k 0 0 = _ from hv]
  simp only [Option.bind_some, f229_j69, cond_dec]
  by_cases c : ((a.fNodes.length : Nat) : Int) ≤ 50
  · rw [if_pos c]; exact ⟨_, rfl, fun _ => by omega⟩
  · rw [if_neg c]; exact ⟨_, rfl, fun h => by cases h⟩
theorem sum_mem {α : Type} {sz : α → Nat} : ∀ {l : List α} {x : α}, x ∈ l → sz x ≤ (l.map sz).sum
  | y :: l, x, h => by
    simp only [List.map_cons, List.sum_cons]
    rcases List.mem_cons.1 h with rfl | h
    · omega
    · have := sum_mem (sz := sz) h
      omega
theorem law_MatchFirst (a0 : TSchema) (a1 : TSchema) (a2 : Int) (a3 : Int) (w0 : TSchema.wf a0) (w1 : TSchema.wf a1) (w2 : (-9223372036854775808 ≤ a2 ∧ a2 ≤ 9223372036854775807)) (w3 : (-9223372036854775808 ≤ a3 ∧ a3 ≤ 9223372036854775807)) (hb : TSchema.sz a0 + TSchema.sz a1 + 1 + 1 ≤ 1048576) : ∃ k, f228 k a0 a1 a2 a3 = some true := by
  have haw : f230 (4000000 + 40) = some true := awake09 _
  refine ⟨4000000 + 40, ?_⟩
  generalize hk : 4000000 + 40 = k at haw ⊢
  have small : ∀ s : TSchema, TSchema.sz s ≤ 1048576 → ∀ x ∈ s.fNodes, SmallN x ∧ x.fBranches.length ≤ 1048576 := by
    intro s hs x hx
    have h1 := sum_mem (sz := TNode.sz) hx
    have h2 := len_sum (sz := fun x : List UInt8 => x.length + 1) (fun _ => by omega) x.fAliases
    have h3 := len_sum (sz := fun _ : Int => 1) (fun _ => Nat.le_refl _) x.fBranches
    simp only [TSchema.sz] at hs
    simp only [TNode.sz] at h1
    refine ⟨⟨by omega, by omega⟩, by omega⟩
  have s0 := small a0 (by omega)
  have s1 := small a1 (by omega)
  have e3 : ∀ s : TSchema, TSchema.mk s.fNodes = s := fun s => rfl
  obtain ⟨b0, hf0, hl0⟩ := few_some (a := a0) (k := k) (by omega)
  obtain ⟨b1, hf1, hl1⟩ := few_some (a := a1) (k := k) (by omega)
  simp only [f228, e3, hf0, hf1, haw, Option.bind_some, cond_dec]
  cases b0 with
  | false => rfl
  | true =>
  cases b1 with
  | false => rfl
  | true =>
  simp only [Bool.not_true, cond_false]
  by_cases c1 : a3 < 0
  · rw [if_pos c1]
  by_cases c2 : a3 ≥ ((a1.fNodes.length : Nat) : Int)
  · rw [if_neg c1, if_pos c2]
  rw [if_neg c1, if_neg c2]
  have hl0 := hl0 rfl
  have hl1 := hl1 rfl
  have hin : inS a1 a3 = true := by simp [inS]; omega
  have hg : 0 ≤ a3 ∧ a3 < ((a1.fNodes.length : Nat) : Int) := by omega
  have hmul : a0.fNodes.length * a1.fNodes.length ≤ 50 * 50 := Nat.mul_le_mul hl0 hl1
  have hBl := (s1 _ (rd_mem hg)).2
  simp only [f241, e3, at_in hin, Option.bind_some, cond_dec]
  by_cases c3 : (rd a1.fNodes a3).fKind = 13
  · obtain ⟨r, h1, h2⟩ := l44 (a := a0) (b := a1) rfl (by omega) (fun x hx => (s0 x hx).1) (fun x hx => (s1 x hx).1) (q := (true, (rd a1.fNodes a3).fKind, (rd a1.fNodes a3).fName, (rd a1.fNodes a3).fAliases, (rd a1.fNodes a3).fFields, (rd a1.fNodes a3).fSymbols, (rd a1.fNodes a3).fHas, (rd a1.fNodes a3).fDefault, (rd a1.fNodes a3).fItems, (rd a1.fNodes a3).fBranches, (rd a1.fNodes a3).fSize)) (i := a2) rfl hBl (rd a1.fNodes a3).fBranches.length 0 k rfl (by omega) (fun j hj => by omega)
    have h3 := l108 (a := a0) (b := a1) rfl (by omega) (fun x hx => (s0 x hx).1) (fun x hx => (s1 x hx).1) (i := a2) (j := a3) rfl hBl h2 (rd a1.fNodes a3).fBranches.length 0 k rfl (by omega)
    rw [if_neg (by simp [c3])]
    refine Eq.trans (congrArg (fun t => Option.bind t _) h1) ?_
    simp only [Option.bind_some]
    rw [gd_pos hg, gd_pos hg]
    simp only [c3, f228_j72, cond_dec]
    have hr1 : ¬ r < -1 := by rcases h2 with ⟨rfl, _⟩ | ⟨p, rfl, _⟩ <;> omega
    have hr2 : ¬ r ≥ (((rd a1.fNodes a3).fBranches.length : Nat) : Int) := by
      rcases h2 with ⟨rfl, _⟩ | ⟨p, rfl, hp, _⟩
      · omega
      · have hp : p < (rd a1.fNodes a3).fBranches.length := hp
        omega
    rw [if_neg (by simp), if_neg hr1, if_neg hr2, show f228_l108 a1 a3 r a0 a2 k 0 = _ from h3]
    rfl
  · rw [if_pos c3]
    simp only [Option.bind_some]
    rw [gd_pos hg, gd_pos hg]
    simp only [f228_j72, haw, cond_dec, Option.bind_some]
    rw [if_pos c3]
    rfl
end Go.Proofs.Abs
