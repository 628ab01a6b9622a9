/- The law LiveRaw over the Lean functions: ranks, round by round. -/
import Derived.Test.YtgimibhacllcpaaGLlrab
import Derived.Test.YtgimibhacllcpaaAbsxc
set_option linter.unusedSimpArgs false
namespace Go.Proofs.Abs
open Go
set_option linter.unusedVariables false
set_option maxRecDepth 10000
set_option linter.unusedSectionVars false
/-- a place's rank -/
def ofL (l : List Int) (i : Int) : Int := if i < 0 ∨ ((l.length : Nat) : Int) ≤ i then -1 else rd l i
def recR (l : List Int) : List TField → Int → Int
  | [], m => m + 1
  | f :: r, m => if ofL l f.fType = -1 then -1 else recR l r (max m (ofL l f.fType))
def uniR (l : List Int) : List Int → Int → Int
  | [], b => if b = -1 then -1 else b + 1
  | x :: r, b => if ofL l x ≠ -1 ∧ (b = -1 ∨ ofL l x < b) then uniR l r (ofL l x) else uniR l r b
def rk (nd : TNode) (l : List Int) : Int := if nd.fKind = 9 then recR l nd.fFields 0 else if nd.fKind = 13 then uniR l nd.fBranches (-1) else if nd.fKind < 1 then -1 else if nd.fKind > 14 then -1 else 0
def okL (B : Int) (l : List Int) : Prop := ∀ x ∈ l, -1 ≤ x ∧ x ≤ B
theorem ofL_in {l : List Int} {B i : Int} (h : okL B l) (hB : 0 ≤ B) : -1 ≤ ofL l i ∧ ofL l i ≤ B := by
  unfold ofL
  split
  · omega
  · rename_i c
    have hm : rd l i ∈ l := by
      simp only [rd]
      rw [List.getD_eq_getElem?_getD, List.getElem?_eq_getElem (show i.toNat < l.length by omega)]
      exact List.getElem_mem _
    exact h _ hm
theorem recR_in {l : List Int} {B : Int} (h : okL B l) (hB : 0 ≤ B) : ∀ (fs : List TField) (m : Int), 0 ≤ m ∧ m ≤ B → -1 ≤ recR l fs m ∧ recR l fs m ≤ B + 1
  | [], m, hm => by simp only [recR]; omega
  | f :: r, m, hm => by
    have h1 := ofL_in (i := f.fType) h hB
    simp only [recR]
    split
    · omega
    · exact recR_in h hB r _ (by omega)
theorem uniR_in {l : List Int} {B : Int} (h : okL B l) (hB : 0 ≤ B) : ∀ (bs : List Int) (b : Int), -1 ≤ b ∧ b ≤ B → -1 ≤ uniR l bs b ∧ uniR l bs b ≤ B + 1
  | [], b, hb => by simp only [uniR]; split <;> omega
  | x :: r, b, hb => by
    have h1 := ofL_in (i := x) h hB
    simp only [uniR]
    split
    · exact uniR_in h hB r _ h1
    · exact uniR_in h hB r _ hb
theorem rk_in {nd : TNode} {l : List Int} {B : Int} (h : okL B l) (hB : 0 ≤ B) : -1 ≤ rk nd l ∧ rk nd l ≤ B + 1 := by
  unfold rk
  split
  · exact recR_in h hB _ _ (by omega)
  · split
    · exact uniR_in h hB _ _ (by omega)
    · repeat' split
      all_goals omega
theorem of_live {l : List Int} {i : Int} {k : Nat} : f305 k i l = some (ofL l i) := by
  rw [f305, ofL]
  by_cases c1 : i < 0
  · rw [cdp c1, if_pos (.inl c1)]
  · rw [cdn c1]
    by_cases c2 : i ≥ ((l.length : Nat) : Int)
    · rw [cdp c2, if_pos (.inr c2)]
    · rw [cdn c2, gdp (by omega), if_neg (by omega)]
theorem of_ref {l : List Int} {i : Int} {k : Nat} : f311 k l i = some (ofL l i) := by
  rw [f311, ofL]
  by_cases c1 : i < 0
  · rw [cdp c1, if_pos (.inl c1)]
  · rw [cdn c1]
    by_cases c2 : i ≥ ((l.length : Nat) : Int)
    · rw [cdp c2, if_pos (.inr c2)]
    · rw [cdn c2, gdp (by omega), if_neg (by omega)]
theorem l37v {nd : TNode} {l : List Int} {B : Int} (h : okL B l) (hB : 0 ≤ B ∧ B ≤ 1000) (hn : nd.fFields.length ≤ 1048576) : ∀ (rest pre : List TField) (k : Nat) (m : Int), nd.fFields = pre ++ rest → rest.length < k → 0 ≤ m ∧ m ≤ B →
    ((f304_l37 nd l k m ((pre.length : Nat) : Int)).bind fun o37 => match o37 with | .b0 x37_1 => f304_j87 k x37_1 | .r x => some x | _ => none) = some (recR l rest m) := by
  intro rest
  induction rest with
  | nil =>
    intro pre k m ha hk hm
    obtain ⟨k, rfl, _⟩ := succ_of_pos hk
    have hl : nd.fFields.length = pre.length := by rw [ha]; simp
    rw [f304_l37, cdn (by omega)]
    simp only [Option.bind_some, f304_j87, recR]
    rw [i64w (by omega)]
  | cons x rest ih =>
    intro pre k m ha hk hm
    obtain ⟨k, rfl, hk'⟩ := succ_of_pos hk
    simp only [List.length_cons] at hk
    have hrd : rd nd.fFields ((pre.length : Nat) : Int) = x := by rw [ha]; exact rd_mid
    have hl : nd.fFields.length = pre.length + rest.length + 1 := by rw [ha]; simp; omega
    have hi : IntKind.i64.wrap (((pre.length : Nat) : Int) + 1) = (((pre ++ [x]).length : Nat) : Int) := by
      rw [i64w (by omega)]; simp
    have h1 := ofL_in (i := x.fType) h hB.1
    rw [f304_l37, cdp (by omega), gdp (by omega), hrd, of_live, Option.bind_some, recR]
    by_cases c : ofL l x.fType = -1
    · rw [cdp c, if_pos c]; rfl
    · rw [cdn c, if_neg c, hi]
      have := ih (pre ++ [x]) k (max m (ofL l x.fType)) (by rw [ha]; simp) (by omega) (by omega)
      simp only [f304_j87] at this ⊢
      exact this
theorem l112v {nd : TNode} {l : List Int} {B : Int} (h : okL B l) (hB : 0 ≤ B ∧ B ≤ 1000) (hn : nd.fBranches.length ≤ 1048576) : ∀ (rest pre : List Int) (k : Nat) (b : Int), nd.fBranches = pre ++ rest → rest.length < k → -1 ≤ b ∧ b ≤ B →
    ((f304_l112 nd l k b ((pre.length : Nat) : Int)).bind fun o112 => match o112 with | .b0 x112_1 => f304_j161 k x112_1 | _ => none) = some (uniR l rest b) := by
  intro rest
  induction rest with
  | nil =>
    intro pre k m ha hk hm
    obtain ⟨k, rfl, _⟩ := succ_of_pos hk
    have hl : nd.fBranches.length = pre.length := by rw [ha]; simp
    rw [f304_l112, cdn (by omega)]
    simp only [Option.bind_some, f304_j161, uniR]
    by_cases c : m = -1
    · rw [cdp c, if_pos c]
    · rw [cdn c, if_neg c, i64w (by omega)]
  | cons x rest ih =>
    intro pre k m ha hk hm
    obtain ⟨k, rfl, hk'⟩ := succ_of_pos hk
    simp only [List.length_cons] at hk
    have hrd : rd nd.fBranches ((pre.length : Nat) : Int) = x := by rw [ha]; exact rd_mid
    have hl : nd.fBranches.length = pre.length + rest.length + 1 := by rw [ha]; simp; omega
    have hi : IntKind.i64.wrap (((pre.length : Nat) : Int) + 1) = (((pre ++ [x]).length : Nat) : Int) := by
      rw [i64w (by omega)]; simp
    have h1 := ofL_in (i := x) h hB.1
    have i1 := ih (pre ++ [x]) k (ofL l x) (by rw [ha]; simp) (by omega) h1
    have i2 := ih (pre ++ [x]) k m (by rw [ha]; simp) (by omega) hm
    simp only [f304_j161] at i1 i2 ⊢
    rw [f304_l112, cdp (by omega), gdp (by omega), hrd, of_live, Option.bind_some, uniR, hi]
    by_cases c : ofL l x = -1
    · rw [cdn (by simp [c]), if_neg (by simp [c])]; exact i2
    · rw [cdp c]
      by_cases c2 : m = -1
      · rw [cdp c2, if_pos ⟨c, .inl c2⟩]; exact i1
      · rw [cdn c2]
        by_cases c3 : ofL l x < m
        · rw [cdp c3, if_pos ⟨c, .inr c3⟩]; exact i1
        · rw [cdn c3, if_neg (fun h => h.2.elim c2 c3)]; exact i2
theorem rank_live {nd : TNode} {l : List Int} {B : Int} (h : okL B l) (hB : 0 ≤ B ∧ B ≤ 1000) (h1 : nd.fFields.length ≤ 1048576) (h2 : nd.fBranches.length ≤ 1048576) {k : Nat} (hk : 1048577 < k) : f304 k nd l = some (rk nd l) := by
  rw [f304, rk]
  by_cases c1 : nd.fKind = 9
  · rw [cdp c1, if_pos c1]; exact l37v h hB h1 nd.fFields [] k 0 rfl (by omega) (by omega)
  rw [cdn c1, if_neg c1]
  by_cases c2 : nd.fKind = 13
  · rw [cdp c2, if_pos c2]; exact l112v h hB h2 nd.fBranches [] k (-1) rfl (by omega) (by omega)
  rw [cdn c2, if_neg c2]
  by_cases c3 : nd.fKind < 1
  · rw [cdp c3, if_pos c3]
  rw [cdn c3, if_neg c3]
  by_cases c4 : nd.fKind > 14
  · rw [cdp c4, if_pos c4]
  · rw [cdn c4, if_neg c4]
theorem l28r {nd : TNode} {l : List Int} {B : Int} (h : okL B l) (hB : 0 ≤ B ∧ B ≤ 1000) (hn : nd.fFields.length ≤ 1048576) : ∀ (rest pre : List TField) (k : Nat) (m : Int), nd.fFields = pre ++ rest → rest.length < k → 0 ≤ m ∧ m ≤ B →
    ((f310_l28 nd l k m ((pre.length : Nat) : Int)).bind fun o28 => match o28 with | .b0 x28_1 => f310_j80 k x28_1 | .r x => some x | _ => none) = some (recR l rest m) := by
  intro rest
  induction rest with
  | nil =>
    intro pre k m ha hk hm
    obtain ⟨k, rfl, _⟩ := succ_of_pos hk
    have hl : nd.fFields.length = pre.length := by rw [ha]; simp
    rw [f310_l28, cdn (by omega)]
    simp only [Option.bind_some, f310_j80, recR]
    rw [i64w (by omega)]
  | cons x rest ih =>
    intro pre k m ha hk hm
    obtain ⟨k, rfl, hk'⟩ := succ_of_pos hk
    simp only [List.length_cons] at hk
    have hrd : rd nd.fFields ((pre.length : Nat) : Int) = x := by rw [ha]; exact rd_mid
    have hl : nd.fFields.length = pre.length + rest.length + 1 := by rw [ha]; simp; omega
    have hi : IntKind.i64.wrap (((pre.length : Nat) : Int) + 1) = (((pre ++ [x]).length : Nat) : Int) := by
      rw [i64w (by omega)]; simp
    have h1 := ofL_in (i := x.fType) h hB.1
    rw [f310_l28, cdp (by omega), gdp (by omega), hrd, of_ref, Option.bind_some, recR]
    by_cases c : ofL l x.fType = -1
    · rw [cdp (by omega), if_pos c]; rfl
    · rw [cdn (by omega), if_neg c, hi]
      have := ih (pre ++ [x]) k (max m (ofL l x.fType)) (by rw [ha]; simp) (by omega) (by omega)
      simp only [f310_j80] at this ⊢
      exact this
theorem l102r {nd : TNode} {l : List Int} {B : Int} (h : okL B l) (hB : 0 ≤ B ∧ B ≤ 1000) (hn : nd.fBranches.length ≤ 1048576) : ∀ (rest pre : List Int) (k : Nat) (b : Int), nd.fBranches = pre ++ rest → rest.length < k → -1 ≤ b ∧ b ≤ B →
    ((f310_l102 nd l k b ((pre.length : Nat) : Int)).bind fun o102 => match o102 with | .b0 x102_1 => f310_j154 k x102_1 | _ => none) = some (uniR l rest b) := by
  intro rest
  induction rest with
  | nil =>
    intro pre k m ha hk hm
    obtain ⟨k, rfl, _⟩ := succ_of_pos hk
    have hl : nd.fBranches.length = pre.length := by rw [ha]; simp
    rw [f310_l102, cdn (by omega)]
    simp only [Option.bind_some, f310_j154, uniR]
    by_cases c : m = -1
    · rw [cdp (by omega), if_pos c]
    · rw [cdn (by omega), if_neg c, i64w (by omega)]
  | cons x rest ih =>
    intro pre k m ha hk hm
    obtain ⟨k, rfl, hk'⟩ := succ_of_pos hk
    simp only [List.length_cons] at hk
    have hrd : rd nd.fBranches ((pre.length : Nat) : Int) = x := by rw [ha]; exact rd_mid
    have hl : nd.fBranches.length = pre.length + rest.length + 1 := by rw [ha]; simp; omega
    have hi : IntKind.i64.wrap (((pre.length : Nat) : Int) + 1) = (((pre ++ [x]).length : Nat) : Int) := by
      rw [i64w (by omega)]; simp
    have h1 := ofL_in (i := x) h hB.1
    have i1 := ih (pre ++ [x]) k (ofL l x) (by rw [ha]; simp) (by omega) h1
    have i2 := ih (pre ++ [x]) k m (by rw [ha]; simp) (by omega) hm
    simp only [f310_j154] at i1 i2 ⊢
    rw [f310_l102, cdp (by omega), gdp (by omega), hrd, of_ref, Option.bind_some, uniR, hi]
    by_cases c : ofL l x = -1
    · rw [cdn (by omega), if_neg (by simp [c])]; exact i2
    · rw [cdp (by omega)]
      by_cases c2 : m = -1
      · rw [cdp (by omega), if_pos ⟨c, .inl c2⟩]; exact i1
      · rw [cdn (by omega)]
        by_cases c3 : ofL l x < m
        · rw [cdp c3, if_pos ⟨c, .inr c3⟩]; exact i1
        · rw [cdn c3, if_neg (fun h => h.2.elim c2 c3)]; exact i2
theorem rank_ref {nd : TNode} {l : List Int} {B : Int} (h : okL B l) (hB : 0 ≤ B ∧ B ≤ 1000) (h1 : nd.fFields.length ≤ 1048576) (h2 : nd.fBranches.length ≤ 1048576) {k : Nat} (hk : 1048577 < k) : f310 k nd l = some (rk nd l) := by
  rw [f310, rk]
  by_cases c1 : nd.fKind = 9
  · rw [cdp c1, if_pos c1]; exact l28r h hB h1 nd.fFields [] k 0 rfl (by omega) (by omega)
  rw [cdn c1, if_neg c1]
  by_cases c2 : nd.fKind = 13
  · rw [cdp c2, if_pos c2]; exact l102r h hB h2 nd.fBranches [] k (-1) rfl (by omega) (by omega)
  rw [cdn c2, if_neg c2]
  by_cases c3 : nd.fKind < 1
  · rw [cdp c3, if_pos c3]
  rw [cdn c3, if_neg c3]
  by_cases c4 : nd.fKind > 14
  · rw [cdp c4, if_pos c4]
  · rw [cdn c4, if_neg c4]
/-! ## A round -/
def stL (L : List Int) : List TNode → List Int → List Int
  | nd :: ns, x :: xs => (if x = -1 then rk nd L else x) :: stL L ns xs
  | _, _ => []
def chL (L : List Int) : List TNode → List Int → Bool
  | nd :: ns, x :: xs => (decide (x = -1) && decide (rk nd L ≠ -1)) || chL L ns xs
  | _, _ => false
def cnt : List Int → Nat
  | [] => 0
  | x :: r => (if x = -1 then 1 else 0) + cnt r
theorem stL_len (L : List Int) : ∀ (ns : List TNode) (xs : List Int), ns.length = xs.length → (stL L ns xs).length = xs.length
  | [], [], _ => rfl
  | [], _ :: _, h => by simp at h
  | _ :: _, [], h => by simp at h
  | n :: ns, x :: xs, h => by simp only [stL, List.length_cons, stL_len L ns xs (by simpa using h)]
theorem stL_app (L : List Int) : ∀ (a : List TNode) (p : List Int) (n : TNode) (x : Int), a.length = p.length → stL L (a ++ [n]) (p ++ [x]) = stL L a p ++ [if x = -1 then rk n L else x]
  | [], [], n, x, _ => rfl
  | [], _ :: _, _, _, h => by simp at h
  | _ :: _, [], _, _, h => by simp at h
  | m :: a, y :: p, n, x, h => by simp only [List.cons_append, stL, stL_app L a p n x (by simpa using h)]
theorem stL_same {L : List Int} : ∀ (ns : List TNode) (xs : List Int), ns.length = xs.length → chL L ns xs = false → stL L ns xs = xs
  | [], [], _, _ => rfl
  | [], _ :: _, h, _ => by simp at h
  | _ :: _, [], h, _ => by simp at h
  | n :: ns, x :: xs, h, hc => by
    simp only [chL, Bool.or_eq_false_iff, Bool.and_eq_false_iff, decide_eq_false_iff_not] at hc
    simp only [stL, stL_same ns xs (by simpa using h) hc.2]
    congr 1
    split
    · rename_i hx
      rcases hc.1 with h1 | h1
      · exact absurd hx h1
      · rw [hx]; exact Classical.not_not.1 h1
    · rfl
theorem cnt_st {L : List Int} : ∀ (ns : List TNode) (xs : List Int), ns.length = xs.length → cnt (stL L ns xs) ≤ cnt xs ∧ (chL L ns xs = true → cnt (stL L ns xs) < cnt xs)
  | [], [], _ => ⟨Nat.le_refl _, fun h => by simp [chL] at h⟩
  | [], _ :: _, h => by simp at h
  | _ :: _, [], h => by simp at h
  | n :: ns, x :: xs, h => by
    obtain ⟨h1, h2⟩ := cnt_st (L := L) ns xs (by simpa using h)
    simp only [stL, cnt, chL]
    by_cases c : x = -1
    · by_cases c2 : rk n L = -1
      · simp only [c, c2, if_true]
        refine ⟨by omega, fun hc => ?_⟩
        simp only [ne_eq, not_true, decide_false, Bool.and_false, Bool.false_or] at hc
        have := h2 hc; omega
      · simp only [c, c2, if_true, if_false]
        exact ⟨by omega, fun _ => by omega⟩
    · simp only [c, if_false]
      refine ⟨by omega, fun hc => ?_⟩
      simp only [decide_false, Bool.false_and, Bool.false_or] at hc
      have := h2 hc; omega
theorem okL_st {L : List Int} {B : Int} (hL : okL B L) (hB : 0 ≤ B) : ∀ (ns : List TNode) (xs : List Int), okL B xs → okL (B + 1) (stL L ns xs)
  | [], _, _ => by intro y hy; simp [stL] at hy
  | _ :: _, [], _ => by intro y hy; simp [stL] at hy
  | n :: ns, x :: xs, hx => by
    intro y hy
    simp only [stL, List.mem_cons] at hy
    rcases hy with rfl | hy
    · have h1 := rk_in (nd := n) hL hB
      have h2 := hx x (List.mem_cons_self ..)
      split <;> omega
    · exact okL_st hL hB ns xs (fun z hz => hx z (List.mem_cons_of_mem _ hz)) y hy
/-- rounds -/
def rounds (N : List TNode) : Nat → List Int → List Int
  | 0, l => l
  | j + 1, l => rounds N j (stL l N l)
theorem rounds_fix {N : List TNode} {l : List Int} (h : stL l N l = l) : ∀ j, rounds N j l = l
  | 0 => rfl
  | j + 1 => by rw [rounds, h, rounds_fix h j]
theorem node_eta (n : TNode) : TNode.mk n.fKind n.fName n.fAliases n.fFields n.fSymbols n.fHas n.fDefault n.fItems n.fBranches n.fSize = n := rfl
theorem getD_mid {α : Type} {pre rest : List α} {x d : α} : List.getD (pre ++ x :: rest) pre.length d = x := by simp
theorem set_mid {α : Type} {pre rest : List α} {x y : α} : List.set (pre ++ x :: rest) pre.length y = pre ++ y :: rest := by simp
section
variable {N : List TNode} (hw : ∀ n ∈ N, n.fFields.length ≤ 1048576 ∧ n.fBranches.length ≤ 1048576) (hN : N.length ≤ 40)
include hw hN
theorem l85 {L : List Int} {B : Int} (hL : okL B L) (hB : 0 ≤ B ∧ B ≤ 1000) (hlen : L.length = N.length) : ∀ (ns pn : List TNode) (xs px : List Int) (k : Nat) (ch : Bool), N = pn ++ ns → L = px ++ xs → pn.length = px.length → ns.length + 1048580 < k →
    f250_l85 ⟨N⟩ L.length L k ch ((px.length : Nat) : Int) (stL L pn px ++ xs) = some (.b0 (ch || chL L ns xs, stL L pn px ++ stL L ns xs)) := by
  intro ns
  induction ns with
  | nil =>
    intro pn xs px k ch ha hb hp hk
    obtain ⟨k, rfl, _⟩ := succ_of_pos (show 0 < k by omega)
    have h1 : N.length = pn.length := by rw [ha]; simp
    have hx : xs = [] := List.eq_nil_of_length_eq_zero (by have := congrArg List.length hb; simp at this; omega)
    subst hx
    rw [f250_l85, cdn (show ¬ _ < ((N.length : Nat) : Int) by omega)]
    simp [stL, chL]
  | cons n ns ih =>
    intro pn xs px k ch ha hb hp hk
    obtain ⟨k, rfl, _⟩ := succ_of_pos (show 0 < k by omega)
    simp only [List.length_cons] at hk
    have h1 : N.length = pn.length + ns.length + 1 := by rw [ha]; simp; omega
    cases xs with
    | nil => have := congrArg List.length hb; simp at this; omega
    | cons x xs =>
      have hn := hw n (by rw [ha]; simp)
      have hrd : rd N ((px.length : Nat) : Int) = n := by rw [ha, ← hp]; exact rd_mid
      have hgx : List.getD L px.length default = x := by rw [hb]; exact getD_mid
      have hi : IntKind.i64.wrap (((px.length : Nat) : Int) + 1) = (((px ++ [x]).length : Nat) : Int) := by
        rw [i64w (by omega)]; simp
      have hsl := stL_len L pn px (by omega)
      have next : ∀ ch' : Bool, f250_l85 ⟨N⟩ L.length L k ch' (((px ++ [x]).length : Nat) : Int) (stL L pn px ++ (if x = -1 then rk n L else x) :: xs) = some (.b0 (ch' || chL L ns xs, stL L pn px ++ ((if x = -1 then rk n L else x) :: stL L ns xs))) := by
        intro ch'
        have := ih (pn ++ [n]) xs (px ++ [x]) k ch' (by rw [ha]; simp) (by rw [hb]; simp) (by simp [hp]) (by omega)
        rw [stL_app L pn px n x (by omega)] at this
        simpa using this
      rw [f250_l85, cdp (show _ < ((N.length : Nat) : Int) by omega), gdp (show _ ∧ _ < ((N.length : Nat) : Int) by omega), gdp (by omega), gdp (by simp only [Int.toNat_natCast]; omega)]
      have ht : (((px.length : Nat) : Int)).toNat = px.length := rfl
      rw [ht, hgx, hi, hrd, node_eta, List.take_length]
      simp only [stL, chL]
      by_cases c : x = -1
      · have hset : (stL L pn px ++ x :: xs).set px.length (rk n L) = stL L pn px ++ rk n L :: xs := by
          rw [← hsl]; exact set_mid
        have hgs : List.getD (stL L pn px ++ rk n L :: xs) px.length default = rk n L := by
          rw [← hsl]; exact getD_mid
        have h2 := next true
        have h3 := next (decide (rk n L ≠ -1))
        simp only [c, if_true] at h2 h3
        rw [cdn (by simp [c]), gdp (Nat.le_refl _), rank_live hL hB hn.1 hn.2 (by omega), Option.bind_some, gdp (by omega), gdp (by simp [hsl]), hset]
        subst c
        cases ch with
        | true =>
          rw [cond_true, h2]
          simp
        | false =>
          rw [cond_false, gdp (by omega), gdp (by simp [hsl]), hgs, h3]
          simp
      · have h2 := next ch
        simp only [c, if_false] at h2
        rw [cdp c, h2]
        simp [c]
theorem l53 : ∀ (c k : Nat) (L : List Int) (B : Int), L.length = N.length → okL B L → 0 ≤ B ∧ B + c ≤ 900 → cnt L ≤ c → c + 1048800 < k →
    f250_l53 ⟨N⟩ k L.length true L = some (.b0 ((rounds N (c + 1) L).length, rounds N (c + 1) L)) := by
  intro c
  induction c with
  | zero =>
    intro k L B hl hL hB hc hk
    obtain ⟨k, rfl, _⟩ := succ_of_pos (show 0 < k by omega)
    have h := l85 hw hN hL (by omega) hl N [] L [] k false rfl rfl rfl (by omega)
    have hch : chL L N L = false := by
      cases hx : chL L N L with
      | false => rfl
      | true => have := (cnt_st (L := L) N L (by omega)).2 hx; omega
    have hfix := stL_same N L (by omega) hch
    simp only [stL, List.nil_append, Bool.false_or, hch, hfix] at h
    rw [f250_l53, cond_true, gdp (Nat.le_refl _), List.take_length, gdp (by omega), show f250_l85 ⟨N⟩ L.length L k false 0 L = _ from h]
    simp only [Option.bind_some]
    obtain ⟨k, rfl, _⟩ := succ_of_pos (show 0 < k by omega)
    rw [f250_l53, cond_false, rounds_fix hfix]
  | succ c ih =>
    intro k L B hl hL hB hc hk
    obtain ⟨k, rfl, _⟩ := succ_of_pos (show 0 < k by omega)
    have h := l85 hw hN hL (by omega) hl N [] L [] k false rfl rfl rfl (by omega)
    simp only [stL, List.nil_append, Bool.false_or] at h
    rw [f250_l53, cond_true, gdp (Nat.le_refl _), List.take_length, gdp (by omega), show f250_l85 ⟨N⟩ L.length L k false 0 L = _ from h]
    simp only [Option.bind_some]
    have hsl := stL_len L N L (by omega)
    cases hx : chL L N L with
    | false =>
      have hfix := stL_same N L (by omega) hx
      obtain ⟨k, rfl, _⟩ := succ_of_pos (show 0 < k by omega)
      rw [f250_l53, cond_false, rounds_fix hfix, hfix]
    | true =>
      have hlt := (cnt_st (L := L) N L (by omega)).2 hx
      have := ih k (stL L N L) (B + 1) (by omega) (okL_st hL (by omega) N L hL) (by omega) (by omega) (by omega)
      rw [hsl] at this
      rw [this]; rfl
theorem l74 {L : List Int} {B : Int} (hL : okL B L) (hB : 0 ≤ B ∧ B ≤ 1000) (hlen : L.length = N.length) : ∀ (ns pn : List TNode) (xs px : List Int) (k : Nat), N = pn ++ ns → L = px ++ xs → pn.length = px.length → ns.length + 1048580 < k →
    f309_l74 ⟨N⟩ L k ((px.length : Nat) : Int) (stL L pn px ++ xs) = some (.b0 (stL L pn px ++ stL L ns xs)) := by
  intro ns
  induction ns with
  | nil =>
    intro pn xs px k ha hb hp hk
    obtain ⟨k, rfl, _⟩ := succ_of_pos (show 0 < k by omega)
    have h1 : N.length = pn.length := by rw [ha]; simp
    have hx : xs = [] := List.eq_nil_of_length_eq_zero (by have := congrArg List.length hb; simp at this; omega)
    subst hx
    rw [f309_l74, cdn (show ¬ _ < ((N.length : Nat) : Int) by omega)]
    simp [stL]
  | cons n ns ih =>
    intro pn xs px k ha hb hp hk
    obtain ⟨k, rfl, _⟩ := succ_of_pos (show 0 < k by omega)
    simp only [List.length_cons] at hk
    have h1 : N.length = pn.length + ns.length + 1 := by rw [ha]; simp; omega
    cases xs with
    | nil => have := congrArg List.length hb; simp at this; omega
    | cons x xs =>
      have hn := hw n (by rw [ha]; simp)
      have hrd : rd N ((px.length : Nat) : Int) = n := by rw [ha, ← hp]; exact rd_mid
      have hrx : rd L ((px.length : Nat) : Int) = x := by rw [hb]; exact rd_mid
      have hxo := hL x (by rw [hb]; simp)
      have hi : IntKind.i64.wrap (((px.length : Nat) : Int) + 1) = (((px ++ [x]).length : Nat) : Int) := by
        rw [i64w (by omega)]; simp
      have hsl := stL_len L pn px (by omega)
      have next : f309_l74 ⟨N⟩ L k (((px ++ [x]).length : Nat) : Int) (stL L pn px ++ (if x = -1 then rk n L else x) :: xs) = some (.b0 (stL L pn px ++ ((if x = -1 then rk n L else x) :: stL L ns xs))) := by
        have := ih (pn ++ [n]) xs (px ++ [x]) k (by rw [ha]; simp) (by rw [hb]; simp) (by simp [hp]) (by omega)
        rw [stL_app L pn px n x (by omega)] at this
        simpa using this
      rw [f309_l74, cdp (show _ < ((N.length : Nat) : Int) by omega), gdp (by omega), hrx]
      simp only [Int.toNat_natCast, hi, hrd, stL]
      by_cases c : x = -1
      · have hset : (stL L pn px ++ x :: xs).set px.length (rk n L) = stL L pn px ++ rk n L :: xs := by
          rw [← hsl]; exact set_mid
        simp only [c, if_true] at next
        rw [cdp (by omega), gdp (show _ ∧ _ < ((N.length : Nat) : Int) by omega), rank_ref hL hB hn.1 hn.2 (by omega), Option.bind_some, gdp (by omega), gdp (by simp [hsl]), hset]
        subst c
        exact next
      · simp only [c, if_false] at next
        rw [cdn (by omega), next]
        simp [c]
theorem l47 : ∀ (d j k : Nat) (L : List Int) (B : Int), j + d = N.length + 1 → L.length = N.length → okL B L → 0 ≤ B ∧ B + d ≤ 900 → d + 1048800 < k →
    f309_l47 ⟨N⟩ k L (j : Int) = some (.b0 (rounds N d L)) := by
  intro d
  induction d with
  | zero =>
    intro j k L B hj hl hL hB hk
    obtain ⟨k, rfl, _⟩ := succ_of_pos (show 0 < k by omega)
    rw [f309_l47, cdn (show ¬ _ ≤ ((N.length : Nat) : Int) by omega)]
    rfl
  | succ d ih =>
    intro j k L B hj hl hL hB hk
    obtain ⟨k, rfl, _⟩ := succ_of_pos (show 0 < k by omega)
    have h := l74 hw hN hL (by omega) hl N [] L [] k rfl rfl rfl (by omega)
    simp only [stL, List.nil_append] at h
    have hsl := stL_len L N L (by omega)
    have := ih (j + 1) k (stL L N L) (B + 1) (by omega) (by omega) (okL_st hL (by omega) N L hL) (by omega) (by omega)
    rw [f309_l47, cdp (show _ ≤ ((N.length : Nat) : Int) by omega), gdp (by omega), show f309_l74 ⟨N⟩ L k 0 L = _ from h]
    simp only [Option.bind_some]
    rw [gdp (by omega), i64w (by omega), List.take_of_length_le (by omega)]
    exact this
theorem l21 : ∀ (d j k : Nat), j + d = N.length → d < k → f250_l21 ⟨N⟩ k (j : Int) (List.replicate j (-1) ++ List.replicate d (default : Int)) = some (.b0 (List.replicate N.length (-1))) := by
  intro d
  induction d with
  | zero =>
    intro j k hj hk
    obtain ⟨k, rfl, _⟩ := succ_of_pos (show 0 < k by omega)
    rw [f250_l21]
    simp only [Int.toNat_natCast]
    rw [cdn (by omega)]
    simp [show j = N.length by omega]
  | succ d ih =>
    intro j k hj hk
    obtain ⟨k, rfl, _⟩ := succ_of_pos (show 0 < k by omega)
    have hset : (List.replicate j (-1 : Int) ++ List.replicate (d + 1) (default : Int)).set j (-1) = List.replicate (j + 1) (-1) ++ List.replicate d default := by
      rw [List.replicate_succ, show (List.replicate j (-1 : Int) ++ default :: List.replicate d (default : Int)).set j (-1) = List.replicate j (-1) ++ (-1) :: List.replicate d default from by
        have := set_mid (pre := List.replicate j (-1 : Int)) (rest := List.replicate d (default : Int)) (x := default) (y := -1)
        rwa [List.length_replicate] at this]
      rw [List.replicate_succ' (n := j)]
      simp
    rw [f250_l21]
    simp only [Int.toNat_natCast]
    rw [cdp (by omega), gdp (by omega), gdp (by simp), hset, i64w (by omega)]
    exact ih (j + 1) k (by omega) (by omega)
theorem ranks_live {k : Nat} (hk : 1050000 < k) : f250 k ⟨N⟩ = some (rounds N (N.length + 1) (List.replicate N.length (-1))) := by
  have hcnt : ∀ m, cnt (List.replicate m (-1)) = m := by
    intro m
    induction m with
    | zero => rfl
    | succ m ih => rw [List.replicate_succ, cnt, ih, if_pos rfl]; omega
  have h1 := l21 hw hN N.length 0 k (by omega) (by omega)
  rw [List.replicate_zero, List.nil_append] at h1
  have h2 := l53 hw hN N.length k (List.replicate N.length (-1)) 0 (by simp) (fun x hx => by rw [List.eq_of_mem_replicate hx]; omega) (by omega) (by rw [hcnt]; omega) (by omega)
  rw [List.length_replicate] at h2
  rw [f250, gdp (by show _ ∧ _ ∧ ((N.length : Nat) : Int) * 8 ≤ _; omega)]
  simp only [Int.toNat_natCast]
  rw [show f250_l21 ⟨N⟩ k 0 (List.replicate N.length default) = _ from h1]
  simp only [Option.bind_some, f250_j48, Int.toNat_natCast]
  rw [h2]
  simp only [Option.bind_some]
  rw [gdp (Nat.le_refl _), List.take_length]
theorem l15 : ∀ (d j k : Nat), j + d = N.length → d < k → f309_l15 ⟨N⟩ k (List.replicate j (-1)) (j : Int) = some (.b0 (List.replicate N.length (-1))) := by
  intro d
  induction d with
  | zero =>
    intro j k hj hk
    obtain ⟨k, rfl, _⟩ := succ_of_pos (show 0 < k by omega)
    rw [f309_l15, cdn (show ¬ _ < ((N.length : Nat) : Int) by omega), show j = N.length by omega]
  | succ d ih =>
    intro j k hj hk
    obtain ⟨k, rfl, _⟩ := succ_of_pos (show 0 < k by omega)
    rw [f309_l15, cdp (show _ < ((N.length : Nat) : Int) by omega), gdp (by simp; omega), i64w (by omega), ← List.replicate_succ']
    exact ih (j + 1) k (by omega) (by omega)
theorem ranks_ref {k : Nat} (hk : 1050000 < k) : f309 k ⟨N⟩ = some (rounds N (N.length + 1) (List.replicate N.length (-1))) := by
  have h1 := l15 hw hN N.length 0 k (by omega) (by omega)
  have h2 := l47 hw hN (N.length + 1) 0 k (List.replicate N.length (-1)) 0 (by omega) (by simp) (fun x hx => by rw [List.eq_of_mem_replicate hx]; omega) (by omega) (by omega)
  rw [f309, show f309_l15 ⟨N⟩ k [] 0 = _ from h1]
  simp only [Option.bind_some, f309_j42]
  rw [show f309_l47 ⟨N⟩ k (List.replicate N.length (-1)) 0 = _ from h2]
  rfl
end
theorem rounds_ok {N : List TNode} : ∀ (j : Nat) (l : List Int) (B : Int), l.length = N.length → okL B l → 0 ≤ B → okL (B + j) (rounds N j l) ∧ (rounds N j l).length = N.length
  | 0, l, B, h, hl, hB => by simpa [rounds] using ⟨hl, h⟩
  | j + 1, l, B, h, hl, hB => by
    have := rounds_ok j (stL l N l) (B + 1) (by rw [stL_len _ _ _ (by omega)]; exact h) (okL_st hl hB N l hl) (by omega)
    rw [rounds]
    refine ⟨?_, this.2⟩
    have e : B + ((j + 1 : Nat) : Int) = B + 1 + (j : Int) := by omega
    rw [e]; exact this.1
theorem l18n {r : List Int} (hr : r.length ≤ 40) : ∀ (rest pre : List Int) (k : Nat), r = pre ++ rest → rest.length < k → f307_l18 r k (pre.map fun x => decide (x ≠ -1)) ((pre.length : Nat) : Int) = some (.b0 (r.map fun x => decide (x ≠ -1))) := by
  intro rest
  induction rest with
  | nil =>
    intro pre k ha hk
    obtain ⟨k, rfl, _⟩ := succ_of_pos (show 0 < k by omega)
    have hl : r.length = pre.length := by rw [ha]; simp
    rw [f307_l18, cdn (by omega), ha]; simp
  | cons x rest ih =>
    intro pre k ha hk
    obtain ⟨k, rfl, _⟩ := succ_of_pos (show 0 < k by omega)
    simp only [List.length_cons] at hk
    have hrd : rd r ((pre.length : Nat) : Int) = x := by rw [ha]; exact rd_mid
    have hl : r.length = pre.length + rest.length + 1 := by rw [ha]; simp; omega
    have hi : IntKind.i64.wrap (((pre.length : Nat) : Int) + 1) = (((pre ++ [x]).length : Nat) : Int) := by
      rw [i64w (by omega)]; simp
    have := ih (pre ++ [x]) k (by rw [ha]; simp) (by omega)
    rw [f307_l18, cdp (by omega), gdp (by omega), gdp (by simp; omega), hrd, hi]
    simpa using this
theorem l21n {r : List Int} (hr : r.length ≤ 40) (h0 : ∀ x ∈ r, -1 ≤ x) : ∀ (rest pre : List Int) (k : Nat), r = pre ++ rest → rest.length < k → f308_l21 r k (pre.map fun x => decide (x ≠ -1)) ((pre.length : Nat) : Int) = some (.b0 (r.map fun x => decide (x ≠ -1))) := by
  intro rest
  induction rest with
  | nil =>
    intro pre k ha hk
    obtain ⟨k, rfl, _⟩ := succ_of_pos (show 0 < k by omega)
    have hl : r.length = pre.length := by rw [ha]; simp
    rw [f308_l21, cdn (by omega), ha]; simp
  | cons x rest ih =>
    intro pre k ha hk
    obtain ⟨k, rfl, _⟩ := succ_of_pos (show 0 < k by omega)
    simp only [List.length_cons] at hk
    have hrd : rd r ((pre.length : Nat) : Int) = x := by rw [ha]; exact rd_mid
    have hx := h0 x (by rw [ha]; simp)
    have hl : r.length = pre.length + rest.length + 1 := by rw [ha]; simp; omega
    have hi : IntKind.i64.wrap (((pre.length : Nat) : Int) + 1) = (((pre ++ [x]).length : Nat) : Int) := by
      rw [i64w (by omega)]; simp
    have he : decide (x ≥ 0) = decide (x ≠ -1) := by
      simp only [decide_eq_decide]; omega
    have := ih (pre ++ [x]) k (by rw [ha]; simp) (by omega)
    rw [f308_l21, cdp (by omega), gdp (by omega), gdp (by simp; omega), hrd, hi, he]
    simpa using this
theorem l26n {L : List Bool} (hn : L.length ≤ 1048576) : ∀ (rest pre : List Bool) (k : Nat), L = pre ++ rest → rest.length < k →
    f313_l26 L L k ((pre.length : Nat) : Int) = some (.b0 ()) := by
  intro rest
  induction rest with
  | nil =>
    intro pre k ha hk
    obtain ⟨k, rfl, _⟩ := succ_of_pos (show 0 < k by omega)
    have hl : L.length = pre.length := by rw [ha]; simp
    rw [f313_l26, cdn (by omega)]
  | cons x rest ih =>
    intro pre k ha hk
    obtain ⟨k, rfl, _⟩ := succ_of_pos (show 0 < k by omega)
    simp only [List.length_cons] at hk
    have hl : L.length = pre.length + rest.length + 1 := by rw [ha]; simp; omega
    have hi : IntKind.i64.wrap (((pre.length : Nat) : Int) + 1) = (((pre ++ [x]).length : Nat) : Int) := by
      rw [i64w (by omega)]; simp
    rw [f313_l26, cdp (by omega), gdp (by omega), gdp (by omega)]
    simp only [f314, Option.bind_some, BEq.rfl, Bool.not_true, cond_false, hi]
    exact ih (pre ++ [x]) k (by rw [ha]; simp) (by omega)
theorem awake11 (k : Nat) : f248 (k + 60) = some true := by kernel_rfl
theorem awake11' {k : Nat} (hk : 60 ≤ k) : f248 k = some true := by
  obtain ⟨j, rfl⟩ : ∃ j, k = j + 60 := ⟨k - 60, by omega⟩
  exact awake11 j
theorem l27n {N : List TNode} (hn : N.length ≤ 40) : ∀ (rest pre : List TNode) (k : Nat), N = pre ++ rest → rest.length + 100 < k →
    f247_l27 ⟨N⟩ k ((pre.length : Nat) : Int) = some (.b0 ()) ∧ (∀ n ∈ rest, n.fFields.length ≤ 20 ∧ n.fBranches.length ≤ 20) ∨ f247_l27 ⟨N⟩ k ((pre.length : Nat) : Int) = some (.r true) := by
  intro rest
  induction rest with
  | nil =>
    intro pre k ha hk
    obtain ⟨k, rfl, _⟩ := succ_of_pos (show 0 < k by omega)
    have hl : N.length = pre.length := by rw [ha]; simp
    rw [f247_l27, cdn (show ¬ _ < ((N.length : Nat) : Int) by omega)]
    exact .inl ⟨rfl, by simp⟩
  | cons x rest ih =>
    intro pre k ha hk
    obtain ⟨k, rfl, _⟩ := succ_of_pos (show 0 < k by omega)
    simp only [List.length_cons] at hk
    have hrd : rd N ((pre.length : Nat) : Int) = x := by rw [ha]; exact rd_mid
    have hl : N.length = pre.length + rest.length + 1 := by rw [ha]; simp; omega
    have hi : IntKind.i64.wrap (((pre.length : Nat) : Int) + 1) = (((pre ++ [x]).length : Nat) : Int) := by
      rw [i64w (by omega)]; simp
    rw [f247_l27, cdp (show _ < ((N.length : Nat) : Int) by omega), gdp (show _ ∧ _ < ((N.length : Nat) : Int) by omega)]
    simp only [hrd, hi, awake11' (show 60 ≤ k by omega), Option.bind_some]
    by_cases c1 : ((x.fFields.length : Nat) : Int) > 20
    · rw [cdp c1]; exact .inr rfl
    rw [cdn c1, gdp (show _ ∧ _ < ((N.length : Nat) : Int) by omega)]
    by_cases c2 : ((x.fBranches.length : Nat) : Int) > 20
    · rw [cdp c2]; exact .inr rfl
    rw [cdn c2]
    rcases ih (pre ++ [x]) k (by rw [ha]; simp) (by omega) with ⟨h, h2⟩ | h
    · refine .inl ⟨h, fun n hn => ?_⟩
      rcases List.mem_cons.1 hn with rfl | hn
      · omega
      · exact h2 n hn
    · exact .inr h
theorem law_LiveRaw (a0 : TSchema) (w0 : TSchema.wf a0) (hb : TSchema.sz a0 ≤ 1048576) : ∃ k, f247 k a0 = some true := by
  refine ⟨1100000, ?_⟩
  obtain ⟨N⟩ := a0
  have haw := awake11' (show 60 ≤ 1100000 by omega)
  rw [f247, haw]
  by_cases c : ((N.length : Nat) : Int) > 40
  · rw [cdp c]; rfl
  rw [cdn c]
  have hN : N.length ≤ 40 := by omega
  rcases l27n hN N [] 1100000 rfl (by omega) with ⟨h, h2⟩ | h
  · have hw : ∀ n ∈ N, n.fFields.length ≤ 1048576 ∧ n.fBranches.length ≤ 1048576 := fun n hn => by have := h2 n hn; omega
    have hr := rounds_ok (N := N) (N.length + 1) (List.replicate N.length (-1)) 0 (by simp) (fun x hx => by rw [List.eq_of_mem_replicate hx]; omega) (by omega)
    rw [show f247_l27 ⟨N⟩ 1100000 0 = _ from h]
    simp only [Option.bind_some, f247_j77, haw, cond_true, f307, f308]
    rw [ranks_live hw hN (by omega), ranks_ref hw hN (by omega)]
    simp only [Option.bind_some]
    generalize rounds N (N.length + 1) (List.replicate N.length (-1)) = r at hr
    rw [show f307_l18 r 1100000 [] 0 = _ from l18n (by omega) r [] 1100000 rfl (by omega)]
    rw [show f308_l21 r 1100000 [] 0 = _ from l21n (by omega) (fun x hx => (hr.1 x hx).1) r [] 1100000 rfl (by omega)]
    simp only [Option.bind_some, f312]
    rw [f313, cdn (by simp)]
    rw [show f313_l26 (r.map fun x => decide (x ≠ -1)) (r.map fun x => decide (x ≠ -1)) 1100000 0 = _ from l26n (by simp; omega) _ [] 1100000 rfl (by simp; omega)]
    rfl
  · rw [show f247_l27 ⟨N⟩ 1100000 0 = _ from h]
    rfl
end Go.Proofs.Abs
