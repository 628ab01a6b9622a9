/- The laws of chapter 19 over the Lean functions: tables of spots. -/
import Derived.Test.YtgimibhacllcpaaGIdx
import Derived.Test.YtgimibhacllcpaaAbs43
namespace Go.Proofs.Abs
open Go
set_option linter.unusedVariables false
set_option maxRecDepth 10000

/-- a table is right: places rise, and are far enough apart -/
def rightL : Option TSpot → List TSpot → Bool
  | _, [] => true
  | none, x :: r => decide (0 ≤ x.fAt) && rightL (some x) r
  | some p, x :: r => decide (0 ≤ x.fAt) && (decide (p.fOffset < x.fOffset) && decide (p.fAt + 512 ≤ x.fAt)) && rightL (some x) r

theorem l200 {a0 : List TSpot} (hwf : ∀ x ∈ a0, TSpot.wf x) (hn : a0.length ≤ 1048576000) : ∀ (rest pre : List TSpot) (k : Nat), a0 = pre ++ rest → rest.length < k → (∀ q, pre.getLast? = some q → 0 ≤ q.fAt) →
    f200_l12 a0 k ((pre.length : Nat) : Int) = some (cond (rightL pre.getLast? rest) (.b0 ()) (.r false)) := by
  intro rest
  induction rest with
  | nil =>
    intro pre k ha hk hq
    obtain ⟨k, rfl, _⟩ := succ_of_pos hk
    subst ha
    simp [f200_l12, rightL]
  | cons x rest ih =>
    intro pre k ha hk hq
    obtain ⟨k, rfl, hk'⟩ := succ_of_pos hk
    have h1 := ih (pre ++ [x]) k (by simp [ha]) (by simp at hk'; omega)
    have hx := hwf x (by simp [ha])
    have hrd : rd a0 ((pre.length : Nat) : Int) = x := by subst ha; exact rd_mid
    have hl : a0.length = pre.length + rest.length + 1 := by subst ha; simp; omega
    have hw : IntKind.i64.wrap (((pre.length : Nat) : Int) + 1) = (((pre ++ [x]).length : Nat) : Int) := by
      rw [i64w (by omega)]; simp
    simp only [f200_l12, cond_dec, hrd, hw]
    rw [if_pos (by omega), gd_pos (by omega)]
    by_cases c1 : x.fAt < 0
    · rw [if_pos c1]
      cases hp : pre.getLast? <;> simp [rightL, show ¬ 0 ≤ x.fAt by omega]
    rw [if_neg c1, h1 (fun q h => by simp at h; subst h; omega)]
    rcases snoc_cases pre with rfl | ⟨pre', p, rfl⟩
    · simp [rightL, show 0 ≤ x.fAt by omega]
    · have hp := hwf p (by simp [ha])
      have hq' := hq p (by simp)
      have hw2 : IntKind.i64.wrap ((((pre' ++ [p]).length : Nat) : Int) - 1) = ((pre'.length : Nat) : Int) := by
        rw [i64w (by simp at hl ⊢; omega)]; simp
      have hrd2 : rd a0 ((pre'.length : Nat) : Int) = p := by subst ha; simp only [List.append_assoc, List.cons_append, List.nil_append]; exact rd_mid
      simp only [TSpot.wf] at hp hx
      rw [if_pos (by simp)]
      simp only [hw2, hrd2]
      simp only [List.length_append, List.length_cons, List.length_nil] at hl
      have hg : 0 ≤ ((pre'.length : Nat) : Int) ∧ ((pre'.length : Nat) : Int) < ((a0.length : Nat) : Int) := by omega
      rw [gd_pos hg]
      by_cases c2 : x.fOffset ≤ p.fOffset
      · rw [if_pos c2]; simp [rightL, show ¬ p.fOffset < x.fOffset by omega]
      rw [if_neg c2, gd_pos hg]
      by_cases c3 : x.fAt < p.fAt
      · rw [if_pos c3]; simp [rightL, show ¬ p.fAt + 512 ≤ x.fAt by omega]
      rw [if_neg c3, gd_pos hg, i64w (by omega)]
      by_cases c4 : x.fAt - p.fAt < 512
      · rw [if_pos c4]; simp [rightL, show ¬ p.fAt + 512 ≤ x.fAt by omega]
      · rw [if_neg c4]; simp [rightL, show p.fAt + 512 ≤ x.fAt by omega, show p.fOffset < x.fOffset by omega, show 0 ≤ x.fAt by omega]
theorem right_index {a0 : List TSpot} (hwf : ∀ x ∈ a0, TSpot.wf x) (hn : a0.length ≤ 1048576000) {k : Nat} (hk : a0.length < k) : f200 k a0 = some (rightL none a0) := by
  have := l200 hwf hn a0 [] k rfl hk (by simp)
  simp only [List.length_nil, List.getLast?_nil] at this
  rw [f200, show ((0 : Int)) = (((0 : Nat)) : Int) from rfl, this]
  cases rightL none a0 <;> rfl

theorem l202 {a0 : List TSpot} (hwf : ∀ x ∈ a0, TSpot.wf x) (hn : a0.length ≤ 1048576000) : ∀ (rest pre : List TSpot) (k : Nat), a0 = pre ++ rest → rest.length < k → (∀ q, pre.getLast? = some q → 0 ≤ q.fAt) →
    f202_l10 a0 k ((pre.length : Nat) : Int) = some (cond (rightL pre.getLast? rest) (.b0 ()) (.r false)) := by
  intro rest
  induction rest with
  | nil =>
    intro pre k ha hk hq
    obtain ⟨k, rfl, _⟩ := succ_of_pos hk
    subst ha
    simp [f202_l10, rightL]
  | cons x rest ih =>
    intro pre k ha hk hq
    obtain ⟨k, rfl, hk'⟩ := succ_of_pos hk
    have h1 := ih (pre ++ [x]) k (by simp [ha]) (by simp at hk'; omega)
    have hx := hwf x (by simp [ha])
    have hrd : rd a0 ((pre.length : Nat) : Int) = x := by subst ha; exact rd_mid
    have hl : a0.length = pre.length + rest.length + 1 := by subst ha; simp; omega
    have hw : IntKind.i64.wrap (((pre.length : Nat) : Int) + 1) = (((pre ++ [x]).length : Nat) : Int) := by
      rw [i64w (by omega)]; simp
    simp only [f202_l10, cond_dec, hrd, hw]
    rw [if_pos (by omega), gd_pos (by omega)]
    by_cases c1 : x.fAt < 0
    · rw [if_pos c1]
      cases hp : pre.getLast? <;> simp [rightL, show ¬ 0 ≤ x.fAt by omega]
    rw [if_neg c1, h1 (fun q h => by simp at h; subst h; omega)]
    rcases snoc_cases pre with rfl | ⟨pre', p, rfl⟩
    · simp [rightL, show 0 ≤ x.fAt by omega]
    · have hp := hwf p (by simp [ha])
      have hq' := hq p (by simp)
      have hw2 : IntKind.i64.wrap ((((pre' ++ [p]).length : Nat) : Int) - 1) = ((pre'.length : Nat) : Int) := by
        rw [i64w (by simp at hl ⊢; omega)]; simp
      have hrd2 : rd a0 ((pre'.length : Nat) : Int) = p := by subst ha; simp only [List.append_assoc, List.cons_append, List.nil_append]; exact rd_mid
      simp only [TSpot.wf] at hp hx
      rw [if_pos (by simp)]
      simp only [hw2, hrd2]
      simp only [List.length_append, List.length_cons, List.length_nil] at hl ⊢
      have hg : 0 ≤ ((pre'.length : Nat) : Int) ∧ ((pre'.length : Nat) : Int) < ((a0.length : Nat) : Int) := by omega
      have hg2 : 0 ≤ ((pre'.length + (0 + 1) : Nat) : Int) ∧ ((pre'.length + (0 + 1) : Nat) : Int) < ((a0.length : Nat) : Int) := by omega
      rw [gd_pos hg2, gd_pos hg]
      by_cases c2 : x.fOffset ≤ p.fOffset
      · rw [if_pos c2]; simp [rightL, show ¬ p.fOffset < x.fOffset by omega]
      rw [if_neg c2, gd_pos hg2, gd_pos hg, i64w (by omega)]
      by_cases c4 : x.fAt - p.fAt < 512
      · rw [if_pos c4]; simp [rightL, show ¬ p.fAt + 512 ≤ x.fAt by omega]
      · rw [if_neg c4]; simp [rightL, show p.fAt + 512 ≤ x.fAt by omega, show p.fOffset < x.fOffset by omega, show 0 ≤ x.fAt by omega]
theorem right_ref {a0 : List TSpot} (hwf : ∀ x ∈ a0, TSpot.wf x) (hn : a0.length ≤ 1048576000) {k : Nat} (hk : a0.length < k) : f202 k a0 = some (rightL none a0) := by
  have := l202 hwf hn a0 [] k rfl hk (by simp)
  simp only [List.length_nil, List.getLast?_nil] at this
  rw [f202, show ((0 : Int)) = (((0 : Nat)) : Int) from rfl, this]
  cases rightL none a0 <;> rfl
theorem own208_step {a0 : List TSpot} {x : TSpot} (hn : a0.length ≤ 1048576000) (k j : Nat) (l : List TSpot) (hj : j < 3) (hl : l.length = a0.length + 3) :
    f208_l37 a0 x (k + 1) ((a0.length + j : Nat) : Int) l = f208_l37 a0 x k ((a0.length + (j + 1) : Nat) : Int) (l.set (a0.length + j) x) := by
  have h1 : IntKind.i64.wrap (((a0.length : Nat) : Int) + 3) = ((a0.length + 3 : Nat) : Int) := by rw [i64w (by omega)]; simp
  have h2 : IntKind.i64.wrap (((a0.length + j : Nat) : Int) + 1) = ((a0.length + (j + 1) : Nat) : Int) := by rw [i64w (by omega)]; omega
  simp only [f208_l37, h1, h2, cond_dec, Int.toNat_natCast]
  rw [if_pos (by omega), gd_pos (by omega), gd_pos (by omega)]
theorem own208_done {a0 : List TSpot} {x : TSpot} (hn : a0.length ≤ 1048576000) (k : Nat) (l : List TSpot) : f208_l37 a0 x (k + 1) ((a0.length + 3 : Nat) : Int) l = some (.b0 l) := by
  have h1 : IntKind.i64.wrap (((a0.length : Nat) : Int) + 3) = ((a0.length + 3 : Nat) : Int) := by rw [i64w (by omega)]; simp
  simp only [f208_l37, h1, cond_dec, Int.toNat_natCast]
  rw [if_neg (by omega)]
theorem own208 {a0 : List TSpot} {x : TSpot} (hn : a0.length ≤ 1048576000) {k : Nat} (hk : 3 < k) : f208 k a0 x = some (a0 ++ [x, x, x]) := by
  obtain ⟨k, rfl⟩ : ∃ j, k = j + 4 := ⟨k - 4, by omega⟩
  have h1 : IntKind.i64.wrap (((a0.length : Nat) : Int) + 3) = ((a0.length + 3 : Nat) : Int) := by rw [i64w (by omega)]; simp
  have h2 : List.take (0 : Int).toNat (List.replicate (a0.length + 3) (default : TSpot)) ++ a0 ++ List.drop ((0 : Int).toNat + a0.length) (List.replicate (a0.length + 3) (default : TSpot)) = a0 ++ [default, default, default] := by
    simp only [Int.toNat_zero, List.take_zero, List.nil_append, Nat.zero_add, List.drop_append, List.drop_replicate, Nat.add_sub_cancel_left]; rfl
  simp only [f208, h1, Int.toNat_natCast]
  rw [gd_pos (by omega), gd_pos (by simp), gd_pos (by omega), h2]
  rw [show ((a0.length : Nat) : Int) = ((a0.length + 0 : Nat) : Int) from rfl, own208_step hn _ _ _ (by omega) (by simp), own208_step hn _ _ _ (by omega) (by simp), own208_step hn _ _ _ (by omega) (by simp), own208_done hn]
  simp [gd, List.set_append]

theorem same206_loop {a b : List TSpot} (hl : a.length = b.length) (hn : a.length ≤ 1048576000) : ∀ (rest pre rest' pre' : List TSpot) (k : Nat), a = pre ++ rest → b = pre' ++ rest' → pre.length = pre'.length → rest.length < k →
    f206_l26 a b k ((pre.length : Nat) : Int) = some (cond (decide (rest = rest')) (.b0 ()) (.r false)) := by
  intro rest
  induction rest with
  | nil =>
    intro pre rest' pre' k ha hb hp hk
    obtain ⟨k, rfl, _⟩ := succ_of_pos hk
    have : rest' = [] := by
      subst ha hb; simp at hl; exact List.eq_nil_of_length_eq_zero (by omega)
    subst this
    subst ha
    simp [f206_l26]
  | cons x rest ih =>
    intro pre rest' pre' k ha hb hp hk
    obtain ⟨k, rfl, hk'⟩ := succ_of_pos hk
    cases rest' with
    | nil => subst ha hb; simp at hl; omega
    | cons y rest' =>
      have h1 := ih (pre ++ [x]) rest' (pre' ++ [y]) k (by simp [ha]) (by simp [hb]) (by simp [hp]) (by simp at hk'; omega)
      have hrd : rd a ((pre.length : Nat) : Int) = x := by subst ha; exact rd_mid
      have hrd2 : rd b ((pre.length : Nat) : Int) = y := by rw [hp]; subst hb; exact rd_mid
      have hl1 : a.length = pre.length + rest.length + 1 := by subst ha; simp; omega
      have hw : IntKind.i64.wrap (((pre.length : Nat) : Int) + 1) = (((pre ++ [x]).length : Nat) : Int) := by
        rw [i64w (by omega)]; simp
      simp only [f206_l26, f207, cond_dec, hrd, hrd2, hw, Option.bind_some]
      rw [if_pos (by omega), gd_pos (by omega), gd_pos (by omega), h1]
      by_cases hxy : x = y
      · subst hxy; simp
      · have : (decide ((x).fOffset = (y).fOffset) && (decide ((x).fAt = (y).fAt) && true)) = false := by
          apply Bool.eq_false_iff.2
          intro h
          apply hxy
          cases x; cases y; simp at h; simp [h]
        rw [this]; simp [hxy]
theorem same206 {a b : List TSpot} (hn : a.length ≤ 1048576000) {k : Nat} (hk : a.length < k) : f206 k a b = some (decide (a = b)) := by
  by_cases hl : a.length = b.length
  · have := same206_loop hl hn a [] b [] k rfl rfl rfl hk
    simp only [List.length_nil] at this
    simp only [f206]
    rw [show ((0 : Int)) = (((0 : Nat)) : Int) from rfl, this]
    by_cases h : a = b <;> simp [h, hl]
  · have : a ≠ b := fun h => hl (by rw [h])
    simp only [f206, cond_dec]
    rw [if_pos (by omega)]
    simp [this]
theorem plain205 {a b : List TSpot} (hn : a.length ≤ 1048576000) {k : Nat} (hk : a.length < k) : f205 k a b = some (decide (a = b)) := by
  simp only [f205, same206 hn hk, Option.bind_some]

theorem kept213_loop {a : List TSpot} {x : TSpot} (hn : a.length ≤ 1048576000) (k j : Nat) (hj : j < 3) : f213_l45 a (a ++ [x, x, x]) x (k + 1) ((a.length + j : Nat) : Int) = f213_l45 a (a ++ [x, x, x]) x k ((a.length + (j + 1) : Nat) : Int) := by
  have h1 : IntKind.i64.wrap (((a.length : Nat) : Int) + 3) = ((a.length + 3 : Nat) : Int) := by rw [i64w (by omega)]; simp
  have h2 : IntKind.i64.wrap (((a.length + j : Nat) : Int) + 1) = ((a.length + (j + 1) : Nat) : Int) := by rw [i64w (by omega)]; omega
  have h3 : List.take (a.length + 3) (a ++ [x, x, x]) = a ++ [x, x, x] := List.take_of_length_le (by simp)
  have h4 : rd (a ++ [x, x, x]) ((a.length + j : Nat) : Int) = x := by
    simp only [rd, Int.toNat_natCast, List.getD, List.getElem?_append_right (Nat.le_add_right _ _), Nat.add_sub_cancel_left]
    match j, hj with
    | 0, _ => rfl
    | 1, _ => rfl
    | 2, _ => rfl
  simp only [f213_l45, h1, h2, cond_dec, Int.toNat_natCast, h3, h4]
  rw [if_pos (by simp; omega), gd_pos (by simp; omega)]
  simp
theorem kept213_done {a : List TSpot} {x : TSpot} (hn : a.length ≤ 1048576000) (k : Nat) : f213_l45 a (a ++ [x, x, x]) x (k + 1) ((a.length + 3 : Nat) : Int) = some (.b0 ()) := by
  have h1 : IntKind.i64.wrap (((a.length : Nat) : Int) + 3) = ((a.length + 3 : Nat) : Int) := by rw [i64w (by omega)]; simp
  have h3 : List.take (a.length + 3) (a ++ [x, x, x]) = a ++ [x, x, x] := List.take_of_length_le (by simp)
  simp only [f213_l45, h1, cond_dec, Int.toNat_natCast, h3]
  rw [if_neg (by simp)]
theorem kept213 {a : List TSpot} {x : TSpot} (hn : a.length ≤ 1048576000) {k : Nat} (hk : a.length + 4 < k) : f213 k (a ++ [x, x, x]) ((0 : Int).toNat + a.length) a x = some true := by
  obtain ⟨k, rfl⟩ : ∃ j, k = j + 4 := ⟨k - 4, by omega⟩
  have h1 : IntKind.i64.wrap (((a.length : Nat) : Int) + 3) = ((a.length + 3 : Nat) : Int) := by rw [i64w (by omega)]; simp
  have h2 : List.take ((0 : Int).toNat + a.length) (a ++ [x, x, x]) = a := by simp
  simp only [f213, h1, h2, plain205 hn (show a.length < k + 4 by omega), Option.bind_some, cond_dec]
  rw [gd_pos (by simp; omega)]
  rw [show ((a.length : Nat) : Int) = ((a.length + 0 : Nat) : Int) from rfl, kept213_loop hn _ _ (by omega), kept213_loop hn _ _ (by omega), kept213_loop hn _ _ (by omega), kept213_done hn]
  simp

/-- what the two ways to find come to -/
def findI : List TSpot → Int → Int × Int → Int × Int
  | [], _, s => s
  | x :: r, o, s => if o < x.fOffset then s else findI r o (x.fOffset, x.fAt)
def findR : List TSpot → Int → Int × Int → Int × Int
  | [], _, s => s
  | x :: r, o, s => findR r o (if x.fOffset ≤ o then (x.fOffset, x.fAt) else s)
theorem l201 {a0 : List TSpot} {a1 : Int} (hn : a0.length ≤ 1048576000) : ∀ (rest pre : List TSpot) (k : Nat) (y z : Int), a0 = pre ++ rest → rest.length < k →
    f201_l19 a0 a1 k ((pre.length : Nat) : Int) y z = some (.b0 (findI rest a1 (y, z))) := by
  intro rest
  induction rest with
  | nil =>
    intro pre k y z ha hk
    obtain ⟨k, rfl, _⟩ := succ_of_pos hk
    subst ha
    simp [f201_l19, findI]
  | cons x rest ih =>
    intro pre k y z ha hk
    obtain ⟨k, rfl, hk'⟩ := succ_of_pos hk
    have h1 := ih (pre ++ [x]) k x.fOffset x.fAt (by simp [ha]) (by simp at hk'; omega)
    have hrd : rd a0 ((pre.length : Nat) : Int) = x := by subst ha; exact rd_mid
    have hl : a0.length = pre.length + rest.length + 1 := by subst ha; simp; omega
    have hw : IntKind.i64.wrap (((pre.length : Nat) : Int) + 1) = (((pre ++ [x]).length : Nat) : Int) := by
      rw [i64w (by omega)]; simp
    simp only [f201_l19, cond_dec, hrd, hw]
    rw [if_pos (by omega), gd_pos (by omega), h1]
    by_cases c : x.fOffset > a1
    · rw [if_pos c]; simp [findI, show a1 < x.fOffset from c]
    · rw [if_neg c]; simp [findI, show ¬ a1 < x.fOffset from c]
theorem l203 {a0 : List TSpot} {a1 : Int} (hn : a0.length ≤ 1048576000) : ∀ (rest pre : List TSpot) (k : Nat) (y z : Int), a0 = pre ++ rest → rest.length < k →
    f203_l14 a0 a1 k ((pre.length : Nat) : Int) y z = some (.b0 (findR rest a1 (y, z))) := by
  intro rest
  induction rest with
  | nil =>
    intro pre k y z ha hk
    obtain ⟨k, rfl, _⟩ := succ_of_pos hk
    subst ha
    simp [f203_l14, findR]
  | cons x rest ih =>
    intro pre k y z ha hk
    obtain ⟨k, rfl, hk'⟩ := succ_of_pos hk
    have h1 := fun y z => ih (pre ++ [x]) k y z (by simp [ha]) (by simp at hk'; omega)
    have hrd : rd a0 ((pre.length : Nat) : Int) = x := by subst ha; exact rd_mid
    have hl : a0.length = pre.length + rest.length + 1 := by subst ha; simp; omega
    have hw : IntKind.i64.wrap (((pre.length : Nat) : Int) + 1) = (((pre ++ [x]).length : Nat) : Int) := by
      rw [i64w (by omega)]; simp
    simp only [f203_l14, cond_dec, hrd, hw]
    rw [if_pos (by omega), gd_pos (by omega), gd_pos (by omega), h1, h1]
    by_cases c : x.fOffset ≤ a1
    · rw [if_pos c]; simp [findR, c]
    · rw [if_neg c]; simp [findR, c]
theorem find_index {a0 : List TSpot} {a1 : Int} (hn : a0.length ≤ 1048576000) {k : Nat} (hk : a0.length < k) : f201 k a0 a1 = some (findI a0 a1 (0, 0)) := by
  have := l201 (a1 := a1) hn a0 [] k 0 0 rfl hk
  simp only [List.length_nil] at this
  simp only [f201]
  rw [show f201_l19 a0 a1 k 0 0 0 = _ from this]
  rfl
theorem find_ref {a0 : List TSpot} {a1 : Int} (hn : a0.length ≤ 1048576000) {k : Nat} (hk : a0.length < k) : f203 k a0 a1 = some (findR a0 a1 (0, 0)) := by
  have := l203 (a1 := a1) hn a0 [] k 0 0 rfl hk
  simp only [List.length_nil] at this
  simp only [f203]
  rw [show f203_l14 a0 a1 k 0 0 0 = _ from this]
  rfl
theorem findR_past {o : Int} : ∀ {r : List TSpot} {p : TSpot} {s : Int × Int}, rightL (some p) r = true → o < p.fOffset → findR r o s = s
  | [], _, _, _, _ => rfl
  | x :: r, p, s, h, ho => by
    simp [rightL] at h
    rw [findR, if_neg (by omega)]
    exact findR_past h.2 (by omega)
theorem find_eq {o : Int} : ∀ {r : List TSpot} {p : Option TSpot} {s : Int × Int}, rightL p r = true → findI r o s = findR r o s
  | [], _, _, _ => rfl
  | x :: r, p, s, h => by
    have h1 : rightL (some x) r = true := by cases p <;> simp [rightL] at h <;> simp [h]
    by_cases c : o < x.fOffset
    · rw [findI, if_pos c, findR, if_neg (by omega), findR_past h1 c]
    · rw [findI, if_neg c, findR, if_pos (by omega)]
      exact find_eq h1
theorem awake19 (k : Nat) : f212 (k + 4) = some true := by kernel_rfl
theorem wf_len {xs : List TSpot} {m : Nat} (h : (xs.map TSpot.sz).sum + m ≤ 1048576) : xs.length ≤ 1048576 := by
  have := len_sum (sz := TSpot.sz) (fun a => by simp [TSpot.sz]) xs
  omega
theorem law_IndexTells (a0 : List TSpot) (a1 : Int) (w0 : ∀ a ∈ a0, TSpot.wf a) (w1 : 0 ≤ a1 ∧ a1 ≤ 18446744073709551615) (hb : ((a0.map TSpot.sz).sum + 1) + 1 ≤ 1048576) : ∃ k, f211 k a0 a1 = some true := by
  have hn := wf_len (m := 2) hb
  refine ⟨a0.length + 10, ?_⟩
  have haw : f212 (a0.length + 10) = some true := awake19 (a0.length + 6)
  have ht : List.take ((0 : Int).toNat + a0.length) (a0 ++ [TSpot.mk 71 0, TSpot.mk 71 0, TSpot.mk 71 0]) = a0 := by simp
  simp only [f211, haw, own208 (x := TSpot.mk 71 0) (show a0.length ≤ 1048576000 by omega) (show 3 < a0.length + 10 by omega), Option.bind_some, cond_true, ht,
    right_index w0 (show a0.length ≤ 1048576000 by omega) (show a0.length < a0.length + 10 by omega), right_ref w0 (show a0.length ≤ 1048576000 by omega) (show a0.length < a0.length + 10 by omega),
    find_index (a1 := a1) (show a0.length ≤ 1048576000 by omega) (show a0.length < a0.length + 10 by omega), find_ref (a1 := a1) (show a0.length ≤ 1048576000 by omega) (show a0.length < a0.length + 10 by omega),
    kept213 (x := TSpot.mk 71 0) (show a0.length ≤ 1048576000 by omega) (show a0.length + 4 < a0.length + 10 by omega), cond_dec, beq_self_eq_true]
  cases hr : rightL none a0
  · simp
  · simp [find_eq (o := a1) (s := (0, 0)) hr]

/-- one more place -/
def addL (a : List TSpot) (x : TSpot) : List TSpot :=
  if x.fAt < 0 then a else match a.getLast? with
    | none => [x]
    | some p => if x.fAt - p.fAt < 512 then a else if x.fOffset ≤ p.fOffset then a else a ++ [x]
def ok1 : Option TSpot → TSpot → Bool
  | none, x => decide (0 ≤ x.fAt)
  | some p, x => decide (0 ≤ x.fAt) && (decide (p.fOffset < x.fOffset) && decide (p.fAt + 512 ≤ x.fAt))
theorem rightL_cons {p : Option TSpot} {x : TSpot} {r : List TSpot} : rightL p (x :: r) = (ok1 p x && rightL (some x) r) := by cases p <;> rfl
theorem rightL_nil {p : Option TSpot} : rightL p [] = true := by cases p <;> rfl
theorem right_snoc (x : TSpot) : ∀ (l : List TSpot) (p : Option TSpot), rightL p (l ++ [x]) = (rightL p l && rightL (l.getLast?.or p) [x])
  | [], p => by simp [rightL_nil]
  | y :: l, p => by
    rw [List.cons_append, rightL_cons, right_snoc x l (some y), show rightL p (y :: l) = (ok1 p y && rightL (some y) l) from rightL_cons, List.getLast?_cons, Bool.and_assoc]
    cases l.getLast? <;> rfl
theorem right_last {p : TSpot} : ∀ {l : List TSpot} {q : Option TSpot}, rightL q l = true → l.getLast? = some p → 0 ≤ p.fAt
  | [], _, _, h => by simp at h
  | [y], q, h, h2 => by simp at h2; subst h2; cases q <;> simp [rightL] at h <;> simp [h]
  | y :: z :: l, q, h, h2 => by
    have h1 : rightL (some y) (z :: l) = true := by cases q <;> simp only [rightL, Bool.and_eq_true] at h <;> simp only [rightL, Bool.and_eq_true] <;> exact h.2
    exact right_last h1 (by simpa using h2)
theorem right_add {a : List TSpot} {x : TSpot} (h : rightL none a = true) : rightL none (addL a x) = true := by
  unfold addL
  split
  · exact h
  · rename_i c
    cases hl : a.getLast? with
    | none =>
      simp at hl; subst hl; simp [rightL]; omega
    | some p =>
      simp only
      split
      · exact h
      · split
        · exact h
        · rw [right_snoc, h, hl]; simp [rightL]; omega
theorem wf_add {a : List TSpot} {x : TSpot} (h : ∀ y ∈ a, TSpot.wf y) (hx : TSpot.wf x) : ∀ y ∈ addL a x, TSpot.wf y := by
  have h2 : ∀ y ∈ a ++ [x], TSpot.wf y := fun y hy => by
    rcases List.mem_append.1 hy with h1 | h1
    · exact h y h1
    · simp at h1; subst h1; exact hx
  unfold addL
  split
  · exact h
  · split
    · intro y hy; simp at hy; subst hy; exact hx
    · split
      · exact h
      · split
        · exact h
        · exact h2
theorem len_add {a : List TSpot} {x : TSpot} : (addL a x).length ≤ a.length + 1 := by
  unfold addL
  split
  · omega
  · split
    · simp
    · split
      · omega
      · split
        · omega
        · simp
theorem last_two {a : List TSpot} {p x : TSpot} (h : a.getLast? = some p) (hn : a.length ≤ 1048576000) : sl (a ++ [x]) (IntKind.i64.wrap (((a.length : Nat) : Int) - 1)) (((a ++ [x]).length : Nat) : Int) = [p, x] := by
  obtain ⟨l, rfl⟩ : ∃ l, a = l ++ [p] := by
    rcases snoc_cases a with rfl | ⟨l, q, rfl⟩
    · simp at h
    · simp at h; subst h; exact ⟨l, by simp⟩
  rw [i64w (by simp; simp at hn; omega)]
  simp only [sl, Int.toNat_natCast, List.take_length]
  simp
theorem rd_last {a : List TSpot} {p : TSpot} (h : a.getLast? = some p) (hn : a.length ≤ 1048576000) : rd a (IntKind.i64.wrap (((a.length : Nat) : Int) - 1)) = p := by
  obtain ⟨l, rfl⟩ : ∃ l, a = l ++ [p] := by
    rcases snoc_cases a with rfl | ⟨l, q, rfl⟩
    · simp at h
    · simp at h; subst h; exact ⟨l, by simp⟩
  rw [i64w (by simp; simp at hn; omega)]
  simp [rd]
theorem add_index {a : List TSpot} {x : TSpot} (hwf : ∀ y ∈ a, TSpot.wf y) (hx : TSpot.wf x) (hn : a.length ≤ 1048576) (hr : rightL none a = true) {k : Nat} (hk : 2 < k) : f210 k a x.fOffset x.fAt = some (addL a x) := by
  have h9 : f209 k a = some a := by rw [f209, gd_pos (by omega)]
  have hj : ∀ b, f210_j36 k a a x.fOffset x.fAt b = some (if b then a else a ++ [x]) := by
    intro b; cases b <;> simp [f210_j36, h9]
  simp only [f210, h9, Option.bind_some, hj, cond_dec]
  rw [gd_pos (by simp; omega)]
  unfold addL
  by_cases c : x.fAt < 0
  · simp [c]
  rw [if_neg c, if_neg c]
  cases hl : a.getLast? with
  | none => simp at hl; subst hl; simp
  | some p =>
    have hp := right_last hr hl
    have hpm := List.mem_of_getLast? hl
    have hpw := hwf p hpm
    have h0 : 0 < a.length := List.length_pos_of_mem hpm
    rw [if_pos (by omega), gd_pos (by rw [i64w (by omega)]; simp; omega), last_two hl (by omega)]
    rw [right_index (by intro y hy; simp at hy; rcases hy with rfl | rfl <;> assumption) (by simp) (by simp; omega)]
    simp only [Option.bind_some, rightL]
    by_cases c2 : x.fAt - p.fAt < 512
    · simp [c2, show ¬ p.fAt + 512 ≤ x.fAt by omega]
    · by_cases c3 : x.fOffset ≤ p.fOffset
      · simp [c2, c3, show ¬ p.fOffset < x.fOffset by omega]
      · simp [c2, c3, show p.fOffset < x.fOffset by omega, show p.fAt + 512 ≤ x.fAt by omega, hp, show 0 ≤ x.fAt by omega]
theorem add_ref {a : List TSpot} {x : TSpot} (hwf : ∀ y ∈ a, TSpot.wf y) (hx : TSpot.wf x) (hn : a.length ≤ 1048576) (hr : rightL none a = true) {k : Nat} : f204 k a x.fOffset x.fAt = some (addL a x) := by
  have hj : f204_j47 k a x.fOffset x.fAt = some (a ++ [x]) := by
    rw [f204_j47, gd_pos (by omega), gd_pos (by simp; omega)]
  simp only [f204, hj, cond_dec]
  unfold addL
  by_cases c : x.fAt < 0
  · simp [c]
  rw [if_neg c, if_neg c]
  cases hl : a.getLast? with
  | none => simp at hl; subst hl; simp
  | some p =>
    have hp := right_last hr hl
    have hpm := List.mem_of_getLast? hl
    have hpw := hwf p hpm
    have h0 : 0 < a.length := List.length_pos_of_mem hpm
    have hg : 0 ≤ IntKind.i64.wrap (((a.length : Nat) : Int) - 1) ∧ IntKind.i64.wrap (((a.length : Nat) : Int) - 1) < ((a.length : Nat) : Int) := by rw [i64w (by omega)]; omega
    simp only [TSpot.wf] at hx hpw
    rw [if_pos (by omega), gd_pos hg, gd_pos hg, rd_last hl (by omega), i64w (by omega)]
    simp only
    by_cases c2 : x.fAt - p.fAt < 512
    · simp [c2]
    · by_cases c3 : x.fOffset ≤ p.fOffset
      · simp [c2, c3]
      · simp [c2, c3]
theorem adds_loop {a0 : List TSpot} (hwf : ∀ x ∈ a0, TSpot.wf x) (hn : a0.length ≤ 1048576) : ∀ (rest pre : List TSpot) (k : Nat) (y : List TSpot), a0 = pre ++ rest → rest.length + 300 < k → y.length ≤ pre.length → pre.length ≤ 200 → (∀ x ∈ y, TSpot.wf x) → rightL none y = true →
    f214_l27 a0 k y ((pre.length : Nat) : Int) = some (.b0 ()) := by
  intro rest
  induction rest with
  | nil =>
    intro pre k y ha hk _ _ _ _
    obtain ⟨k, rfl, _⟩ := succ_of_pos hk
    subst ha
    simp [f214_l27]
  | cons x rest ih =>
    intro pre k y ha hk hy hp hw0 hr
    obtain ⟨k, rfl, hk'⟩ := succ_of_pos hk
    have hx := hwf x (by simp [ha])
    have hrd : rd a0 ((pre.length : Nat) : Int) = x := by subst ha; exact rd_mid
    have hl : a0.length = pre.length + rest.length + 1 := by subst ha; simp; omega
    have hw : IntKind.i64.wrap (((pre.length : Nat) : Int) + 1) = (((pre ++ [x]).length : Nat) : Int) := by
      rw [i64w (by omega)]; simp
    simp only [f214_l27, cond_dec, hrd, hw]
    rw [if_pos (by omega)]
    by_cases c : ((pre.length : Nat) : Int) < 200
    · have h1 := ih (pre ++ [x]) k (addL y x) (by simp [ha]) (by simp at hk'; omega) (by have := len_add (a := y) (x := x); simp; omega) (by simp; omega) (wf_add hw0 hx) (right_add hr)
      have ht : List.take ((0 : Int).toNat + y.length) (y ++ [TSpot.mk 71 0, TSpot.mk 71 0, TSpot.mk 71 0]) = y := by simp
      have hla := len_add (a := y) (x := x)
      simp only [List.length_cons] at hk'
      rw [if_pos c]
      rw [own208 (x := TSpot.mk 71 0) (show y.length ≤ 1048576000 by omega) (by omega)]
      simp only [Option.bind_some, ht]
      rw [gd_pos (by omega), gd_pos (by omega), add_index hw0 hx (by omega) hr (by omega), add_ref hw0 hx (by omega) hr]
      simp only [Option.bind_some]
      rw [gd_pos (by omega), gd_pos (by omega), plain205 (by omega) (by omega), right_index (wf_add hw0 hx) (by omega) (by omega), right_add hr, kept213 (x := TSpot.mk 71 0) (show y.length ≤ 1048576000 by omega) (by omega)]
      simp only [Option.bind_some, decide_true, Bool.not_true, cond_false]
      rw [gd_pos (by omega), h1]
    · rw [if_neg c]
theorem law_IndexAdds (a0 : (List TSpot)) (w0 : ∀ a ∈ a0, TSpot.wf a) (hb : ((a0.map TSpot.sz).sum + 1) ≤ 1048576) : ∃ k, f214 k a0 = some true := by
  have hn := wf_len (m := 1) hb
  refine ⟨a0.length + 301, ?_⟩
  have := adds_loop w0 hn a0 [] (a0.length + 301) [] rfl (by omega) (by simp) (by simp) (by simp) rfl
  simp only [List.length_nil] at this
  simp only [f214, show f212 (a0.length + 301) = some true from awake19 (a0.length + 297), Option.bind_some, Bool.not_true, cond_false]
  rw [show f214_l27 a0 (a0.length + 301) [] 0 = _ from this]
  rfl
end Go.Proofs.Abs
