/- The laws of chapter 09 over the Lean functions: when two schemas match. -/
import Derived.Test.YtgimibhacllcpaaGMatb
import Derived.Test.YtgimibhacllcpaaAbs44
namespace Go.Proofs.Abs
open Go
set_option linter.unusedVariables false
set_option maxRecDepth 10000

theorem concat259_sum {L : List (List (List UInt8))} (hn : L.length ≤ 1048576000) : ∀ (rest pre : List (List (List UInt8))) (k s : Nat), L = pre ++ rest → rest.length < k → s + (rest.map List.length).sum ≤ 1048576000000 →
    f259_l16 L k (s : Int) ((pre.length : Nat) : Int) = some (.b0 ((s + (rest.map List.length).sum : Nat) : Int)) := by
  intro rest
  induction rest with
  | nil =>
    intro pre k s ha hk hs
    obtain ⟨k, rfl, _⟩ := succ_of_pos hk
    have hl : L.length = pre.length := by rw [ha]; simp
    rw [f259_l16, cond_dec, if_neg (by omega)]
    simp
  | cons x rest ih =>
    intro pre k s ha hk hs
    obtain ⟨k, rfl, hk'⟩ := succ_of_pos hk
    have hrd : rd L ((pre.length : Nat) : Int) = x := by subst ha; exact rd_mid
    have hl : L.length = pre.length + rest.length + 1 := by subst ha; simp; omega
    simp only [List.map_cons, List.sum_cons] at hs
    have hw : IntKind.i64.wrap (((pre.length : Nat) : Int) + 1) = (((pre ++ [x]).length : Nat) : Int) := by
      rw [i64w (by omega)]; simp
    have hw2 : IntKind.i64.wrap ((s : Int) + ((x.length : Nat) : Int)) = ((s + x.length : Nat) : Int) := by
      rw [i64w (by omega)]; omega
    simp only [f259_l16, cond_dec, hrd, hw, hw2]
    rw [if_pos (by omega), gd_pos (by omega), if_neg (by omega), ih (pre ++ [x]) k _ (by simp [ha]) (by simp at hk'; omega) (by omega)]
    simp only [List.map_cons, List.sum_cons, Nat.add_assoc]
theorem concat259_app {L : List (List (List UInt8))} (hn : L.length ≤ 1048576000) : ∀ (rest pre : List (List (List UInt8))) (k : Nat) (s : List (List UInt8)), L = pre ++ rest → rest.length < k → s.length + (rest.map List.length).sum ≤ 1048576000 →
    f259_l70 L k s ((pre.length : Nat) : Int) = some (.b0 (s ++ rest.flatten)) := by
  intro rest
  induction rest with
  | nil =>
    intro pre k s ha hk hs
    obtain ⟨k, rfl, _⟩ := succ_of_pos hk
    have hl : L.length = pre.length := by rw [ha]; simp
    rw [f259_l70, cond_dec, if_neg (by omega)]
    simp
  | cons x rest ih =>
    intro pre k s ha hk hs
    obtain ⟨k, rfl, hk'⟩ := succ_of_pos hk
    have hrd : rd L ((pre.length : Nat) : Int) = x := by subst ha; exact rd_mid
    have hl : L.length = pre.length + rest.length + 1 := by subst ha; simp; omega
    simp only [List.map_cons, List.sum_cons] at hs
    have hw : IntKind.i64.wrap (((pre.length : Nat) : Int) + 1) = (((pre ++ [x]).length : Nat) : Int) := by
      rw [i64w (by omega)]; simp
    simp only [f259_l70, cond_dec, hrd, hw]
    rw [if_pos (by omega), gd_pos (by omega), gd_pos (by omega), ih (pre ++ [x]) k _ (by simp [ha]) (by simp at hk'; omega) (by simp; omega)]
    simp
theorem concat259 {L : List (List (List UInt8))} (hn : L.length ≤ 1048576000) (hs : (L.map List.length).sum ≤ 1048576000) {k : Nat} (hk : L.length < k) : f259 k L = some L.flatten := by
  have h1 := concat259_sum hn L [] k 0 rfl hk (by omega)
  have h2 := concat259_app hn L [] k [] rfl hk (by simpa using hs)
  simp only [f259]
  rw [show f259_l16 L k 0 0 = _ from h1]
  simp only [Option.bind_some, f259_j57, f260]
  rw [gd_pos (by omega)]
  simp only [Option.bind_some]
  rw [show f259_l70 L k [] 0 = _ from h2]
  simp

/-! ### short names -/
def lastR : List UInt8 → Int
  | [] => -1
  | x :: r => if x.toNat = 46 then ((r.length : Nat) : Int) else lastR r
def shortS (a : List UInt8) : List UInt8 := a.drop (lastR a.reverse + 1).toNat
theorem lastR_lt : ∀ r : List UInt8, -1 ≤ lastR r ∧ lastR r < ((r.length : Nat) : Int)
  | [] => by simp [lastR]
  | x :: r => by
    have := lastR_lt r
    unfold lastR
    split
    · simp only [List.length_cons]; omega
    · simp only [List.length_cons]; omega
theorem l238 {a0 : List UInt8} (hn : a0.length ≤ 1048576000) : ∀ (rp rest : List UInt8) (k : Nat), a0 = rp.reverse ++ rest → rp.length < k →
    (f238_l13 a0 46 k (((rp.length : Nat) : Int) - 1)).bind (fun o13 => match o13 with | .b0 () => some (-1 : Int) | .r x => some x | _ => none) = some (lastR rp) := by
  intro rp
  induction rp with
  | nil =>
    intro rest k ha hk
    obtain ⟨k, rfl, _⟩ := succ_of_pos hk
    rw [f238_l13, cond_dec, if_neg (by simp)]
    rfl
  | cons x rp ih =>
    intro rest k ha hk
    obtain ⟨k, rfl, hk'⟩ := succ_of_pos hk
    have hl : a0.length = rp.length + rest.length + 1 := by rw [ha]; simp; omega
    have e0 : (((x :: rp).length : Nat) : Int) - 1 = ((rp.length : Nat) : Int) := by simp
    have e1 : a0.getD rp.length 0 = x := by rw [ha]; simp [List.getElem?_append_right]
    rw [f238_l13]
    simp only [e0, cond_dec, Int.toNat_natCast, e1]
    rw [if_pos (by omega), gd_pos (by omega), i64w (by omega)]
    by_cases c : x.toNat = 46
    · rw [if_pos (by rw [c]; rfl)]
      simp [lastR, c]
    · rw [if_neg (by intro h; exact c (Int.ofNat_inj.1 h)), ih (x :: rest) k (by rw [ha]; simp) (by simp at hk'; omega)]
      simp [lastR, c]
theorem l257 {a0 : List UInt8} (hn : a0.length ≤ 1048576000) : ∀ (rp rest : List UInt8) (k : Nat), a0 = rp.reverse ++ rest → rp.length < k →
    (f257_l13 a0 k (((rp.length : Nat) : Int) - 1)).bind (fun o13 => match o13 with | .b0 () => some (-1 : Int) | .r x => some x | _ => none) = some (lastR rp) := by
  intro rp
  induction rp with
  | nil =>
    intro rest k ha hk
    obtain ⟨k, rfl, _⟩ := succ_of_pos hk
    rw [f257_l13, cond_dec, if_neg (by simp)]
    rfl
  | cons x rp ih =>
    intro rest k ha hk
    obtain ⟨k, rfl, hk'⟩ := succ_of_pos hk
    have hl : a0.length = rp.length + rest.length + 1 := by rw [ha]; simp; omega
    have e0 : (((x :: rp).length : Nat) : Int) - 1 = ((rp.length : Nat) : Int) := by simp
    have e1 : a0.getD rp.length 0 = x := by rw [ha]; simp [List.getElem?_append_right]
    rw [f257_l13]
    simp only [e0, cond_dec, Int.toNat_natCast, e1]
    rw [if_pos (by omega), gd_pos (by omega), i64w (by omega)]
    by_cases c : x.toNat = 46
    · rw [if_pos (by rw [c]; rfl)]
      simp [lastR, c]
    · rw [if_neg (by intro h; exact c (Int.ofNat_inj.1 h)), ih (x :: rest) k (by rw [ha]; simp) (by simp at hk'; omega)]
      simp [lastR, c]
theorem short_names {a : List UInt8} (hn : a.length ≤ 1048576) {k : Nat} (hk : a.length < k) : f235 k a = some (shortS a) := by
  have h1 := l238 (a0 := a) (by omega) a.reverse [] k (by simp) (by simpa using hk)
  have h2 := lastR_lt a.reverse
  simp only [List.length_reverse] at h1 h2
  have e0 : f238 k a 46 = some (lastR a.reverse) := by
    simp only [f238]
    rw [i64w (by omega)]; exact h1
  have e : f237 k a 46 = some (lastR a.reverse) := by
    simp only [f237, e0, Option.bind_some]
  simp only [f235, f236, e, Option.bind_some, cond_dec]
  by_cases c : lastR a.reverse < 0
  · have : lastR a.reverse = -1 := by omega
    rw [if_pos c]
    simp [shortS, this]
  · rw [if_neg c, gd_pos (by omega), i64w (by omega), gd_pos (by omega)]
    simp [sl, shortS]
theorem short_ref {a : List UInt8} (hn : a.length ≤ 1048576) {k : Nat} (hk : a.length < k) : f256 k a = some (shortS a) := by
  have h1 := l257 (a0 := a) (by omega) a.reverse [] k (by simp) (by simpa using hk)
  have h2 := lastR_lt a.reverse
  simp only [List.length_reverse] at h1 h2
  have e : f257 k a = some (lastR a.reverse) := by
    simp only [f257]
    rw [i64w (by omega)]; exact h1
  simp only [f256, e, Option.bind_some]
  rw [i64w (by omega), gd_pos (by omega)]
  simp [sl, shortS]

/-! ### what a list contains -/
theorem l240 {a0 : List (List UInt8)} {a1 : List UInt8} (hn : a0.length ≤ 1048576000) : ∀ (rest pre : List (List UInt8)) (k : Nat), a0 = pre ++ rest → rest.length < k →
    ∃ r : Int, (f240_l12 a0 a1 k ((pre.length : Nat) : Int)).bind (fun o12 => match o12 with | .b0 () => some (-1 : Int) | .r x => some x | _ => none) = some r ∧ decide (r ≥ 0) = decide (a1 ∈ rest) := by
  intro rest
  induction rest with
  | nil =>
    intro pre k ha hk
    obtain ⟨k, rfl, _⟩ := succ_of_pos hk
    have hl : a0.length = pre.length := by rw [ha]; simp
    refine ⟨-1, ?_, by simp⟩
    rw [f240_l12, cond_dec, if_neg (by omega)]
    rfl
  | cons x rest ih =>
    intro pre k ha hk
    obtain ⟨k, rfl, hk'⟩ := succ_of_pos hk
    have hrd : rd a0 ((pre.length : Nat) : Int) = x := by subst ha; exact rd_mid
    have hl : a0.length = pre.length + rest.length + 1 := by subst ha; simp; omega
    have hw : IntKind.i64.wrap (((pre.length : Nat) : Int) + 1) = (((pre ++ [x]).length : Nat) : Int) := by
      rw [i64w (by omega)]; simp
    obtain ⟨r, h1, h2⟩ := ih (pre ++ [x]) k (by simp [ha]) (by simp at hk'; omega)
    rw [f240_l12]
    simp only [cond_dec, hrd, hw]
    rw [if_pos (by omega), gd_pos (by omega)]
    by_cases c : a1 = x
    · rw [if_pos c]
      exact ⟨_, rfl, by simp [c]⟩
    · rw [if_neg c]
      exact ⟨r, h1, by rw [h2]; simp [c]⟩
theorem contains_lib {a0 : List (List UInt8)} {a1 : List UInt8} (hn : a0.length ≤ 1048576000) {k : Nat} (hk : a0.length < k) : f239 k a0 a1 = some (decide (a1 ∈ a0)) := by
  obtain ⟨r, h1, h2⟩ := l240 (a1 := a1) hn a0 [] k rfl hk
  simp only [List.length_nil] at h1
  have e : f240 k a0 a1 = some r := by
    simp only [f240]; exact h1
  simp only [f239, e, Option.bind_some, h2]
theorem l77 {a0 : List (List UInt8)} {a1 : List UInt8} (hn : a0.length ≤ 1048576000) : ∀ (rest pre : List (List UInt8)) (k : Nat), a0 = pre ++ rest → rest.length < k →
    (f77_l10 a0 a1 k ((pre.length : Nat) : Int)).bind (fun o12 => match o12 with | .b0 () => some false | .r x => some x | _ => none) = some (decide (a1 ∈ rest)) := by
  intro rest
  induction rest with
  | nil =>
    intro pre k ha hk
    obtain ⟨k, rfl, _⟩ := succ_of_pos hk
    have hl : a0.length = pre.length := by rw [ha]; simp
    rw [f77_l10, cond_dec, if_neg (by omega)]
    simp
  | cons x rest ih =>
    intro pre k ha hk
    obtain ⟨k, rfl, hk'⟩ := succ_of_pos hk
    have hrd : rd a0 ((pre.length : Nat) : Int) = x := by subst ha; exact rd_mid
    have hl : a0.length = pre.length + rest.length + 1 := by subst ha; simp; omega
    have hw : IntKind.i64.wrap (((pre.length : Nat) : Int) + 1) = (((pre ++ [x]).length : Nat) : Int) := by
      rw [i64w (by omega)]; simp
    rw [f77_l10]
    simp only [cond_dec, hrd, hw]
    rw [if_pos (by omega), gd_pos (by omega)]
    by_cases c : x = a1
    · rw [if_pos c]; simp [c]
    · rw [if_neg c, ih (pre ++ [x]) k (by simp [ha]) (by simp at hk'; omega)]
      simp [show ¬ a1 = x from fun h => c h.symm]
theorem contains_ref {a0 : List (List UInt8)} {a1 : List UInt8} (hn : a0.length ≤ 1048576000) {k : Nat} (hk : a0.length < k) : f77 k a0 a1 = some (decide (a1 ∈ a0)) := by
  have h1 := l77 (a1 := a1) hn a0 [] k rfl hk
  simp only [List.length_nil] at h1
  simp only [f77]
  exact h1

/-! ### names and kinds -/
def namedS (x y : TNode) : Bool := decide (shortS x.fName = shortS y.fName) || decide (x.fName ∈ y.fAliases)
theorem named_match {x y : TNode} (hx : x.fName.length ≤ 1048576) (hy : y.fName.length ≤ 1048576) (ha : y.fAliases.length ≤ 1048576) {k : Nat} (hk : 1048576 < k) : f234 k x y = some (namedS x y) := by
  simp only [f234, short_names hx (show _ < k by omega), short_names hy (show _ < k by omega), contains_lib (a0 := y.fAliases) (a1 := x.fName) (by omega) (show _ < k by omega), Option.bind_some, namedS]
  cases decide (shortS x.fName = shortS y.fName) <;> rfl
theorem named_ref {x y : TNode} (hx : x.fName.length ≤ 1048576) (hy : y.fName.length ≤ 1048576) (ha : y.fAliases.length ≤ 1048576) {k : Nat} (hk : 1048576 < k) : f255 k x y = some (namedS x y) := by
  simp only [f255, short_ref hx (show _ < k by omega), short_ref hy (show _ < k by omega), contains_ref (a0 := y.fAliases) (a1 := x.fName) (by omega) (show _ < k by omega), Option.bind_some, namedS]
  cases decide (shortS x.fName = shortS y.fName) <;> rfl

/-! ### fields -/
def idxL (nm : List UInt8) : Nat → List TField → Int
  | _, [] => -1
  | n, f :: r => if f.fName = nm then (n : Int) else idxL nm (n + 1) r
theorem l290 {a0 : List TField} {a1 : List UInt8} (hn : a0.length ≤ 1048576000) : ∀ (rest pre : List TField) (k : Nat), a0 = pre ++ rest → rest.length < k →
    (f290_l12 a0 a1 k ((pre.length : Nat) : Int)).bind (fun o12 => match o12 with | .b0 () => some (-1 : Int) | .r x => some x | _ => none) = some (idxL a1 pre.length rest) := by
  intro rest
  induction rest with
  | nil =>
    intro pre k ha hk
    obtain ⟨k, rfl, _⟩ := succ_of_pos hk
    have hl : a0.length = pre.length := by rw [ha]; simp
    rw [f290_l12, cond_dec, if_neg (by omega)]
    rfl
  | cons x rest ih =>
    intro pre k ha hk
    obtain ⟨k, rfl, hk'⟩ := succ_of_pos hk
    have hrd : rd a0 ((pre.length : Nat) : Int) = x := by subst ha; exact rd_mid
    have hl : a0.length = pre.length + rest.length + 1 := by subst ha; simp; omega
    have hw : IntKind.i64.wrap (((pre.length : Nat) : Int) + 1) = (((pre ++ [x]).length : Nat) : Int) := by
      rw [i64w (by omega)]; simp
    have h1 := ih (pre ++ [x]) k (by simp [ha]) (by simp at hk'; omega)
    rw [f290_l12]
    simp only [cond_dec, hrd, hw, f291, Option.bind_some]
    rw [if_pos (by omega), gd_pos (by omega)]
    unfold idxL
    by_cases c : x.fName = a1
    · rw [if_pos c, if_pos c]; rfl
    · rw [if_neg c, if_neg c, h1]; simp
theorem l293 {a0 : TNode} {a1 : List UInt8} (hn : a0.fFields.length ≤ 1048576000) : ∀ (rest pre : List TField) (k : Nat), a0.fFields = pre ++ rest → rest.length < k →
    (f293_l11 a0 a1 k ((pre.length : Nat) : Int)).bind (fun o12 => match o12 with | .b0 () => some (-1 : Int) | .r x => some x | _ => none) = some (idxL a1 pre.length rest) := by
  intro rest
  induction rest with
  | nil =>
    intro pre k ha hk
    obtain ⟨k, rfl, _⟩ := succ_of_pos hk
    have hl : a0.fFields.length = pre.length := by rw [ha]; simp
    rw [f293_l11, cond_dec, if_neg (by omega)]
    rfl
  | cons x rest ih =>
    intro pre k ha hk
    obtain ⟨k, rfl, hk'⟩ := succ_of_pos hk
    have hrd : rd a0.fFields ((pre.length : Nat) : Int) = x := by rw [ha]; exact rd_mid
    have hl : a0.fFields.length = pre.length + rest.length + 1 := by rw [ha]; simp; omega
    have hw : IntKind.i64.wrap (((pre.length : Nat) : Int) + 1) = (((pre ++ [x]).length : Nat) : Int) := by
      rw [i64w (by omega)]; simp
    have h1 := ih (pre ++ [x]) k (by simp [ha]) (by simp at hk'; omega)
    rw [f293_l11]
    simp only [cond_dec, hrd, hw]
    rw [if_pos (by omega), gd_pos (by omega)]
    unfold idxL
    by_cases c : x.fName = a1
    · rw [if_pos c, if_pos c]; rfl
    · rw [if_neg c, if_neg c, h1]; simp
theorem idx_lib {a0 : List TField} {a1 : List UInt8} (hn : a0.length ≤ 1048576000) {k : Nat} (hk : a0.length < k) : f290 k a0 a1 = some (idxL a1 0 a0) := by
  have h1 := l290 (a1 := a1) hn a0 [] k rfl hk
  simp only [List.length_nil] at h1
  simp only [f290]
  exact h1
theorem idx_ref {a0 : TNode} {a1 : List UInt8} (hn : a0.fFields.length ≤ 1048576000) {k : Nat} (hk : a0.fFields.length < k) : f293 k a0 a1 = some (idxL a1 0 a0.fFields) := by
  have h1 := l293 (a0 := a0) (a1 := a1) hn a0.fFields [] k rfl hk
  simp only [List.length_nil] at h1
  simp only [f293]
  exact h1
theorem idxL_ge : ∀ (nm : List UInt8) (n : Nat) (r : List TField), idxL nm n r = -1 ∨ 0 ≤ idxL nm n r
  | nm, n, [] => .inl rfl
  | nm, n, f :: r => by
    unfold idxL
    split
    · exact .inr (by omega)
    · exact idxL_ge nm (n + 1) r
def firstL (fs : List TField) : List (List UInt8) → Int
  | [] => -1
  | nm :: r => if idxL nm 0 fs ≥ 0 then idxL nm 0 fs else firstL fs r
theorem l258 {a0 : TNode} {names : List (List UInt8)} (hf : a0.fFields.length ≤ 1048576) (hn : names.length ≤ 1048576000) : ∀ (rest pre : List (List UInt8)) (k : Nat), names = pre ++ rest → rest.length + 1048576 < k →
    (f258_l20 names a0 k ((pre.length : Nat) : Int)).bind (fun o12 => match o12 with | .b0 () => some (-1 : Int) | .r x => some x | _ => none) = some (firstL a0.fFields rest) := by
  intro rest
  induction rest with
  | nil =>
    intro pre k ha hk
    obtain ⟨k, rfl, _⟩ := succ_of_pos hk
    have hl : names.length = pre.length := by rw [ha]; simp
    rw [f258_l20, cond_dec, if_neg (by omega)]
    rfl
  | cons x rest ih =>
    intro pre k ha hk
    obtain ⟨k, rfl, hk'⟩ := succ_of_pos hk
    have hrd : rd names ((pre.length : Nat) : Int) = x := by rw [ha]; exact rd_mid
    have hl : names.length = pre.length + rest.length + 1 := by rw [ha]; simp; omega
    have hw : IntKind.i64.wrap (((pre.length : Nat) : Int) + 1) = (((pre ++ [x]).length : Nat) : Int) := by
      rw [i64w (by omega)]; simp
    simp only [List.length_cons] at hk'
    have h1 := ih (pre ++ [x]) k (by simp [ha]) (by omega)
    rw [f258_l20]
    simp only [cond_dec, hrd, hw, idx_lib (a0 := a0.fFields) (a1 := x) (by omega) (show _ < k by omega), Option.bind_some]
    rw [if_pos (by omega), gd_pos (by omega)]
    unfold firstL
    by_cases c : idxL x 0 a0.fFields ≥ 0
    · rw [if_pos c, if_pos c]; rfl
    · rw [if_neg c, if_neg c, h1]
theorem l292 {a0 : TNode} {a1 : TField} (hf : a0.fFields.length ≤ 1048576) (hn : a1.fAliases.length ≤ 1048576000) : ∀ (rest pre : List (List UInt8)) (k : Nat) (y : Int), a1.fAliases = pre ++ rest → rest.length + 1048576 < k → (y = -1 ∨ 0 ≤ y) →
    f292_l20 a1 a0 k y ((pre.length : Nat) : Int) = some (.b0 (if y ≥ 0 then y else firstL a0.fFields rest)) := by
  intro rest
  induction rest with
  | nil =>
    intro pre k y ha hk hy
    obtain ⟨k, rfl, _⟩ := succ_of_pos hk
    have hl : a1.fAliases.length = pre.length := by rw [ha]; simp
    rw [f292_l20, cond_dec, if_neg (by omega)]
    unfold firstL
    rcases hy with rfl | hy
    · rfl
    · rw [if_pos hy]
  | cons x rest ih =>
    intro pre k y ha hk hy
    obtain ⟨k, rfl, hk'⟩ := succ_of_pos hk
    have hrd : rd a1.fAliases ((pre.length : Nat) : Int) = x := by rw [ha]; exact rd_mid
    have hl : a1.fAliases.length = pre.length + rest.length + 1 := by rw [ha]; simp; omega
    have hw : IntKind.i64.wrap (((pre.length : Nat) : Int) + 1) = (((pre ++ [x]).length : Nat) : Int) := by
      rw [i64w (by omega)]; simp
    simp only [List.length_cons] at hk'
    have h1 := ih (pre ++ [x]) k (idxL x 0 a0.fFields) (by simp [ha]) (by omega) (idxL_ge ..)
    rw [f292_l20]
    simp only [cond_dec, hrd, hw, show TNode.mk a0.fKind a0.fName a0.fAliases a0.fFields a0.fSymbols a0.fHas a0.fDefault a0.fItems a0.fBranches a0.fSize = a0 from rfl, idx_ref (a0 := a0) (a1 := x) (by omega) (show _ < k by omega), Option.bind_some, h1]
    rw [if_pos (by omega)]
    rcases hy with rfl | hy
    · rw [if_pos (by omega), gd_pos (by omega), show (if (-1 : Int) ≥ 0 then (-1 : Int) else firstL a0.fFields (x :: rest)) = firstL a0.fFields (x :: rest) from if_neg (by omega)]
      rfl
    · rw [if_neg (by omega), if_pos hy]
theorem field_match {x : TNode} {f : TField} (hf : x.fFields.length ≤ 1048576) (ha : f.fAliases.length ≤ 1048576) {k : Nat} (hk : 3000000 < k) : f258 k x f = some (firstL x.fFields (f.fName :: f.fAliases)) := by
  have h1 := l258 (a0 := x) (names := f.fName :: f.fAliases) hf (by simp; omega) (f.fName :: f.fAliases) [] k rfl (by simp; omega)
  simp only [List.length_nil] at h1
  simp only [f258]
  rw [concat259 (by simp) (by simp; omega) (by simp; omega)]
  simp only [Option.bind_some, List.flatten_cons, List.flatten_nil, List.append_nil, List.cons_append, List.nil_append]
  exact h1
theorem field_ref {x : TNode} {f : TField} (hf : x.fFields.length ≤ 1048576) (ha : f.fAliases.length ≤ 1048576) {k : Nat} (hk : 3000000 < k) : f292 k x f = some (firstL x.fFields (f.fName :: f.fAliases)) := by
  have h1 := l292 (a0 := x) (a1 := f) hf (by omega) f.fAliases [] k (idxL f.fName 0 x.fFields) rfl (by omega) (idxL_ge ..)
  simp only [List.length_nil] at h1
  simp only [f292, show TNode.mk x.fKind x.fName x.fAliases x.fFields x.fSymbols x.fHas x.fDefault x.fItems x.fBranches x.fSize = x from rfl, idx_ref (a0 := x) (a1 := f.fName) (by omega) (show _ < k by omega), Option.bind_some]
  rw [show f292_l20 f x k _ 0 = _ from h1]
  rfl
theorem awake09 (k : Nat) : f230 (k + 40) = some true := by kernel_rfl
theorem law_MatchNames (a0 : TNode) (a1 : TNode) (a2 : TField) (w0 : TNode.wf a0) (w1 : TNode.wf a1) (w2 : TField.wf a2) (hb : TNode.sz a0 + TNode.sz a1 + TField.sz a2 ≤ 1048576) : ∃ k, f254 k a0 a1 a2 = some true := by
  have haw : f230 (4000000 + 40) = some true := awake09 _
  refine ⟨4000000 + 40, ?_⟩
  generalize hk : 4000000 + 40 = k at haw ⊢
  simp only [TNode.sz, TField.sz] at hb
  have e : ∀ x : TNode, TNode.mk x.fKind x.fName x.fAliases x.fFields x.fSymbols x.fHas x.fDefault x.fItems x.fBranches x.fSize = x := fun x => rfl
  have e2 : ∀ x : TField, TField.mk x.fName x.fAliases x.fType x.fHas x.fDefault = x := fun x => rfl
  simp only [f254, haw, cond_dec, Option.bind_some, cond_true, e, e2]
  by_cases c1 : ((a0.fFields.length : Nat) : Int) > 100
  · rw [if_pos c1]
  by_cases c2 : ((a2.fAliases.length : Nat) : Int) > 100
  · rw [if_neg c1, if_pos c2]
  by_cases c3 : ((a1.fAliases.length : Nat) : Int) > 100
  · rw [if_neg c1, if_neg c2, if_pos c3]
  rw [if_neg c1, if_neg c2, if_neg c3, named_match (by omega) (by omega) (by omega) (by omega), named_ref (by omega) (by omega) (by omega) (by omega), field_match (by omega) (by omega) (by omega), field_ref (by omega) (by omega) (by omega)]
  simp
end Go.Proofs.Abs
