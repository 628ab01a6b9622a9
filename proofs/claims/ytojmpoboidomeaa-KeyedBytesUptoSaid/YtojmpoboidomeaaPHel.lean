/- Copies with room behind them, and that they stay. -/
import Derived.Test.YtojmpoboidomeaaGLkbyc
import Derived.Test.YtojmpoboidomeaaAbsxc
set_option linter.unusedSimpArgs false
namespace Go.Proofs.Abs
open Go
set_option linter.unusedVariables false
set_option maxRecDepth 10000
theorem own21_step {a0 : List UInt8} {x : UInt8} (hn : a0.length ≤ 1048576000) (k j : Nat) (l : List UInt8) (hj : j < 3) (hl : l.length = a0.length + 3) :
    f21_l36 a0 x (k + 1) ((a0.length + j : Nat) : Int) l = f21_l36 a0 x k ((a0.length + (j + 1) : Nat) : Int) (l.set (a0.length + j) x) := by
  have h1 : IntKind.i64.wrap (((a0.length : Nat) : Int) + 3) = ((a0.length + 3 : Nat) : Int) := by rw [i64w (by omega)]; simp
  have h2 : IntKind.i64.wrap (((a0.length + j : Nat) : Int) + 1) = ((a0.length + (j + 1) : Nat) : Int) := by rw [i64w (by omega)]; omega
  simp only [f21_l36, h1, h2, cond_dec, Int.toNat_natCast]
  rw [if_pos (by omega), gd_pos (by omega), gd_pos (by omega)]
theorem own21_done {a0 : List UInt8} {x : UInt8} (hn : a0.length ≤ 1048576000) (k : Nat) (l : List UInt8) : f21_l36 a0 x (k + 1) ((a0.length + 3 : Nat) : Int) l = some (.b0 l) := by
  have h1 : IntKind.i64.wrap (((a0.length : Nat) : Int) + 3) = ((a0.length + 3 : Nat) : Int) := by rw [i64w (by omega)]; simp
  simp only [f21_l36, h1, cond_dec, Int.toNat_natCast]
  rw [if_neg (by omega)]
theorem own21 {a0 : List UInt8} {x : UInt8} (hn : a0.length ≤ 1048576000) {k : Nat} (hk : 3 < k) : f21 k a0 x = some (a0 ++ [x, x, x]) := by
  obtain ⟨k, rfl⟩ : ∃ j, k = j + 4 := ⟨k - 4, by omega⟩
  have h1 : IntKind.i64.wrap (((a0.length : Nat) : Int) + 3) = ((a0.length + 3 : Nat) : Int) := by rw [i64w (by omega)]; simp
  have h2 : List.take (0 : Int).toNat (List.replicate (a0.length + 3) (default : UInt8)) ++ a0 ++ List.drop ((0 : Int).toNat + a0.length) (List.replicate (a0.length + 3) (default : UInt8)) = a0 ++ [default, default, default] := by
    simp only [Int.toNat_zero, List.take_zero, List.nil_append, Nat.zero_add, List.drop_append, List.drop_replicate, Nat.add_sub_cancel_left]; rfl
  simp only [f21, h1, Int.toNat_natCast]
  rw [gd_pos (by omega), gd_pos (by simp), gd_pos (by omega), h2]
  rw [show ((a0.length : Nat) : Int) = ((a0.length + 0 : Nat) : Int) from rfl, own21_step hn _ _ _ (by omega) (by simp), own21_step hn _ _ _ (by omega) (by simp), own21_step hn _ _ _ (by omega) (by simp), own21_done hn]
  simp [gd, List.set_append]

theorem same108_loop {a b : List UInt8} (hl : a.length = b.length) (hn : a.length ≤ 1048576000) : ∀ (rest pre rest' pre' : List UInt8) (k : Nat), a = pre ++ rest → b = pre' ++ rest' → pre.length = pre'.length → rest.length < k →
    f108_l26 a b k ((pre.length : Nat) : Int) = some (cond (decide (rest = rest')) (.b0 ()) (.r false)) := by
  intro rest
  induction rest with
  | nil =>
    intro pre rest' pre' k ha hb hp hk
    obtain ⟨k, rfl, _⟩ := succ_of_pos hk
    have : rest' = [] := by
      subst ha hb; simp at hl; exact List.eq_nil_of_length_eq_zero (by omega)
    subst this
    subst ha
    simp [f108_l26]
  | cons x rest ih =>
    intro pre rest' pre' k ha hb hp hk
    obtain ⟨k, rfl, hk'⟩ := succ_of_pos hk
    cases rest' with
    | nil => subst ha hb; simp at hl; omega
    | cons y rest' =>
      have h1 := ih (pre ++ [x]) rest' (pre' ++ [y]) k (by simp [ha]) (by simp [hb]) (by simp [hp]) (by simp at hk'; omega)
      have hrd : rd a ((pre.length : Nat) : Int) = x := by subst ha; exact rd_mid
      have hrd2 : rd b ((pre.length : Nat) : Int) = y := by rw [hp]; subst hb; exact rd_mid
      have hl1 : a.length = pre.length + rest.length + 1 := by subst ha; simp; omega
      have hw : IntKind.i64.wrap (((pre.length : Nat) : Int) + 1) = (((pre ++ [x]).length : Nat) : Int) := by
        rw [i64w (by omega)]; simp
      simp only [f108_l26, f109, cond_dec, hrd, hrd2, hw, Option.bind_some]
      rw [if_pos (by omega), gd_pos (by omega), gd_pos (by omega), h1]
      by_cases hxy : x = y
      · subst hxy; simp
      · have : (decide (((x.toNat : Nat) : Int) = ((y.toNat : Nat) : Int))) = false := by
          apply Bool.eq_false_iff.2
          intro h
          apply hxy
          exact UInt8.toNat_inj.1 (Int.ofNat_inj.1 (by simpa using h))
        rw [this]; simp [hxy]
theorem same108 {a b : List UInt8} (hn : a.length ≤ 1048576000) {k : Nat} (hk : a.length < k) : f108 k a b = some (decide (a = b)) := by
  by_cases hl : a.length = b.length
  · have := same108_loop hl hn a [] b [] k rfl rfl rfl hk
    simp only [List.length_nil] at this
    simp only [f108]
    rw [show ((0 : Int)) = (((0 : Nat)) : Int) from rfl, this]
    by_cases h : a = b <;> simp [h, hl]
  · have : a ≠ b := fun h => hl (by rw [h])
    simp only [f108, cond_dec]
    rw [if_pos (by omega)]
    simp [this]
theorem plain83 {a b : List UInt8} (hn : a.length ≤ 1048576000) {k : Nat} (hk : a.length < k) : f83 k a b = some (decide (a = b)) := by
  simp only [f83, same108 hn hk, Option.bind_some]

theorem kept29_loop {a : List UInt8} {x : UInt8} (hn : a.length ≤ 1048576000) (k j : Nat) (hj : j < 3) : f29_l44 a (a ++ [x, x, x]) x (k + 1) ((a.length + j : Nat) : Int) = f29_l44 a (a ++ [x, x, x]) x k ((a.length + (j + 1) : Nat) : Int) := by
  have h1 : IntKind.i64.wrap (((a.length : Nat) : Int) + 3) = ((a.length + 3 : Nat) : Int) := by rw [i64w (by omega)]; simp
  have h2 : IntKind.i64.wrap (((a.length + j : Nat) : Int) + 1) = ((a.length + (j + 1) : Nat) : Int) := by rw [i64w (by omega)]; omega
  have h3 : List.take (a.length + 3) (a ++ [x, x, x]) = a ++ [x, x, x] := List.take_of_length_le (by simp)
  have h4 : rd (a ++ [x, x, x]) ((a.length + j : Nat) : Int) = x := by
    simp only [rd, Int.toNat_natCast, List.getD, List.getElem?_append_right (Nat.le_add_right _ _), Nat.add_sub_cancel_left]
    match j, hj with
    | 0, _ => rfl
    | 1, _ => rfl
    | 2, _ => rfl
  simp only [f29_l44, h1, h2, cond_dec, Int.toNat_natCast, h3, h4]
  rw [if_pos (by simp; omega), gd_pos (by simp; omega)]
  simp
theorem kept29_done {a : List UInt8} {x : UInt8} (hn : a.length ≤ 1048576000) (k : Nat) : f29_l44 a (a ++ [x, x, x]) x (k + 1) ((a.length + 3 : Nat) : Int) = some (.b0 ()) := by
  have h1 : IntKind.i64.wrap (((a.length : Nat) : Int) + 3) = ((a.length + 3 : Nat) : Int) := by rw [i64w (by omega)]; simp
  have h3 : List.take (a.length + 3) (a ++ [x, x, x]) = a ++ [x, x, x] := List.take_of_length_le (by simp)
  simp only [f29_l44, h1, cond_dec, Int.toNat_natCast, h3]
  rw [if_neg (by simp)]
theorem kept29 {a : List UInt8} {x : UInt8} (hn : a.length ≤ 1048576000) {k : Nat} (hk : a.length + 4 < k) : f29 k (a ++ [x, x, x]) ((0 : Int).toNat + a.length) a x = some true := by
  obtain ⟨k, rfl⟩ : ∃ j, k = j + 4 := ⟨k - 4, by omega⟩
  have h1 : IntKind.i64.wrap (((a.length : Nat) : Int) + 3) = ((a.length + 3 : Nat) : Int) := by rw [i64w (by omega)]; simp
  have h2 : List.take ((0 : Int).toNat + a.length) (a ++ [x, x, x]) = a := by simp
  simp only [f29, h1, h2, plain83 hn (show a.length < k + 4 by omega), Option.bind_some, cond_dec]
  rw [gd_pos (by simp; omega)]
  rw [show ((a.length : Nat) : Int) = ((a.length + 0 : Nat) : Int) from rfl, kept29_loop hn _ _ (by omega), kept29_loop hn _ _ (by omega), kept29_loop hn _ _ (by omega), kept29_done hn]
  simp
end Go.Proofs.Abs
