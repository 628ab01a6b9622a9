/- Reading bytes and texts, by the program's reader. -/
import Derived.Test.YtojmpoboidomeaaPRec
set_option linter.unusedSimpArgs false
namespace Go.Proofs.Abs
open Go
set_option linter.unusedVariables false
set_option maxRecDepth 10000
theorem raw_read {b : List UInt8} {p : Nat} {e n : Int} (hb : b.length ≤ 100000000) (hp : p ≤ b.length) (hn : -9223372036854775808 ≤ n ∧ n ≤ 9223372036854775807) {k : Nat} : f41 k b (p : Int) e n = some ((rRaw b p e n).1, (((rRaw b p e n).2.1 : Nat) : Int), (rRaw b p e n).2.2) := by
  simp only [f41, f84, Option.bind_some, f32, f85]
  by_cases he : e = 0
  · subst he
    simp only [decide_true, Bool.not_true, cond_false, rRaw, if_true]
    rw [cond_dec]
    by_cases c : n ≤ 0
    · rw [if_pos c, if_pos c]
    · rw [if_neg c, if_neg c, i64w (n := (b.length : Int) - (p : Int)) (by omega), cond_dec]
      by_cases c2 : (b.length : Int) < (p : Int) + n
      · rw [if_pos (by omega), if_pos c2]
      · rw [if_neg (by omega), if_neg c2]
        obtain ⟨m, rfl⟩ := Int.eq_ofNat_of_zero_le (show 0 ≤ n by omega)
        rw [i64w (n := (p : Int) + (m : Int)) (by omega), i64w (by omega), show (p : Int) + (m : Int) - (m : Int) = (p : Int) by omega, show (p : Int) + (m : Int) = ((p + m : Nat) : Int) by omega]
        rw [gd_pos (by omega), sl_nat, gd_pos (by have := List.length_take_le m (b.drop p); simp only [List.length_take, List.length_drop]; omega)]
        rfl
  · simp only [he, decide_false, Bool.not_false, cond_true, rRaw, if_false]
theorem text_read {b : List UInt8} {p : Nat} {e m : Int} (hb : b.length ≤ 100000000) (hp : p ≤ b.length) {k : Nat} (hk : 10 ≤ k) : f31 k b (p : Int) e m = some ((rText b p e m).1, (((rText b p e m).2.1 : Nat) : Int), (rText b p e m).2.2) := by
  simp only [f31, f84, Option.bind_some, f85, zig_read hb hp hk]
  by_cases he : e = 0
  · subst he
    simp only [decide_true, Bool.not_true, cond_false, rText, if_true, cond_dec, rZig]
    cases hr : rdN 0 0 (b.drop p) with
    | inl e' =>
      have he' := rdN_err _ _ _ _ hr
      simp only [rNum, if_true, hr, cond_dec]
      rw [if_pos (by omega)]
    | inr x =>
      obtain ⟨w, n⟩ := x
      obtain ⟨h0, h1, h2, h3⟩ := rdN_len hr
      simp only [List.length_drop] at h1
      have hw := unz_in h2
      simp only [rNum, if_true, hr, cond_dec]
      rw [if_neg (show ¬ ((0 : Int) ≠ 0) by simp)]
      by_cases c1 : unz w < 0
      · rw [if_pos c1, if_pos c1]
      · rw [if_neg c1, if_neg c1]
        by_cases c2 : max m 0 < unz w
        · rw [if_pos c2, if_pos c2]
        · rw [if_neg c2, if_neg c2, raw_read hb (by omega) hw]
          simp only [Option.bind_some, rRaw, if_true]
          by_cases c3 : unz w ≤ 0
          · rw [if_pos c3, if_neg (by simp), if_neg (by omega), show unz w = 0 by omega]
            simp
          · rw [if_neg c3]
            by_cases c4 : ((b.length : Nat) : Int) < ((p + n : Nat) : Int) + unz w
            · rw [if_pos c4, if_pos c4, if_pos (by simp)]
            · rw [if_neg c4, if_neg c4, if_neg (by simp)]
  · simp only [he, decide_false, Bool.not_false, cond_true, rText, if_false]
theorem new_read {b : List UInt8} (hb : b.length ≤ 100000000) {k : Nat} : f30 k b = some () := by
  rw [f30, gd_pos (by omega)]
/-! ## What is written is read -/
end Go.Proofs.Abs
