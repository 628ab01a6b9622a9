/- Segments are scanned: what both scanners come to. -/
import Derived.Test.YtgimibhacllcpaaPTak
set_option linter.unusedSimpArgs false
namespace Go.Proofs.Abs
open Go
set_option linter.unusedVariables false
set_option maxRecDepth 10000

theorem takeF_ok {R : List UInt8} (h : (takeF R).2.1 = 0) : ∃ n : Nat, (takeF R).1 = (n : Int) ∧ 16 ≤ n ∧ n ≤ R.length ∧ n ≤ 32784 ∧ (takeF R).2.2.2 = (R.take n).drop 16 ∧ (0 ≤ (takeF R).2.2.1 ∧ (takeF R).2.2.1 ≤ 18446744073709551615) := by
  unfold takeF at h ⊢
  by_cases c1 : R.length < 16
  · rw [if_pos c1] at h; exact absurd h (by decide)
  rw [if_neg c1] at h ⊢
  generalize valN 0 (R.take 4) = n at h ⊢
  by_cases c2 : 32768 < n
  · simp only [if_pos c2] at h; exact absurd h (by decide)
  simp only [if_neg c2] at h ⊢
  by_cases c3 : R.length - 16 < n
  · simp only [if_pos c3] at h; exact absurd h (by decide)
  simp only [if_neg c3] at h ⊢
  by_cases c4 : addC 0 ((R.take (16 + n)).drop 8) = valN 0 ((R.take 8).drop 4)
  · simp only [c4, ne_eq, not_true, if_false]
    have h8 : ((R.take 16).drop 8).length = 8 := by simp; omega
    have := valN_lt ((R.take 16).drop 8) 0 0 (by decide)
    rw [h8, show 256 ^ (0 + 8) = 18446744073709551616 from by decide] at this
    exact ⟨16 + n, rfl, by omega, by omega, by omega, rfl, by omega⟩
  · simp only [ne_eq, c4, not_false_eq_true, if_true] at h; exact absurd h (by decide)
theorem sl_end {a pre R : List UInt8} (ha : a = pre ++ R) : sl a ((pre.length : Nat) : Int) ((a.length : Nat) : Int) = R := by
  simp only [sl, Int.toNat_natCast, List.take_length]
  rw [ha]; simp
end Go.Proofs.Abs
