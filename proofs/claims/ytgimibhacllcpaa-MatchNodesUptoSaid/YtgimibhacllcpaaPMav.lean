/- The law MatchNodes over the Lean functions: kinds of single nodes, all sixty-four pairs. -/
import Derived.Test.YtgimibhacllcpaaPMat
namespace Go.Proofs.Abs
open Go
set_option linter.unusedVariables false
set_option maxRecDepth 100000
theorem kind_of {a : Int} : 1 ≤ IntKind.i64.wrap ((1 : Int) + IntKind.i64.wrap (Int.tmod (IntKind.u64.wrap a) (8 : Int))) ∧ IntKind.i64.wrap ((1 : Int) + IntKind.i64.wrap (Int.tmod (IntKind.u64.wrap a) (8 : Int))) ≤ 8 := by
  have h : 0 ≤ IntKind.u64.wrap a := by
    simp only [IntKind.wrap, IntKind.signed, IntKind.bits]
    simp
    omega
  obtain ⟨n, hn⟩ := Int.eq_ofNat_of_zero_le h
  rw [hn, show Int.tmod (n : Int) 8 = ((n % 8 : Nat) : Int) from rfl]
  have : n % 8 < 8 := Nat.mod_lt _ (by decide)
  rw [i64w (n := ((n % 8 : Nat) : Int)) (by omega), i64w (by omega)]
  omega
theorem law_MatchNodes (a0 : Int) (a1 : Int) (w0 : (-9223372036854775808 ≤ a0 ∧ a0 ≤ 9223372036854775807)) (w1 : (-9223372036854775808 ≤ a1 ∧ a1 ≤ 9223372036854775807)) (hb : 1 + 1 ≤ 1048576) : ∃ k, f242 k a0 a1 = some true := by
  refine ⟨60, ?_⟩
  have hx := kind_of (a := a0)
  have hy := kind_of (a := a1)
  simp only [f242, f242_j58]
  generalize IntKind.i64.wrap ((1 : Int) + IntKind.i64.wrap (Int.tmod (IntKind.u64.wrap a0) (8 : Int))) = x at hx ⊢
  generalize IntKind.i64.wrap ((1 : Int) + IntKind.i64.wrap (Int.tmod (IntKind.u64.wrap a1) (8 : Int))) = y at hy ⊢
  clear w0 w1 hb
  have hx' : x = 1 ∨ x = 2 ∨ x = 3 ∨ x = 4 ∨ x = 5 ∨ x = 6 ∨ x = 7 ∨ x = 8 := by omega
  have hy' : y = 1 ∨ y = 2 ∨ y = 3 ∨ y = 4 ∨ y = 5 ∨ y = 6 ∨ y = 7 ∨ y = 8 := by omega
  clear hx hy
  rcases hx' with rfl | rfl | rfl | rfl | rfl | rfl | rfl | rfl <;> rcases hy' with rfl | rfl | rfl | rfl | rfl | rfl | rfl | rfl <;> decide +kernel
end Go.Proofs.Abs
