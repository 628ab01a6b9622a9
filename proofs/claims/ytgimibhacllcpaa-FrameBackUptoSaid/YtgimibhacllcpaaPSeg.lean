/- The law SegmentRecords over the Lean functions: the records from a place on. -/
import Derived.Test.YtgimibhacllcpaaPSca
set_option linter.unusedSimpArgs false
namespace Go.Proofs.Abs
open Go
set_option linter.unusedVariables false
set_option maxRecDepth 10000

theorem u64_nonneg (n : Int) : 0 ≤ IntKind.u64.wrap n := by
  simp only [IntKind.wrap, IntKind.signed, IntKind.bits]
  simp
  omega
/-- what is asked for: the records from a place on -/
def fromL (o : Int) (l : List TRec) : List TRec := l.filter fun x => decide (x.fOffset ≥ o)
theorem fromL_cons {o : Int} {x : TRec} {l : List TRec} : fromL o (x :: l) = if x.fOffset ≥ o then x :: fromL o l else fromL o l := by
  unfold fromL
  by_cases h : x.fOffset ≥ o <;> simp [h]
theorem fromL_append {o : Int} {a b : List TRec} : fromL o (a ++ b) = fromL o a ++ fromL o b := by simp [fromL]
theorem rd_map {α β : Type} [Inhabited α] [Inhabited β] {f : α → β} {l : List α} {i : Int} (h : 0 ≤ i ∧ i < ((l.length : Nat) : Int)) : rd (l.map f) i = f (rd l i) := by
  have : i.toNat < l.length := by omega
  simp [rd, List.getD, this]
end Go.Proofs.Abs
