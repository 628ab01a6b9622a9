/- JsonStrings: signs written as digits of 16, and what json prints of a text. -/
import Derived.Test.YtnhjiioiejpbgaaDoorPJqu
import Derived.Lib.MapLaws
set_option linter.unusedSimpArgs false
namespace Go.Proofs.Abs
open Go
set_option linter.unusedVariables false
set_option maxRecDepth 100000
variable {s R : List UInt8} {n : Int} {c : UInt8}
def runeOk (r : Int) : Prop := ∃ v : Nat, r = (v : Int) ∧ (v < 55296 ∨ (57343 < v ∧ v ≤ 1114111))
end Go.Proofs.Abs
