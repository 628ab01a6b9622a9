/- The law RequestBytes over the Lean functions. -/
import Derived.Test.YtojmpoboidomeaaPReq
import Derived.Test.YtojmpoboidomeaaPRef
import Derived.Test.YtojmpoboidomeaaPHel
set_option linter.unusedSimpArgs false
namespace Go.Proofs.Abs
open Go
set_option linter.unusedVariables false
set_option maxRecDepth 10000
theorem reply_zero (k : Nat) : f65 (k + 40) (TReply.mk 0 0 0 0 [] []) = some [0, 0, 0, 0, 0, 0] := by kernel_rfl
theorem awake27 {k : Nat} (hk : 50 ≤ k) : f56 k = some true := by
  rw [f56, bytes_req (r := TRequest.mk 0 [] [] [] 0 0 0 0 0 0 []) (by simp [TRequest.wf]) (by simp [TRequest.sz]) (by omega), Option.bind_some]
  rw [show rqB (TRequest.mk 0 [] [] [] 0 0 0 0 0 0 []) = [0, 0, 0, 0, 0, 0, 0, 0, 0, 0, 0] by simp [rqB, zb, ub, tb, zg, nb_lt]]
  obtain ⟨j, rfl⟩ : ∃ j, k = j + 40 := ⟨k - 40, by omega⟩
  rw [reply_zero, Option.bind_some]
  rfl
end Go.Proofs.Abs
