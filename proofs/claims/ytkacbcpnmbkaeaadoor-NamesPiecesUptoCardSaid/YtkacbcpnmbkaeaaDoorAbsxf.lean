/- Several texts of one proof, one behind the other. -/
import Derived.Test.YtkacbcpnmbkaeaaDoorAbsxe
import Derived.Lib.Strings
import Derived.Lib.Slices
import Derived.Lib.Walk
import Derived.Lib.Bytealg
set_option linter.unusedSimpArgs false
set_option linter.unusedVariables false
section
/- A function of Go's library that finds a byte in a text. -/
namespace Go.Proofs.Abs
open Go
def IdxB (P : Program) (f : FuncId) : Prop :=
  (∃ fn, P.funcs[f]? = some fn ∧ (fn.name == "runtime.NumGoroutine") = false ∧ fn.body.isSome = true) ∧
  ∀ (s : ByteArray) (c : Int) (w : World), Calls P f #[.string s, .int .u8 c] w fun e w' => e = .returned (.int .i64 (Lib.indexByte s.data.toList c.toNat.toUInt8)) ∧ w' = w
theorem idxB_calls {P : Program} {f : FuncId} (h : IdxB P f) (s : List UInt8) (c : UInt8) :
    ACalls P f [.d (.str s), .d (.int .u8 ((c.toNat : Nat) : Int))] [] (.d (.int .i64 (Lib.indexByte s c))) [] := by
  refine ⟨h.1, fun S i w vs hl hv hh _ => ?_⟩
  match vs, hl, hv with
  | [v0, v1], _, hv =>
    have h0 := hv 0 (by simp) (by simp)
    have h1 := hv 1 (by simp) (by simp)
    simp only [List.getElem_cons_zero, List.getElem_cons_succ] at h0 h1
    cases h0 with
    | d h0 =>
      cases h1 with
      | d h1 =>
        cases h0
        cases h1
        refine (h.2 _ _ w).mono fun e w' hh' => ?_
        obtain ⟨he, rfl⟩ := hh'
        refine ⟨_, he, S, i, ?_, hh, fun _ _ hb => hb, Tr.refl _ _ _ _, fun l b hb => .inl hb⟩
        have hc : ((c.toNat : Nat) : Int).toNat.toUInt8 = c := by simp
        rw [hc]
        exact .d .int
end Go.Proofs.Abs
end
