/- The law CodeNil of courantlaw01 says true for every input. -/
import Derived.Test.YtojmpoboidomeaaRows
import Derived.Test.YtojmpoboidomeaaAbsC5
import Derived.Test.YtojmpoboidomeaaAbs24
import Derived.WalkKit
import Derived.ProofKit
import Derived.OpenShut
import Derived.ChangeOld
import Derived.Below
import Derived.Carry
namespace Go.Proofs.Ytojmpoboidomeaa.codeNil
open Go.ChangeShapes Go.WideShapes Go.ChangeAt Go.RowKit
open Go.Proofs.Abs
set_option linter.unusedVariables false
theorem own : ownKnob Try.prog.godebug = none := by kernel_rfl
abbrev num (k : Nat) : Nat := k
theorem hf8 : HasF Try.prog (num 8) (C8 num) := ⟨Try.f8, Try.func8, by kernel_rfl, by kernel_rfl, by kernel_rfl⟩
theorem hf20 : HasF Try.prog (num 20) (C20 num) := ⟨Try.f20, Try.func20, by kernel_rfl, by kernel_rfl, by kernel_rfl⟩
theorem hf23 : HasF Try.prog (num 23) (C23 num) := ⟨Try.f23, Try.func23, by kernel_rfl, by kernel_rfl, by kernel_rfl⟩
theorem hf82 : HasF Try.prog (num 82) (C82 num) := ⟨Try.f82, Try.func82, by kernel_rfl, by kernel_rfl, by kernel_rfl⟩
theorem hf25 : HasF Try.prog (num 25) (C25 num) := ⟨Try.f25, Try.func25, by kernel_rfl, by kernel_rfl, by kernel_rfl⟩
theorem hf27 : HasF Try.prog (num 27) (C27 num) := ⟨Try.f27, Try.func27, by kernel_rfl, by kernel_rfl, by kernel_rfl⟩
theorem hf84 : HasF Try.prog (num 84) (C84 num) := ⟨Try.f84, Try.func84, by kernel_rfl, by kernel_rfl, by kernel_rfl⟩
theorem hf39 : HasF Try.prog (num 39) (C39 num) := ⟨Try.f39, Try.func39, by kernel_rfl, by kernel_rfl, by kernel_rfl⟩
theorem hf40 : HasF Try.prog (num 40) (C40 num) := ⟨Try.f40, Try.func40, by kernel_rfl, by kernel_rfl, by kernel_rfl⟩
theorem hf88 : HasF Try.prog (num 88) (C88 num) := ⟨Try.f88, Try.func88, by kernel_rfl, by kernel_rfl, by kernel_rfl⟩
theorem hf31 : HasF Try.prog (num 31) (C31 num) := ⟨Try.f31, Try.func31, by kernel_rfl, by kernel_rfl, by kernel_rfl⟩
theorem hf41 : HasF Try.prog (num 41) (C41 num) := ⟨Try.f41, Try.func41, by kernel_rfl, by kernel_rfl, by kernel_rfl⟩
theorem hf32 : HasF Try.prog (num 32) (C32 num) := ⟨Try.f32, Try.func32, by kernel_rfl, by kernel_rfl, by kernel_rfl⟩
theorem hf42 : HasF Try.prog (num 42) (C42 num) := ⟨Try.f42, Try.func42, by kernel_rfl, by kernel_rfl, by kernel_rfl⟩
theorem hf43 : HasF Try.prog (num 43) (C43 num) := ⟨Try.f43, Try.func43, by kernel_rfl, by kernel_rfl, by kernel_rfl⟩

set_option maxRecDepth 100000 in
theorem lifted (os : Os) (started : os.Started) (H : Type) (enc : TypeId × Value → H) :
    ReturnsInHanded {} Try.checked os 8 .any (Rows.codeNilSpec.pre6 enc Try.prog Try.f8 Rows.codeNilRow.domain false) (Rows.codeNilSpec.post enc Try.prog Try.f8 false true false false) := by
  refine returnsInHanded_of_change (C := Try.checked) own started (by kernel_rfl) Try.func8
    (ChangeSpec.witness6 (enc := enc) (C := Try.checked) false ⟨#[], #[.int .i64 0], []⟩ 8 (by kernel_rfl) (by kernel_rfl) (by kernel_rfl) (by kernel_rfl)) ?_
  intro W base args ds gs before hval0 hW hcnd _
  have hval : ∀ (j : Nat) t v, Try.f8.params[j]? = some t → args[j]? = some v → Value.okWide Try.prog W .any base t v := hval0
  have hW' := hW
  obtain ⟨p, q, hA0, hV, rfl, hfz, hnd⟩ := hW
  have hA : DataW.TrodAll enc Try.prog W 0 (fun _ => true) true Try.f8.params.toList args.toList ds p := hA0
  rw [Try.params8] at hA hval
  obtain ⟨v0, vs0, d0, ds0, p0, q0, hargs, rfl, rfl, h0, r0⟩ := trodAll_cons hA
  obtain ⟨rfl, rfl, rfl⟩ := trodAll_nil r0
  obtain rfl : args = #[v0] := by cases args; simp_all
  obtain ⟨rfl, rfl⟩ := trodVars_none hV
  obtain ⟨a0, rfl, rfl, rfl, w0⟩ := open_int Try.underlying3 (hval 0 3 v0 rfl rfl) h0
  have hc := c8 (c20 hf23 hf82 hf25 hf27 hf20) hf84 hf39 hf40 hf88 hf31 hf41 hf32 hf42 hf43 hf8 a0
  clear hA0 hval0
  refine (law_calls hc (vs := [.int .i64 a0]) W rfl fun j g1 g2 => ?_).mono fun e W' ⟨he, bel⟩ => ?_
  · match j with
    | 0 => exact .d .int
  subst he
  exact ⟨_, rfl, _, _, _, [], _, [], hW', trodAll_mk1 (shut_bool Try.underlying4 _), (trodAll_cons_mk (shut_int Try.underlying3 w0) trodAll_mk0), rfl, bel.frame _, fun h => by cases h⟩

theorem over : Rows.codeNilRow.holds Try.pinned (OpenSpec.ofChange Rows.codeNilSpec) :=
  OpenClaim.holds_of_wide 8 Try.f8 rfl rfl rfl rfl rfl rfl rfl ⟨rfl, rfl, rfl, rfl, rfl⟩ rfl rfl rfl rfl rfl (by kernel_rfl) Try.func8 (by kernel_rfl)
    (of_decide_eq_true (by kernel_rfl)) (by unfold Func.isWrapper; first | (rw [if_pos (by decide +kernel)]; kernel_rfl) | (rw [if_neg (by decide +kernel)]; exact ⟨rfl, rfl⟩))
    (fun os started H enc _ => lifted os started H enc)
theorem proved : Rows.CodeNilSaid := over
end Go.Proofs.Ytojmpoboidomeaa.codeNil
namespace Go.Proofs.Ytojmpoboidomeaa
/-- The row, under a short name, for the claim. -/
theorem codeNil_holds : Rows.CodeNilSaid := codeNil.proved
#print axioms codeNil_holds
end Go.Proofs.Ytojmpoboidomeaa
