/- The law CodeWrites of courantlaw01 says true for every input. -/
import Derived.Test.YtojmpoboidomeaaRows
import Derived.Test.YtojmpoboidomeaaAbsC4
import Derived.Test.YtojmpoboidomeaaAbs24
import Derived.WalkKit
import Derived.ProofKit
import Derived.OpenShut
import Derived.ChangeOld
import Derived.Below
import Derived.Carry
namespace Go.Proofs.Ytojmpoboidomeaa.codeWrites
open Go.ChangeShapes Go.WideShapes Go.ChangeAt Go.RowKit
open Go.Proofs.Abs
set_option linter.unusedVariables false
theorem own : ownKnob Try.prog.godebug = none := by kernel_rfl
theorem laidOut : laidOutB Try.prog = true := by kernel_rfl
theorem hmix : Try.prog.follows .mixedOrders = true := by kernel_rfl
abbrev num (k : Nat) : Nat := k
theorem hf3 : HasF Try.prog (num 3) (C3 num) := ⟨Try.f3, Try.func3, by kernel_rfl, by kernel_rfl, by kernel_rfl⟩
theorem hf20 : HasF Try.prog (num 20) (C20 num) := ⟨Try.f20, Try.func20, by kernel_rfl, by kernel_rfl, by kernel_rfl⟩
theorem hf21 : HasF Try.prog (num 21) (C21 num) := ⟨Try.f21, Try.func21, by kernel_rfl, by kernel_rfl, by kernel_rfl⟩
theorem hf22 : HasF Try.prog (num 22) (C22 num) := ⟨Try.f22, Try.func22, by kernel_rfl, by kernel_rfl, by kernel_rfl⟩
theorem hf23 : HasF Try.prog (num 23) (C23 num) := ⟨Try.f23, Try.func23, by kernel_rfl, by kernel_rfl, by kernel_rfl⟩
theorem hf24 : HasF Try.prog (num 24) (C24 num) := ⟨Try.f24, Try.func24, by kernel_rfl, by kernel_rfl, by kernel_rfl⟩
theorem hf25 : HasF Try.prog (num 25) (C25 num) := ⟨Try.f25, Try.func25, by kernel_rfl, by kernel_rfl, by kernel_rfl⟩
theorem hf26 : HasF Try.prog (num 26) (C26 num) := ⟨Try.f26, Try.func26, by kernel_rfl, by kernel_rfl, by kernel_rfl⟩
theorem hf27 : HasF Try.prog (num 27) (C27 num) := ⟨Try.f27, Try.func27, by kernel_rfl, by kernel_rfl, by kernel_rfl⟩
theorem hf28 : HasF Try.prog (num 28) (C28 num) := ⟨Try.f28, Try.func28, by kernel_rfl, by kernel_rfl, by kernel_rfl⟩
theorem hf29 : HasF Try.prog (num 29) (C29 num) := ⟨Try.f29, Try.func29, by kernel_rfl, by kernel_rfl, by kernel_rfl⟩
theorem hf82 : HasF Try.prog (num 82) (C82 num) := ⟨Try.f82, Try.func82, by kernel_rfl, by kernel_rfl, by kernel_rfl⟩
theorem hf83 : HasF Try.prog (num 83) (C83 num) := ⟨Try.f83, Try.func83, by kernel_rfl, by kernel_rfl, by kernel_rfl⟩
theorem hf108 : HasF Try.prog (num 108) (C108 num) := ⟨Try.f108, Try.func108, by kernel_rfl, by kernel_rfl, by kernel_rfl⟩
theorem hf109 : HasF Try.prog (num 109) (C109 num) := ⟨Try.f109, Try.func109, by kernel_rfl, by kernel_rfl, by kernel_rfl⟩

set_option maxRecDepth 100000 in
theorem lifted (os : Os) (started : os.Started) (H : Type) (enc : TypeId × Value → H) :
    ReturnsInHanded {} Try.checked os 3 .any (Rows.codeWritesSpec.pre6 enc Try.prog Try.f3 Rows.codeWritesRow.domain false) (Rows.codeWritesSpec.post enc Try.prog Try.f3 false true false false) := by
  refine returnsInHanded_of_change (C := Try.checked) own started (by kernel_rfl) Try.func3
    (ChangeSpec.witness6 (enc := enc) (C := Try.checked) false ⟨#[], #[.int .u64 0, .int .i64 0, .slice none 0 0], []⟩ 8 (by kernel_rfl) (by kernel_rfl) (by kernel_rfl) (by kernel_rfl)) ?_
  intro W base args ds gs before hval0 hW hcnd _
  have hval : ∀ (j : Nat) t v, Try.f3.params[j]? = some t → args[j]? = some v → Value.okWide Try.prog W .any base t v := hval0
  have hW' := hW
  obtain ⟨p, q, hA0, hV, rfl, hfz, hnd⟩ := hW
  have hA : DataW.TrodAll enc Try.prog W 0 (fun _ => true) true Try.f3.params.toList args.toList ds p := hA0
  rw [Try.params3] at hA hval
  obtain ⟨v0, vs0, d0, ds0, p0, q0, hargs, rfl, rfl, h0, r0⟩ := trodAll_cons hA
  obtain ⟨v1, vs1, d1, ds1, p1, q1, rfl, rfl, rfl, h1, r1⟩ := trodAll_cons r0
  obtain ⟨v2, vs2, d2, ds2, p2, q2, rfl, rfl, rfl, h2, r2⟩ := trodAll_cons r1
  obtain ⟨rfl, rfl, rfl⟩ := trodAll_nil r2
  obtain rfl : args = #[v0, v1, v2] := by cases args; simp_all
  obtain ⟨rfl, rfl⟩ := trodVars_none hV
  obtain ⟨a0, rfl, rfl, rfl, w0⟩ := open_int Try.underlying22 (hval 0 22 v0 rfl rfl) h0
  obtain ⟨a1, rfl, rfl, rfl, w1⟩ := open_int Try.underlying2 (hval 1 2 v1 rfl rfl) h1
  obtain ⟨a2, len2, cap2, rfl⟩ := okWide_slice Try.underlying23 (hval 2 23 v2 rfl rfl)
  have k2 := h2
  have lt2 : ∀ x ∈ p2, x.block < W.heap.size := by obtain ⟨m, hm⟩ := k2; exact DataW.trod_lt m _ _ _ hm
  have hb : ∃ t : List UInt8, DV (sealOf W) (bytesD t) (.slice a2 len2 cap2) := by
    obtain ⟨fuel, hf⟩ := h2
    rcases open_ints Try.underlying23 Try.underlying5 (by kernel_rfl) hf with ⟨hcs, _⟩ | ⟨x, l, c, zs, hcs, _, hl, hm, hz, _, hcell, hwz⟩
    · simp [Value.cells] at hcs
      obtain ⟨rfl, rfl, rfl⟩ := hcs
      exact ⟨[], .nilsl⟩
    · simp [Value.cells] at hcs
      obtain ⟨rfl, rfl, rfl⟩ := hcs
      exact ⟨_, dv_bytes (okWide_spot Try.underlying23 (hval 2 23 _ rfl rfl)) hl (by simpa using hz) hcell hwz⟩
  obtain ⟨t, ht⟩ := hb
  have e0 : 0 ≤ a0 ∧ a0 ≤ 18446744073709551615 := by simpa [Lit.wf, IntKind.min, IntKind.max, IntKind.signed, IntKind.bits] using w0
  have e1 : -9223372036854775808 ≤ a1 ∧ a1 ≤ 9223372036854775807 := by simpa [Lit.wf, IntKind.min, IntKind.max, IntKind.signed, IntKind.bits] using w1
  obtain ⟨u, rfl⟩ := Int.eq_ofNat_of_zero_le e0.1
  have hc := c3 hmix hf20 hf21 hf22 hf23 hf24 hf25 hf26 hf27 hf28 hf29 hf82 hf83 hf108 hf109 hf3 u a1 t (by omega) (by omega) (by omega)
  clear hA0 hval0
  refine (law_calls hc (vs := [.int .u64 (u : Int), .int .i64 a1, .slice a2 len2 cap2]) W rfl fun j g1 g2 => ?_).mono fun e W' ⟨he, bel⟩ => ?_
  · match j with
    | 0 => exact .d .int
    | 1 => exact .d .int
    | 2 => exact .d ht
  subst he
  exact ⟨_, rfl, _, _, _, [], _, [], hW', trodAll_mk1 (shut_bool Try.underlying4 _), (trodAll_cons_mk (shut_int Try.underlying22 w0) (trodAll_cons_mk (shut_int Try.underlying2 w1) (trodAll_cons_mk (Below.trod laidOut (by kernel_rfl) (of_decide_eq_true (by kernel_rfl)) k2 bel lt2) trodAll_mk0))), rfl, bel.frame _, fun h => by cases h⟩

theorem over : Rows.codeWritesRow.holds Try.pinned (OpenSpec.ofChange Rows.codeWritesSpec) :=
  OpenClaim.holds_of_wide 3 Try.f3 rfl rfl rfl rfl rfl rfl rfl ⟨rfl, rfl, rfl, rfl, rfl⟩ rfl rfl rfl rfl rfl (by kernel_rfl) Try.func3 (by kernel_rfl)
    (of_decide_eq_true (by kernel_rfl)) (by unfold Func.isWrapper; first | (rw [if_pos (by decide +kernel)]; kernel_rfl) | (rw [if_neg (by decide +kernel)]; exact ⟨rfl, rfl⟩))
    (fun os started H enc _ => lifted os started H enc)
theorem proved : Rows.CodeWritesSaid := over
end Go.Proofs.Ytojmpoboidomeaa.codeWrites
namespace Go.Proofs.Ytojmpoboidomeaa
/-- The row, under a short name, for the claim. -/
theorem codeWrites_holds : Rows.CodeWritesSaid := codeWrites.proved
#print axioms codeWrites_holds
end Go.Proofs.Ytojmpoboidomeaa
