/- The law CodeSizes of courantlaw01 says true for every input of a bounded bulk. -/
import Derived.Test.YtojmpoboidomeaaRows
import Derived.Test.YtojmpoboidomeaaGCodb
import Derived.Test.YtojmpoboidomeaaPCoe
import Derived.WalkKit
import Derived.ProofKit
import Derived.OpenShut
import Derived.JoinedCond
import Derived.ChangeOld
import Derived.Below
import Derived.Carry
set_option linter.unusedSimpArgs false
namespace Go.Proofs.Ytojmpoboidomeaa.codeSizes
open Go.ChangeShapes Go.WideShapes Go.ChangeAt Go.RowKit
open Go.Proofs.Abs
set_option linter.unusedVariables false
set_option maxRecDepth 100000
theorem own : ownKnob Try.prog.godebug = none := by kernel_rfl
theorem laidOut : laidOutB Try.prog = true := by kernel_rfl
theorem hmix : Try.prog.follows .mixedOrders = true := by kernel_rfl
def num : Nat → Nat
  | 4 => 4
  | 20 => 20
  | 22 => 22
  | 23 => 23
  | 25 => 25
  | 27 => 27
  | 30 => 30
  | 31 => 31
  | 32 => 32
  | 39 => 39
  | 40 => 40
  | 41 => 41
  | 82 => 82
  | 84 => 84
  | 85 => 85
  | 88 => 88
  | k => k
theorem hf82 : HasF Try.prog (num 82) (C82 num) := ⟨Try.f82, Try.func82, by kernel_rfl, by kernel_rfl, by kernel_rfl⟩
theorem hf23 : HasF Try.prog (num 23) (C23 num) := ⟨Try.f23, Try.func23, by kernel_rfl, by kernel_rfl, by kernel_rfl⟩
theorem hf25 : HasF Try.prog (num 25) (C25 num) := ⟨Try.f25, Try.func25, by kernel_rfl, by kernel_rfl, by kernel_rfl⟩
theorem hf27 : HasF Try.prog (num 27) (C27 num) := ⟨Try.f27, Try.func27, by kernel_rfl, by kernel_rfl, by kernel_rfl⟩
theorem hf20 : HasF Try.prog (num 20) (C20 num) := ⟨Try.f20, Try.func20, by kernel_rfl, by kernel_rfl, by kernel_rfl⟩
theorem hf22 : HasF Try.prog (num 22) (C22 num) := ⟨Try.f22, Try.func22, by kernel_rfl, by kernel_rfl, by kernel_rfl⟩
theorem hf30 : HasF Try.prog (num 30) (C30 num) := ⟨Try.f30, Try.func30, by kernel_rfl, by kernel_rfl, by kernel_rfl⟩
theorem hf84 : HasF Try.prog (num 84) (C84 num) := ⟨Try.f84, Try.func84, by kernel_rfl, by kernel_rfl, by kernel_rfl⟩
theorem hf85 : HasF Try.prog (num 85) (C85 num) := ⟨Try.f85, Try.func85, by kernel_rfl, by kernel_rfl, by kernel_rfl⟩
theorem hf39 : HasF Try.prog (num 39) (C39 num) := ⟨Try.f39, Try.func39, by kernel_rfl, by kernel_rfl, by kernel_rfl⟩
theorem hf88 : HasF Try.prog (num 88) (C88 num) := ⟨Try.f88, Try.func88, by kernel_rfl, by kernel_rfl, by kernel_rfl⟩
theorem hf40 : HasF Try.prog (num 40) (C40 num) := ⟨Try.f40, Try.func40, by kernel_rfl, by kernel_rfl, by kernel_rfl⟩
theorem hf32 : HasF Try.prog (num 32) (C32 num) := ⟨Try.f32, Try.func32, by kernel_rfl, by kernel_rfl, by kernel_rfl⟩
theorem hf41 : HasF Try.prog (num 41) (C41 num) := ⟨Try.f41, Try.func41, by kernel_rfl, by kernel_rfl, by kernel_rfl⟩
theorem hf31 : HasF Try.prog (num 31) (C31 num) := ⟨Try.f31, Try.func31, by kernel_rfl, by kernel_rfl, by kernel_rfl⟩
theorem hf4 : HasF Try.prog (num 4) (C4 num) := ⟨Try.f4, Try.func4, by kernel_rfl, by kernel_rfl, by kernel_rfl⟩
theorem hc82 : HC82 Try.prog num := hf82
theorem hc23 : HC23 Try.prog num := hf23
theorem hc25 : HC25 Try.prog num := ⟨hf25, hc82, hc23⟩
theorem hc27 : HC27 Try.prog num := ⟨hf27, hc25⟩
theorem hc20 : HC20 Try.prog num := ⟨hf20, hc27⟩
theorem hc22 : HC22 Try.prog num := hf22
theorem hc30 : HC30 Try.prog num := hf30
theorem hc84 : HC84 Try.prog num := hf84
theorem hc85 : HC85 Try.prog num := hf85
theorem hc39 : HC39 Try.prog num := ⟨hf39, hc84, hc85⟩
theorem hc88 : HC88 Try.prog num := hf88
theorem hc40 : HC40 Try.prog num := ⟨hf40, hc39, hc88⟩
theorem hc32 : HC32 Try.prog num := hf32
theorem hc41 : HC41 Try.prog num := ⟨hf41, hc84, hc32, hc85⟩
theorem hc31 : HC31 Try.prog num := ⟨hf31, hc84, hc40, hc85, hc41⟩
theorem hc4 : HC4 Try.prog num := ⟨hf4, hc20, hc23, hc25, hc22, hc27, hc30, hc31, hc32⟩
mutual
theorem bulk_eq {H : Type} : ∀ d : DataW H, Rows.uptoBulk d = bulk d
  | .lit l => by cases l <;> simp only [Rows.uptoBulk, bulk]
  | .nil => by simp only [Rows.uptoBulk, bulk]
  | .ptr d => by simp only [Rows.uptoBulk, bulk, bulk_eq d]
  | .slice es sp => by simp only [Rows.uptoBulk, bulk, bulkAll_eq es, bulkAll_eq sp]
  | .agg ps => by simp only [Rows.uptoBulk, bulk, bulkAll_eq ps]
  | .iface _ d => by simp only [Rows.uptoBulk, bulk, bulk_eq d]
  | .map es => by simp only [Rows.uptoBulk, bulk, bulkEntries_eq es]
  | .held _ => by simp only [Rows.uptoBulk, bulk]
theorem bulkAll_eq {H : Type} : ∀ ds : List (DataW H), Rows.uptoBulkAll ds = bulkAll ds
  | [] => by simp only [Rows.uptoBulkAll, bulkAll]
  | d :: r => by simp only [Rows.uptoBulkAll, bulkAll, bulk_eq d, bulkAll_eq r]
theorem bulkEntries_eq {H : Type} : ∀ es : List (Lit × DataW H), Rows.uptoBulkEntries es = bulkEntries es
  | [] => by simp only [Rows.uptoBulkEntries, bulkEntries]
  | x :: r => by simp only [Rows.uptoBulkEntries, bulkEntries, bulkEntry_eq x, bulkEntries_eq r]
theorem bulkEntry_eq {H : Type} : ∀ x : Lit × DataW H, Rows.uptoBulkEntry x = bulkEntry x
  | (l, d) => by cases l <;> simp only [Rows.uptoBulkEntry, bulkEntry, bulk_eq d]
end
theorem contract (H : Type) (enc : TypeId × Value → H) (W : World) (base : Nat) (args : Array Value) (ds gs : List (DataW H)) (before : List MemPlace)
    (hval0 : ∀ (j : Nat) t v, Try.f4.params[j]? = some t → args[j]? = some v → Value.okWide Try.prog W .any base t v)
    (hW : DataW.Whole enc Try.prog Try.f4.params.toList Rows.codeSizesSpec.vars false W args.toList ds gs before) (hk : Rows.uptoSmall H (ds ++ gs) = true) :
    Calls Try.prog 4 args W fun e W' => ∃ v, e = .returned v ∧ Rows.codeSizesSpec.post enc Try.prog Try.f4 false true false false W args v W' := by
  have hval : ∀ (j : Nat) t v, Try.f4.params[j]? = some t → args[j]? = some v → Value.okWide Try.prog W .any base t v := hval0
  have hW' := hW
  obtain ⟨p, q, hA0, hV, rfl, hfz, hnd⟩ := hW
  have hA : DataW.TrodAll enc Try.prog W 0 (fun _ => true) true Try.f4.params.toList args.toList ds p := hA0
  rw [Try.params4] at hA hval
  obtain ⟨v0, vs0, d0, ds0, p0, q0, hargs, rfl, rfl, h0, r0⟩ := trodAll_cons hA
  obtain ⟨v1, vs1, d1, ds1, p1, q1, rfl, rfl, rfl, h1, r1⟩ := trodAll_cons r0
  obtain ⟨v2, vs2, d2, ds2, p2, q2, rfl, rfl, rfl, h2, r2⟩ := trodAll_cons r1
  obtain ⟨rfl, rfl, rfl⟩ := trodAll_nil r2
  obtain rfl : args = #[v0, v1, v2] := by cases args; simp_all
  obtain ⟨rfl, rfl⟩ := trodVars_none hV
  have hb : Rows.uptoBulkAll [d0, d1, d2] ≤ 1048576 := of_decide_eq_true (show Rows.uptoSmall H [d0, d1, d2] = true by rw [List.append_nil] at hk; exact hk)
  simp only [Rows.uptoBulkAll, bulk_eq] at hb
  have lt0 : ∀ x ∈ p0, x.block < W.heap.size := by obtain ⟨m, hm⟩ := h0; exact fun x hx => DataW.trod_lt m _ _ _ hm x hx
  obtain ⟨a0, w0, s0, e0⟩ := Rd.arg (rd_u64 Try.underlying22) (int_ok _) Try.underlying22 rfl (hval 0 22 v0 rfl rfl) h0
  have lt1 : ∀ x ∈ p1, x.block < W.heap.size := by obtain ⟨m, hm⟩ := h1; exact fun x hx => DataW.trod_lt m _ _ _ hm x hx
  obtain ⟨a1, w1, s1, e1⟩ := Rd.arg (rd_i64 Try.underlying2) (int_ok _) Try.underlying2 rfl (hval 1 2 v1 rfl rfl) h1
  have lt2 : ∀ x ∈ p2, x.block < W.heap.size := by obtain ⟨m, hm⟩ := h2; exact fun x hx => DataW.trod_lt m _ _ _ hm x hx
  obtain ⟨a2, w2, s2, e2⟩ := Rd.arg (rd_slice Try.underlying32 slE_ok (by decide) (by kernel_rfl) (rd_slice Try.underlying23 byteD_ok (by decide) (by kernel_rfl) (rd_byte Try.underlying5))) slE_ok Try.underlying32 rfl (hval 2 32 v2 rfl rfl) h2
  obtain ⟨k, hk2⟩ := law_CodeSizes a0 a1 a2 w0 w1 w2 (by simp only [] at *; omega)
  have hc := F4 (N := num) hmix hc4 hk2
  clear hA0 hval0
  refine (law_calls hc (vs := [v0, v1, v2]) W rfl fun j g1 g2 => ?_).mono fun e W' ⟨he, bel⟩ => ?_
  · match j with
    | 0 => exact .d e0
    | 1 => exact .d e1
    | 2 => exact .d e2
  subst he
  exact ⟨_, rfl, _, _, _, [], _, [], hW', trodAll_mk1 (shut_bool Try.underlying4 _), (trodAll_cons_mk (Below.trod laidOut (by kernel_rfl) (of_decide_eq_true (by kernel_rfl)) h0 bel lt0) (trodAll_cons_mk (Below.trod laidOut (by kernel_rfl) (of_decide_eq_true (by kernel_rfl)) h1 bel lt1) (trodAll_cons_mk (Below.trod laidOut (by kernel_rfl) (of_decide_eq_true (by kernel_rfl)) h2 bel lt2) trodAll_mk0))), rfl, bel.frame _, fun h => by cases h⟩
set_option maxRecDepth 100000 in
theorem lifted (os : Os) (started : os.Started) (H : Type) (enc : TypeId × Value → H) (F : Stop.Interp) :
    ReturnsInHanded {} Try.checked os 4 .any ((Rows.OpenSpec.upto Rows.codeSizesSpec).pre6 enc Try.prog Try.f4 Rows.codeSizesUptoRow.domain false) (((Rows.OpenSpec.upto Rows.codeSizesSpec).at F).post enc Try.prog Try.f4 false true false false) := by
  refine returnsInHanded_of_cond (C := Try.checked) (s := Rows.OpenSpec.upto Rows.codeSizesSpec) (k := Rows.uptoSmall) rfl own started (by kernel_rfl) Try.func4
    (OpenSpec.witness (enc := enc) (C := Try.checked) (s := Rows.OpenSpec.upto Rows.codeSizesSpec) (k := Rows.uptoSmall) rfl false ⟨#[], #[.int .u64 0, .int .i64 0, .slice none 0 0], []⟩ 8 (by kernel_rfl) (by kernel_rfl) (by kernel_rfl)
      (x := ([.lit (.int .u64 0), .lit (.int .i64 0), .nil], [], [])) (by kernel_rfl) rfl (by kernel_rfl)) ?_
  intro W base args ds gs before hval hW _ hk _
  exact contract H enc W base args ds gs before hval hW hk
theorem over : Rows.codeSizesUptoRow.holds Try.pinned (Rows.OpenSpec.upto Rows.codeSizesSpec) :=
  OpenClaim.holds_of_cond 4 Try.f4 rfl rfl rfl rfl rfl rfl rfl ⟨rfl, rfl, rfl, rfl, rfl⟩ rfl rfl rfl rfl rfl (by kernel_rfl) Try.func4 (by kernel_rfl)
    (of_decide_eq_true (by kernel_rfl)) (by unfold Func.isWrapper; first | (rw [if_pos (by decide +kernel)]; kernel_rfl) | (rw [if_neg (by decide +kernel)]; exact ⟨rfl, rfl⟩))
    (fun os started H enc _ F => lifted os started H enc F)
end Go.Proofs.Ytojmpoboidomeaa.codeSizes
namespace Go.Proofs.Ytojmpoboidomeaa
/-- The row, under a short name, for the claim. -/
theorem codeSizes_holds : Rows.CodeSizesUptoSaid := codeSizes.over
#print axioms codeSizes_holds
end Go.Proofs.Ytojmpoboidomeaa
