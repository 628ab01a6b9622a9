/- The law FrameBack of courantlaw18 says true for every input of a bounded bulk. -/
import Derived.Test.YtgimibhacllcpaaRows
import Derived.Test.YtgimibhacllcpaaGLfba
import Derived.Test.YtgimibhacllcpaaPFba
import Derived.WalkKit
import Derived.ProofKit
import Derived.OpenShut
import Derived.JoinedCond
import Derived.ChangeOld
import Derived.Below
import Derived.Carry
set_option linter.unusedSimpArgs false
namespace Go.Proofs.Ytgimibhacllcpaa.frameBack
open Go.ChangeShapes Go.WideShapes Go.ChangeAt Go.RowKit
open Go.Proofs.Abs
set_option linter.unusedVariables false
set_option maxRecDepth 100000
theorem own : ownKnob Try.prog.godebug = none := by kernel_rfl
theorem laidOut : laidOutB Try.prog = true := by kernel_rfl
theorem hmix : Try.prog.follows .mixedOrders = true := by kernel_rfl
def num : Nat → Nat
  | 22 => 42
  | 87 => 90
  | 91 => 75
  | 97 => 35
  | 111 => 103
  | 222 => 39
  | 223 => 40
  | 224 => 76
  | 225 => 104
  | 226 => 113
  | 253 => 19
  | 263 => 30
  | 264 => 32
  | 265 => 72
  | 266 => 73
  | 267 => 100
  | 274 => 63
  | 275 => 89
  | 287 => 59
  | k => k
theorem hf225 : HasF Try.prog (num 225) (C225 num) := ⟨Try.f104, Try.func104, by kernel_rfl, by kernel_rfl, by kernel_rfl⟩
theorem hf226 : HasF Try.prog (num 226) (C226 num) := ⟨Try.f113, Try.func113, by kernel_rfl, by kernel_rfl, by kernel_rfl⟩
theorem hf224 : HasF Try.prog (num 224) (C224 num) := ⟨Try.f76, Try.func76, by kernel_rfl, by kernel_rfl, by kernel_rfl⟩
theorem hf111 : HasF Try.prog (num 111) (C111 num) := ⟨Try.f103, Try.func103, by kernel_rfl, by kernel_rfl, by kernel_rfl⟩
theorem hf91 : HasF Try.prog (num 91) (C91 num) := ⟨Try.f75, Try.func75, by kernel_rfl, by kernel_rfl, by kernel_rfl⟩
theorem hf265 : HasF Try.prog (num 265) (C265 num) := ⟨Try.f72, Try.func72, by kernel_rfl, by kernel_rfl, by kernel_rfl⟩
theorem hf266 : HasF Try.prog (num 266) (C266 num) := ⟨Try.f73, Try.func73, by kernel_rfl, by kernel_rfl, by kernel_rfl⟩
theorem hf267 : HasF Try.prog (num 267) (C267 num) := ⟨Try.f100, Try.func100, by kernel_rfl, by kernel_rfl, by kernel_rfl⟩
theorem hf264 : HasF Try.prog (num 264) (C264 num) := ⟨Try.f32, Try.func32, by kernel_rfl, by kernel_rfl, by kernel_rfl⟩
theorem hf263 : HasF Try.prog (num 263) (C263 num) := ⟨Try.f30, Try.func30, by kernel_rfl, by kernel_rfl, by kernel_rfl⟩
theorem hf223 : HasF Try.prog (num 223) (C223 num) := ⟨Try.f40, Try.func40, by kernel_rfl, by kernel_rfl, by kernel_rfl⟩
theorem hf222 : HasF Try.prog (num 222) (C222 num) := ⟨Try.f39, Try.func39, by kernel_rfl, by kernel_rfl, by kernel_rfl⟩
theorem hf97 : HasF Try.prog (num 97) (C97 num) := ⟨Try.f35, Try.func35, by kernel_rfl, by kernel_rfl, by kernel_rfl⟩
theorem hf275 : HasF Try.prog (num 275) (C275 num) := ⟨Try.f89, Try.func89, by kernel_rfl, by kernel_rfl, by kernel_rfl⟩
theorem hf87 : HasF Try.prog (num 87) (C87 num) := ⟨Try.f90, Try.func90, by kernel_rfl, by kernel_rfl, by kernel_rfl⟩
theorem hf274 : HasF Try.prog (num 274) (C274 num) := ⟨Try.f63, Try.func63, by kernel_rfl, by kernel_rfl, by kernel_rfl⟩
theorem hf22 : HasF Try.prog (num 22) (C22 num) := ⟨Try.f42, Try.func42, by kernel_rfl, by kernel_rfl, by kernel_rfl⟩
theorem hf287 : HasF Try.prog (num 287) (C287 num) := ⟨Try.f59, Try.func59, by kernel_rfl, by kernel_rfl, by kernel_rfl⟩
theorem hf253 : HasF Try.prog (num 253) (C253 num) := ⟨Try.f19, Try.func19, by kernel_rfl, by kernel_rfl, by kernel_rfl⟩
theorem hc225 : HC225 Try.prog num := hf225
theorem hcb224_21 : HCb224_21 Try.prog num := trivial
theorem hc226 : HC226 Try.prog num := ⟨hf226, hcb224_21⟩
theorem hc224 : HC224 Try.prog num := ⟨hf224, hc225, hc226⟩
theorem hc111 : HC111 Try.prog num := hf111
theorem hc91 : HC91 Try.prog num := ⟨hf91, hc111⟩
theorem hc265 : HC265 Try.prog num := hf265
theorem hc266 : HC266 Try.prog num := hf266
theorem hcb264_25 : HCb264_25 Try.prog num := trivial
theorem hc267 : HC267 Try.prog num := ⟨hf267, hcb264_25⟩
theorem hc264 : HC264 Try.prog num := ⟨hf264, hc265, hc266, hc267⟩
theorem hc263 : HC263 Try.prog num := ⟨hf263, hc264⟩
theorem hc223 : HC223 Try.prog num := ⟨hf223, hc224, hc91, hc263⟩
theorem hc222 : HC222 Try.prog num := ⟨hf222, hc223⟩
theorem hc97 : HC97 Try.prog num := hf97
theorem hc275 : HC275 Try.prog num := hf275
theorem hc87 : HC87 Try.prog num := hf87
theorem hc274 : HC274 Try.prog num := ⟨hf274, hc275, hc263, hc87⟩
theorem hc97v2 : HC97v2 Try.prog num := hf97
theorem hc22 : HC22 Try.prog num := hf22
theorem hc287 : HC287 Try.prog num := ⟨hf287, hc22⟩
theorem hc253 : HC253 Try.prog num := ⟨hf253, hc222, hc223, hc97, hc274, hc97v2, hc287⟩
mutual
theorem bulk_eq {H : Type} : ∀ d : DataW H, Rows.uptoBulk d = bulk d
  | .lit l => by cases l <;> simp only [Rows.uptoBulk, bulk]
  | .nil => by simp only [Rows.uptoBulk, bulk]
  | .ptr d => by simp only [Rows.uptoBulk, bulk, bulk_eq d]
  | .slice es sp => by simp only [Rows.uptoBulk, bulk, bulkAll_eq es, bulkAll_eq sp]
  | .agg ps => by simp only [Rows.uptoBulk, bulk, bulkAll_eq ps]
  | .iface _ d => by simp only [Rows.uptoBulk, bulk, bulk_eq d]
  | .map es => by simp only [Rows.uptoBulk, bulk, bulkEntries_eq es]
  | .held _ => by simp only [Rows.uptoBulk, bulk]
theorem bulkAll_eq {H : Type} : ∀ ds : List (DataW H), Rows.uptoBulkAll ds = bulkAll ds
  | [] => by simp only [Rows.uptoBulkAll, bulkAll]
  | d :: r => by simp only [Rows.uptoBulkAll, bulkAll, bulk_eq d, bulkAll_eq r]
theorem bulkEntries_eq {H : Type} : ∀ es : List (Lit × DataW H), Rows.uptoBulkEntries es = bulkEntries es
  | [] => by simp only [Rows.uptoBulkEntries, bulkEntries]
  | x :: r => by simp only [Rows.uptoBulkEntries, bulkEntries, bulkEntry_eq x, bulkEntries_eq r]
theorem bulkEntry_eq {H : Type} : ∀ x : Lit × DataW H, Rows.uptoBulkEntry x = bulkEntry x
  | (l, d) => by cases l <;> simp only [Rows.uptoBulkEntry, bulkEntry, bulk_eq d]
end
theorem contract (H : Type) (enc : TypeId × Value → H) (W : World) (base : Nat) (args : Array Value) (ds gs : List (DataW H)) (before : List MemPlace)
    (hval0 : ∀ (j : Nat) t v, Try.f19.params[j]? = some t → args[j]? = some v → Value.okWide Try.prog W .any base t v)
    (hW : DataW.Whole enc Try.prog Try.f19.params.toList Rows.frameBackSpec.vars false W args.toList ds gs before) (hk : Rows.uptoSmall H (ds ++ gs) = true) :
    Calls Try.prog 19 args W fun e W' => ∃ v, e = .returned v ∧ Rows.frameBackSpec.post enc Try.prog Try.f19 false true false false W args v W' := by
  have hval : ∀ (j : Nat) t v, Try.f19.params[j]? = some t → args[j]? = some v → Value.okWide Try.prog W .any base t v := hval0
  have hW' := hW
  obtain ⟨p, q, hA0, hV, rfl, hfz, hnd⟩ := hW
  have hA : DataW.TrodAll enc Try.prog W 0 (fun _ => true) true Try.f19.params.toList args.toList ds p := hA0
  rw [Try.params19] at hA hval
  obtain ⟨v0, vs0, d0, ds0, p0, q0, hargs, rfl, rfl, h0, r0⟩ := trodAll_cons hA
  obtain ⟨v1, vs1, d1, ds1, p1, q1, rfl, rfl, rfl, h1, r1⟩ := trodAll_cons r0
  obtain ⟨v2, vs2, d2, ds2, p2, q2, rfl, rfl, rfl, h2, r2⟩ := trodAll_cons r1
  obtain ⟨v3, vs3, d3, ds3, p3, q3, rfl, rfl, rfl, h3, r3⟩ := trodAll_cons r2
  obtain ⟨v4, vs4, d4, ds4, p4, q4, rfl, rfl, rfl, h4, r4⟩ := trodAll_cons r3
  obtain ⟨rfl, rfl, rfl⟩ := trodAll_nil r4
  obtain rfl : args = #[v0, v1, v2, v3, v4] := by cases args; simp_all
  obtain ⟨rfl, rfl⟩ := trodVars_none hV
  have hb : Rows.uptoBulkAll [d0, d1, d2, d3, d4] ≤ 1048576 := of_decide_eq_true (show Rows.uptoSmall H [d0, d1, d2, d3, d4] = true by rw [List.append_nil] at hk; exact hk)
  simp only [Rows.uptoBulkAll, bulk_eq] at hb
  have lt0 : ∀ x ∈ p0, x.block < W.heap.size := by obtain ⟨m, hm⟩ := h0; exact fun x hx => DataW.trod_lt m _ _ _ hm x hx
  obtain ⟨a0, w0, s0, e0⟩ := Rd.arg (rd_u64 Try.underlying25) (int_ok _) Try.underlying25 rfl (hval 0 25 v0 rfl rfl) h0
  have lt1 : ∀ x ∈ p1, x.block < W.heap.size := by obtain ⟨m, hm⟩ := h1; exact fun x hx => DataW.trod_lt m _ _ _ hm x hx
  obtain ⟨a1, w1, s1, e1⟩ := Rd.arg (rd_slice Try.underlying32 byteD_ok (by decide) (by kernel_rfl) (rd_byte Try.underlying5)) slE_ok Try.underlying32 rfl (hval 1 32 v1 rfl rfl) h1
  have lt2 : ∀ x ∈ p2, x.block < W.heap.size := by obtain ⟨m, hm⟩ := h2; exact fun x hx => DataW.trod_lt m _ _ _ hm x hx
  obtain ⟨a2, w2, s2, e2⟩ := Rd.arg (rd_slice Try.underlying32 byteD_ok (by decide) (by kernel_rfl) (rd_byte Try.underlying5)) slE_ok Try.underlying32 rfl (hval 2 32 v2 rfl rfl) h2
  have lt3 : ∀ x ∈ p3, x.block < W.heap.size := by obtain ⟨m, hm⟩ := h3; exact fun x hx => DataW.trod_lt m _ _ _ hm x hx
  obtain ⟨a3, w3, s3, e3⟩ := Rd.arg (rd_i64 Try.underlying3) (int_ok _) Try.underlying3 rfl (hval 3 3 v3 rfl rfl) h3
  have lt4 : ∀ x ∈ p4, x.block < W.heap.size := by obtain ⟨m, hm⟩ := h4; exact fun x hx => DataW.trod_lt m _ _ _ hm x hx
  obtain ⟨a4, w4, s4, e4⟩ := Rd.arg (rd_i64 Try.underlying3) (int_ok _) Try.underlying3 rfl (hval 4 3 v4 rfl rfl) h4
  obtain ⟨k, hk2⟩ := law_FrameBack a0 a1 a2 a3 a4 w0 w1 w2 w3 w4 (by simp only [] at *; omega)
  have hc := F253 (N := num) hmix hc253 hk2
  clear hA0 hval0
  refine (law_calls hc (vs := [v0, v1, v2, v3, v4]) W rfl fun j g1 g2 => ?_).mono fun e W' ⟨he, bel⟩ => ?_
  · match j with
    | 0 => exact .d e0
    | 1 => exact .d e1
    | 2 => exact .d e2
    | 3 => exact .d e3
    | 4 => exact .d e4
  subst he
  exact ⟨_, rfl, _, _, _, [], _, [], hW', trodAll_mk1 (shut_bool Try.underlying4 _), (trodAll_cons_mk (Below.trod laidOut (by kernel_rfl) (of_decide_eq_true (by kernel_rfl)) h0 bel lt0) (trodAll_cons_mk (Below.trod laidOut (by kernel_rfl) (of_decide_eq_true (by kernel_rfl)) h1 bel lt1) (trodAll_cons_mk (Below.trod laidOut (by kernel_rfl) (of_decide_eq_true (by kernel_rfl)) h2 bel lt2) (trodAll_cons_mk (Below.trod laidOut (by kernel_rfl) (of_decide_eq_true (by kernel_rfl)) h3 bel lt3) (trodAll_cons_mk (Below.trod laidOut (by kernel_rfl) (of_decide_eq_true (by kernel_rfl)) h4 bel lt4) trodAll_mk0))))), rfl, bel.frame _, fun h => by cases h⟩
set_option maxRecDepth 100000 in
theorem lifted (os : Os) (started : os.Started) (H : Type) (enc : TypeId × Value → H) (F : Stop.Interp) :
    ReturnsInHanded {} Try.checked os 19 .any ((Rows.OpenSpec.upto Rows.frameBackSpec).pre6 enc Try.prog Try.f19 Rows.frameBackUptoRow.domain false) (((Rows.OpenSpec.upto Rows.frameBackSpec).at F).post enc Try.prog Try.f19 false true false false) := by
  refine returnsInHanded_of_cond (C := Try.checked) (s := Rows.OpenSpec.upto Rows.frameBackSpec) (k := Rows.uptoSmall) rfl own started (by kernel_rfl) Try.func19
    (OpenSpec.witness (enc := enc) (C := Try.checked) (s := Rows.OpenSpec.upto Rows.frameBackSpec) (k := Rows.uptoSmall) rfl false ⟨#[], #[.int .u64 0, .slice none 0 0, .slice none 0 0, .int .i64 0, .int .i64 0], []⟩ 8 (by kernel_rfl) (by kernel_rfl) (by kernel_rfl)
      (x := ([.lit (.int .u64 0), .nil, .nil, .lit (.int .i64 0), .lit (.int .i64 0)], [], [])) (by kernel_rfl) rfl (by kernel_rfl)) ?_
  intro W base args ds gs before hval hW _ hk _
  exact contract H enc W base args ds gs before hval hW hk
theorem over : Rows.frameBackUptoRow.holds Try.pinned (Rows.OpenSpec.upto Rows.frameBackSpec) :=
  OpenClaim.holds_of_cond 19 Try.f19 rfl rfl rfl rfl rfl rfl rfl ⟨rfl, rfl, rfl, rfl, rfl⟩ rfl rfl rfl rfl rfl (by kernel_rfl) Try.func19 (by kernel_rfl)
    (of_decide_eq_true (by kernel_rfl)) (by unfold Func.isWrapper; first | (rw [if_pos (by decide +kernel)]; kernel_rfl) | (rw [if_neg (by decide +kernel)]; exact ⟨rfl, rfl⟩))
    (fun os started H enc _ F => lifted os started H enc F)
end Go.Proofs.Ytgimibhacllcpaa.frameBack
namespace Go.Proofs.Ytgimibhacllcpaa
/-- The row, under a short name, for the claim. -/
theorem frameBack_holds : Rows.FrameBackUptoSaid := frameBack.over
#print axioms frameBack_holds
end Go.Proofs.Ytgimibhacllcpaa
