/- The law SegmentMade of courantlaw20 says true for every input of a bounded bulk. -/
import Derived.Test.YtgimibhacllcpaaRows
import Derived.Test.YtgimibhacllcpaaGSgm
import Derived.Test.YtgimibhacllcpaaPSem
import Derived.WalkKit
import Derived.ProofKit
import Derived.OpenShut
import Derived.JoinedCond
import Derived.ChangeOld
import Derived.Below
import Derived.Carry
set_option linter.unusedSimpArgs false
namespace Go.Proofs.Ytgimibhacllcpaa.segmentMade
open Go.ChangeShapes Go.WideShapes Go.ChangeAt Go.RowKit
open Go.Proofs.Abs
set_option linter.unusedVariables false
set_option maxRecDepth 100000
theorem own : ownKnob Try.prog.godebug = none := by kernel_rfl
theorem laidOut : laidOutB Try.prog = true := by kernel_rfl
theorem hmix : Try.prog.follows .mixedOrders = true := by kernel_rfl
def num : Nat → Nat
  | 22 => 42
  | 87 => 90
  | 97 => 35
  | 244 => 14
  | 245 => 48
  | 263 => 30
  | 264 => 32
  | 265 => 72
  | 266 => 73
  | 267 => 100
  | 268 => 31
  | 269 => 33
  | 270 => 41
  | 271 => 77
  | 272 => 49
  | 273 => 80
  | 274 => 63
  | 275 => 89
  | k => k
theorem hf271 : HasF Try.prog (num 271) (C271 num) := ⟨Try.f77, Try.func77, by kernel_rfl, by kernel_rfl, by kernel_rfl⟩
theorem hf269 : HasF Try.prog (num 269) (C269 num) := ⟨Try.f33, Try.func33, by kernel_rfl, by kernel_rfl, by kernel_rfl⟩
theorem hf268 : HasF Try.prog (num 268) (C268 num) := ⟨Try.f31, Try.func31, by kernel_rfl, by kernel_rfl, by kernel_rfl⟩
theorem hf270 : HasF Try.prog (num 270) (C270 num) := ⟨Try.f41, Try.func41, by kernel_rfl, by kernel_rfl, by kernel_rfl⟩
theorem hf275 : HasF Try.prog (num 275) (C275 num) := ⟨Try.f89, Try.func89, by kernel_rfl, by kernel_rfl, by kernel_rfl⟩
theorem hf265 : HasF Try.prog (num 265) (C265 num) := ⟨Try.f72, Try.func72, by kernel_rfl, by kernel_rfl, by kernel_rfl⟩
theorem hf266 : HasF Try.prog (num 266) (C266 num) := ⟨Try.f73, Try.func73, by kernel_rfl, by kernel_rfl, by kernel_rfl⟩
theorem hf267 : HasF Try.prog (num 267) (C267 num) := ⟨Try.f100, Try.func100, by kernel_rfl, by kernel_rfl, by kernel_rfl⟩
theorem hf264 : HasF Try.prog (num 264) (C264 num) := ⟨Try.f32, Try.func32, by kernel_rfl, by kernel_rfl, by kernel_rfl⟩
theorem hf263 : HasF Try.prog (num 263) (C263 num) := ⟨Try.f30, Try.func30, by kernel_rfl, by kernel_rfl, by kernel_rfl⟩
theorem hf87 : HasF Try.prog (num 87) (C87 num) := ⟨Try.f90, Try.func90, by kernel_rfl, by kernel_rfl, by kernel_rfl⟩
theorem hf274 : HasF Try.prog (num 274) (C274 num) := ⟨Try.f63, Try.func63, by kernel_rfl, by kernel_rfl, by kernel_rfl⟩
theorem hf273 : HasF Try.prog (num 273) (C273 num) := ⟨Try.f80, Try.func80, by kernel_rfl, by kernel_rfl, by kernel_rfl⟩
theorem hf272 : HasF Try.prog (num 272) (C272 num) := ⟨Try.f49, Try.func49, by kernel_rfl, by kernel_rfl, by kernel_rfl⟩
theorem hf245 : HasF Try.prog (num 245) (C245 num) := ⟨Try.f48, Try.func48, by kernel_rfl, by kernel_rfl, by kernel_rfl⟩
theorem hf97 : HasF Try.prog (num 97) (C97 num) := ⟨Try.f35, Try.func35, by kernel_rfl, by kernel_rfl, by kernel_rfl⟩
theorem hf22 : HasF Try.prog (num 22) (C22 num) := ⟨Try.f42, Try.func42, by kernel_rfl, by kernel_rfl, by kernel_rfl⟩
theorem hf244 : HasF Try.prog (num 244) (C244 num) := ⟨Try.f14, Try.func14, by kernel_rfl, by kernel_rfl, by kernel_rfl⟩
theorem hc271 : HC271 Try.prog num := hf271
theorem hc269 : HC269 Try.prog num := hf269
theorem hc268 : HC268 Try.prog num := ⟨hf268, hc269⟩
theorem hc270 : HC270 Try.prog num := ⟨hf270, hc271, hc268⟩
theorem hc275 : HC275 Try.prog num := hf275
theorem hc265 : HC265 Try.prog num := hf265
theorem hc266 : HC266 Try.prog num := hf266
theorem hcb264_25 : HCb264_25 Try.prog num := trivial
theorem hc267 : HC267 Try.prog num := ⟨hf267, hcb264_25⟩
theorem hc264 : HC264 Try.prog num := ⟨hf264, hc265, hc266, hc267⟩
theorem hc263 : HC263 Try.prog num := ⟨hf263, hc264⟩
theorem hc87 : HC87 Try.prog num := hf87
theorem hc274 : HC274 Try.prog num := ⟨hf274, hc275, hc263, hc87⟩
theorem hc273 : HC273 Try.prog num := ⟨hf273, hc274⟩
theorem hc272 : HC272 Try.prog num := ⟨hf272, hc273⟩
theorem hc245 : HC245 Try.prog num := ⟨hf245, hc270, hc272⟩
theorem hc97 : HC97 Try.prog num := hf97
theorem hc22 : HC22 Try.prog num := hf22
theorem hc244 : HC244 Try.prog num := ⟨hf244, hc245, hc270, hc97, hc272, hc22⟩
mutual
theorem bulk_eq {H : Type} : ∀ d : DataW H, Rows.uptoBulk d = bulk d
  | .lit l => by cases l <;> simp only [Rows.uptoBulk, bulk]
  | .nil => by simp only [Rows.uptoBulk, bulk]
  | .ptr d => by simp only [Rows.uptoBulk, bulk, bulk_eq d]
  | .slice es sp => by simp only [Rows.uptoBulk, bulk, bulkAll_eq es, bulkAll_eq sp]
  | .agg ps => by simp only [Rows.uptoBulk, bulk, bulkAll_eq ps]
  | .iface _ d => by simp only [Rows.uptoBulk, bulk, bulk_eq d]
  | .map es => by simp only [Rows.uptoBulk, bulk, bulkEntries_eq es]
  | .held _ => by simp only [Rows.uptoBulk, bulk]
theorem bulkAll_eq {H : Type} : ∀ ds : List (DataW H), Rows.uptoBulkAll ds = bulkAll ds
  | [] => by simp only [Rows.uptoBulkAll, bulkAll]
  | d :: r => by simp only [Rows.uptoBulkAll, bulkAll, bulk_eq d, bulkAll_eq r]
theorem bulkEntries_eq {H : Type} : ∀ es : List (Lit × DataW H), Rows.uptoBulkEntries es = bulkEntries es
  | [] => by simp only [Rows.uptoBulkEntries, bulkEntries]
  | x :: r => by simp only [Rows.uptoBulkEntries, bulkEntries, bulkEntry_eq x, bulkEntries_eq r]
theorem bulkEntry_eq {H : Type} : ∀ x : Lit × DataW H, Rows.uptoBulkEntry x = bulkEntry x
  | (l, d) => by cases l <;> simp only [Rows.uptoBulkEntry, bulkEntry, bulk_eq d]
end
theorem contract (H : Type) (enc : TypeId × Value → H) (W : World) (base : Nat) (args : Array Value) (ds gs : List (DataW H)) (before : List MemPlace)
    (hval0 : ∀ (j : Nat) t v, Try.f14.params[j]? = some t → args[j]? = some v → Value.okWide Try.prog W .any base t v)
    (hW : DataW.Whole enc Try.prog Try.f14.params.toList Rows.segmentMadeSpec.vars false W args.toList ds gs before) (hk : Rows.uptoSmall H (ds ++ gs) = true) :
    Calls Try.prog 14 args W fun e W' => ∃ v, e = .returned v ∧ Rows.segmentMadeSpec.post enc Try.prog Try.f14 false true false false W args v W' := by
  have hval : ∀ (j : Nat) t v, Try.f14.params[j]? = some t → args[j]? = some v → Value.okWide Try.prog W .any base t v := hval0
  have hW' := hW
  obtain ⟨p, q, hA0, hV, rfl, hfz, hnd⟩ := hW
  have hA : DataW.TrodAll enc Try.prog W 0 (fun _ => true) true Try.f14.params.toList args.toList ds p := hA0
  rw [Try.params14] at hA hval
  obtain ⟨v0, vs0, d0, ds0, p0, q0, hargs, rfl, rfl, h0, r0⟩ := trodAll_cons hA
  obtain ⟨v1, vs1, d1, ds1, p1, q1, rfl, rfl, rfl, h1, r1⟩ := trodAll_cons r0
  obtain ⟨v2, vs2, d2, ds2, p2, q2, rfl, rfl, rfl, h2, r2⟩ := trodAll_cons r1
  obtain ⟨v3, vs3, d3, ds3, p3, q3, rfl, rfl, rfl, h3, r3⟩ := trodAll_cons r2
  obtain ⟨rfl, rfl, rfl⟩ := trodAll_nil r3
  obtain rfl : args = #[v0, v1, v2, v3] := by cases args; simp_all
  obtain ⟨rfl, rfl⟩ := trodVars_none hV
  have hb : Rows.uptoBulkAll [d0, d1, d2, d3] ≤ 1048576 := of_decide_eq_true (show Rows.uptoSmall H [d0, d1, d2, d3] = true by rw [List.append_nil] at hk; exact hk)
  simp only [Rows.uptoBulkAll, bulk_eq] at hb
  have lt0 : ∀ x ∈ p0, x.block < W.heap.size := by obtain ⟨m, hm⟩ := h0; exact fun x hx => DataW.trod_lt m _ _ _ hm x hx
  obtain ⟨a0, w0, s0, e0⟩ := Rd.arg (rd_slice Try.underlying66 slE_ok (by decide) (by kernel_rfl) (rd_slice Try.underlying32 byteD_ok (by decide) (by kernel_rfl) (rd_byte Try.underlying5))) slE_ok Try.underlying66 rfl (hval 0 66 v0 rfl rfl) h0
  have lt1 : ∀ x ∈ p1, x.block < W.heap.size := by obtain ⟨m, hm⟩ := h1; exact fun x hx => DataW.trod_lt m _ _ _ hm x hx
  obtain ⟨a1, w1, s1, e1⟩ := Rd.arg (rd_u64 Try.underlying25) (int_ok _) Try.underlying25 rfl (hval 1 25 v1 rfl rfl) h1
  have lt2 : ∀ x ∈ p2, x.block < W.heap.size := by obtain ⟨m, hm⟩ := h2; exact fun x hx => DataW.trod_lt m _ _ _ hm x hx
  obtain ⟨a2, w2, s2, e2⟩ := Rd.arg (rd_slice Try.underlying32 byteD_ok (by decide) (by kernel_rfl) (rd_byte Try.underlying5)) slE_ok Try.underlying32 rfl (hval 2 32 v2 rfl rfl) h2
  have lt3 : ∀ x ∈ p3, x.block < W.heap.size := by obtain ⟨m, hm⟩ := h3; exact fun x hx => DataW.trod_lt m _ _ _ hm x hx
  obtain ⟨a3, w3, s3, e3⟩ := Rd.arg (rd_i64 Try.underlying3) (int_ok _) Try.underlying3 rfl (hval 3 3 v3 rfl rfl) h3
  obtain ⟨k, hk2⟩ := law_SegmentMade a0 a1 a2 a3 w0 w1 w2 w3 (by simp only [] at *; omega)
  have hc := F244 (N := num) hmix hc244 hk2
  clear hA0 hval0
  refine (law_calls hc (vs := [v0, v1, v2, v3]) W rfl fun j g1 g2 => ?_).mono fun e W' ⟨he, bel⟩ => ?_
  · match j with
    | 0 => exact .d e0
    | 1 => exact .d e1
    | 2 => exact .d e2
    | 3 => exact .d e3
  subst he
  exact ⟨_, rfl, _, _, _, [], _, [], hW', trodAll_mk1 (shut_bool Try.underlying4 _), (trodAll_cons_mk (Below.trod laidOut (by kernel_rfl) (of_decide_eq_true (by kernel_rfl)) h0 bel lt0) (trodAll_cons_mk (Below.trod laidOut (by kernel_rfl) (of_decide_eq_true (by kernel_rfl)) h1 bel lt1) (trodAll_cons_mk (Below.trod laidOut (by kernel_rfl) (of_decide_eq_true (by kernel_rfl)) h2 bel lt2) (trodAll_cons_mk (Below.trod laidOut (by kernel_rfl) (of_decide_eq_true (by kernel_rfl)) h3 bel lt3) trodAll_mk0)))), rfl, bel.frame _, fun h => by cases h⟩
set_option maxRecDepth 100000 in
theorem lifted (os : Os) (started : os.Started) (H : Type) (enc : TypeId × Value → H) (F : Stop.Interp) :
    ReturnsInHanded {} Try.checked os 14 .any ((Rows.OpenSpec.upto Rows.segmentMadeSpec).pre6 enc Try.prog Try.f14 Rows.segmentMadeUptoRow.domain false) (((Rows.OpenSpec.upto Rows.segmentMadeSpec).at F).post enc Try.prog Try.f14 false true false false) := by
  refine returnsInHanded_of_cond (C := Try.checked) (s := Rows.OpenSpec.upto Rows.segmentMadeSpec) (k := Rows.uptoSmall) rfl own started (by kernel_rfl) Try.func14
    (OpenSpec.witness (enc := enc) (C := Try.checked) (s := Rows.OpenSpec.upto Rows.segmentMadeSpec) (k := Rows.uptoSmall) rfl false ⟨#[], #[.slice none 0 0, .int .u64 0, .slice none 0 0, .int .i64 0], []⟩ 8 (by kernel_rfl) (by kernel_rfl) (by kernel_rfl)
      (x := ([.nil, .lit (.int .u64 0), .nil, .lit (.int .i64 0)], [], [])) (by kernel_rfl) rfl (by kernel_rfl)) ?_
  intro W base args ds gs before hval hW _ hk _
  exact contract H enc W base args ds gs before hval hW hk
theorem over : Rows.segmentMadeUptoRow.holds Try.pinned (Rows.OpenSpec.upto Rows.segmentMadeSpec) :=
  OpenClaim.holds_of_cond 14 Try.f14 rfl rfl rfl rfl rfl rfl rfl ⟨rfl, rfl, rfl, rfl, rfl⟩ rfl rfl rfl rfl rfl (by kernel_rfl) Try.func14 (by kernel_rfl)
    (of_decide_eq_true (by kernel_rfl)) (by unfold Func.isWrapper; first | (rw [if_pos (by decide +kernel)]; kernel_rfl) | (rw [if_neg (by decide +kernel)]; exact ⟨rfl, rfl⟩))
    (fun os started H enc _ F => lifted os started H enc F)
end Go.Proofs.Ytgimibhacllcpaa.segmentMade
namespace Go.Proofs.Ytgimibhacllcpaa
/-- The row, under a short name, for the claim. -/
theorem segmentMade_holds : Rows.SegmentMadeUptoSaid := segmentMade.over
#print axioms segmentMade_holds
end Go.Proofs.Ytgimibhacllcpaa
