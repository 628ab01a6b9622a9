/- The law LiveRaw of courantlaw11 says true for every input of a bounded bulk. -/
import Derived.Test.YtgimibhacllcpaaRows
import Derived.Test.YtgimibhacllcpaaGLlrab
import Derived.Test.YtgimibhacllcpaaPLra
import Derived.WalkKit
import Derived.ProofKit
import Derived.OpenShut
import Derived.JoinedCond
import Derived.ChangeOld
import Derived.Below
import Derived.Carry
set_option linter.unusedSimpArgs false
namespace Go.Proofs.Ytgimibhacllcpaa.liveRaw
open Go.ChangeShapes Go.WideShapes Go.ChangeAt Go.RowKit
open Go.Proofs.Abs
set_option linter.unusedVariables false
set_option maxRecDepth 100000
theorem own : ownKnob Try.prog.godebug = none := by kernel_rfl
theorem laidOut : laidOutB Try.prog = true := by kernel_rfl
theorem hmix : Try.prog.follows .mixedOrders = true := by kernel_rfl
def num : Nat → Nat
  | 247 => 16
  | 248 => 54
  | 249 => 84
  | 250 => 87
  | 304 => 107
  | 305 => 114
  | 306 => 106
  | 307 => 56
  | 308 => 57
  | 309 => 88
  | 310 => 108
  | 311 => 115
  | 312 => 55
  | 313 => 85
  | 314 => 86
  | k => k
theorem hf305 : HasF Try.prog (num 305) (C305 num) := ⟨Try.f114, Try.func114, by kernel_rfl, by kernel_rfl, by kernel_rfl⟩
theorem hf304 : HasF Try.prog (num 304) (C304 num) := ⟨Try.f107, Try.func107, by kernel_rfl, by kernel_rfl, by kernel_rfl⟩
theorem hf250 : HasF Try.prog (num 250) (C250 num) := ⟨Try.f87, Try.func87, by kernel_rfl, by kernel_rfl, by kernel_rfl⟩
theorem hf306 : HasF Try.prog (num 306) (C306 num) := ⟨Try.f106, Try.func106, by kernel_rfl, by kernel_rfl, by kernel_rfl⟩
theorem hf249 : HasF Try.prog (num 249) (C249 num) := ⟨Try.f84, Try.func84, by kernel_rfl, by kernel_rfl, by kernel_rfl⟩
theorem hf248 : HasF Try.prog (num 248) (C248 num) := ⟨Try.f54, Try.func54, by kernel_rfl, by kernel_rfl, by kernel_rfl⟩
theorem hf307 : HasF Try.prog (num 307) (C307 num) := ⟨Try.f56, Try.func56, by kernel_rfl, by kernel_rfl, by kernel_rfl⟩
theorem hf311 : HasF Try.prog (num 311) (C311 num) := ⟨Try.f115, Try.func115, by kernel_rfl, by kernel_rfl, by kernel_rfl⟩
theorem hf310 : HasF Try.prog (num 310) (C310 num) := ⟨Try.f108, Try.func108, by kernel_rfl, by kernel_rfl, by kernel_rfl⟩
theorem hf309 : HasF Try.prog (num 309) (C309 num) := ⟨Try.f88, Try.func88, by kernel_rfl, by kernel_rfl, by kernel_rfl⟩
theorem hf308 : HasF Try.prog (num 308) (C308 num) := ⟨Try.f57, Try.func57, by kernel_rfl, by kernel_rfl, by kernel_rfl⟩
theorem hf314 : HasF Try.prog (num 314) (C314 num) := ⟨Try.f86, Try.func86, by kernel_rfl, by kernel_rfl, by kernel_rfl⟩
theorem hf313 : HasF Try.prog (num 313) (C313 num) := ⟨Try.f85, Try.func85, by kernel_rfl, by kernel_rfl, by kernel_rfl⟩
theorem hf312 : HasF Try.prog (num 312) (C312 num) := ⟨Try.f55, Try.func55, by kernel_rfl, by kernel_rfl, by kernel_rfl⟩
theorem hf247 : HasF Try.prog (num 247) (C247 num) := ⟨Try.f16, Try.func16, by kernel_rfl, by kernel_rfl, by kernel_rfl⟩
theorem hc305 : HC305 Try.prog num := hf305
theorem hc304 : HC304 Try.prog num := ⟨hf304, hc305⟩
theorem hc250 : HC250 Try.prog num := ⟨hf250, hc304⟩
theorem hc306 : HC306 Try.prog num := hf306
theorem hc249 : HC249 Try.prog num := ⟨hf249, hc250, hc306⟩
theorem hc248 : HC248 Try.prog num := ⟨hf248, hc249⟩
theorem hc307 : HC307 Try.prog num := ⟨hf307, hc250⟩
theorem hc311 : HC311 Try.prog num := hf311
theorem hc310 : HC310 Try.prog num := ⟨hf310, hc311⟩
theorem hc309 : HC309 Try.prog num := ⟨hf309, hc310⟩
theorem hc308 : HC308 Try.prog num := ⟨hf308, hc309⟩
theorem hc314 : HC314 Try.prog num := hf314
theorem hc313 : HC313 Try.prog num := ⟨hf313, hc314⟩
theorem hc312 : HC312 Try.prog num := ⟨hf312, hc313⟩
theorem hc247 : HC247 Try.prog num := ⟨hf247, hc248, hc307, hc308, hc312⟩
theorem rdTField : Rd Try.prog 94 TField.enc TField.wf TField.sz := rd_struct Try.underlying94 (fun (b : ((List UInt8) × ((List (List UInt8)) × (Int × (Bool × ((List UInt8) × Unit)))))) => TField.mk b.1 b.2.1 b.2.2.1 b.2.2.2.1 b.2.2.2.2.1) (fun _ => rfl) (fun b => (show _ = 5 from rfl).trans (show 5 = Try.prog.cellsOf 94 by kernel_rfl)) (fun _ h => h) (fun _ => Nat.le_refl _) (rdf_cons rfl str_ok (rd_str Try.underlying9) (rdf_cons rfl slE_ok (rd_slice Try.underlying58 str_ok (by decide) (by kernel_rfl) (rd_str Try.underlying9)) (rdf_cons rfl (int_ok _) (rd_i64 Try.underlying3) (rdf_cons rfl bool_ok (rd_bool Try.underlying4) (rdf_cons rfl str_ok (rd_str Try.underlying9) rdf_nil)))))
theorem rdTNode : Rd Try.prog 61 TNode.enc TNode.wf TNode.sz := rd_struct Try.underlying61 (fun (b : (Int × ((List UInt8) × ((List (List UInt8)) × ((List TField) × ((List (List UInt8)) × (Bool × ((List UInt8) × (Int × ((List Int) × (Int × Unit))))))))))) => TNode.mk b.1 b.2.1 b.2.2.1 b.2.2.2.1 b.2.2.2.2.1 b.2.2.2.2.2.1 b.2.2.2.2.2.2.1 b.2.2.2.2.2.2.2.1 b.2.2.2.2.2.2.2.2.1 b.2.2.2.2.2.2.2.2.2.1) (fun _ => rfl) (fun b => (show _ = 10 from rfl).trans (show 10 = Try.prog.cellsOf 61 by kernel_rfl)) (fun _ h => h) (fun _ => Nat.le_refl _) (rdf_cons rfl (int_ok _) (rd_i64 Try.underlying3) (rdf_cons rfl str_ok (rd_str Try.underlying9) (rdf_cons rfl slE_ok (rd_slice Try.underlying58 str_ok (by decide) (by kernel_rfl) (rd_str Try.underlying9)) (rdf_cons rfl slE_ok (rd_slice Try.underlying59 TField.ok (by decide) (by kernel_rfl) rdTField) (rdf_cons rfl slE_ok (rd_slice Try.underlying58 str_ok (by decide) (by kernel_rfl) (rd_str Try.underlying9)) (rdf_cons rfl bool_ok (rd_bool Try.underlying4) (rdf_cons rfl str_ok (rd_str Try.underlying9) (rdf_cons rfl (int_ok _) (rd_i64 Try.underlying3) (rdf_cons rfl slE_ok (rd_slice Try.underlying46 (int_ok _) (by decide) (by kernel_rfl) (rd_i64 Try.underlying3)) (rdf_cons rfl (int_ok _) (rd_i64 Try.underlying3) rdf_nil))))))))))
theorem rdTSchema : Rd Try.prog 55 TSchema.enc TSchema.wf TSchema.sz := rd_struct Try.underlying55 (fun (b : ((List TNode) × Unit)) => TSchema.mk b.1) (fun _ => rfl) (fun b => (show _ = 1 from rfl).trans (show 1 = Try.prog.cellsOf 55 by kernel_rfl)) (fun _ h => h) (fun _ => Nat.le_refl _) (rdf_cons rfl slE_ok (rd_slice Try.underlying53 TNode.ok (by decide) (by kernel_rfl) rdTNode) rdf_nil)
mutual
theorem bulk_eq {H : Type} : ∀ d : DataW H, Rows.uptoBulk d = bulk d
  | .lit l => by cases l <;> simp only [Rows.uptoBulk, bulk]
  | .nil => by simp only [Rows.uptoBulk, bulk]
  | .ptr d => by simp only [Rows.uptoBulk, bulk, bulk_eq d]
  | .slice es sp => by simp only [Rows.uptoBulk, bulk, bulkAll_eq es, bulkAll_eq sp]
  | .agg ps => by simp only [Rows.uptoBulk, bulk, bulkAll_eq ps]
  | .iface _ d => by simp only [Rows.uptoBulk, bulk, bulk_eq d]
  | .map es => by simp only [Rows.uptoBulk, bulk, bulkEntries_eq es]
  | .held _ => by simp only [Rows.uptoBulk, bulk]
theorem bulkAll_eq {H : Type} : ∀ ds : List (DataW H), Rows.uptoBulkAll ds = bulkAll ds
  | [] => by simp only [Rows.uptoBulkAll, bulkAll]
  | d :: r => by simp only [Rows.uptoBulkAll, bulkAll, bulk_eq d, bulkAll_eq r]
theorem bulkEntries_eq {H : Type} : ∀ es : List (Lit × DataW H), Rows.uptoBulkEntries es = bulkEntries es
  | [] => by simp only [Rows.uptoBulkEntries, bulkEntries]
  | x :: r => by simp only [Rows.uptoBulkEntries, bulkEntries, bulkEntry_eq x, bulkEntries_eq r]
theorem bulkEntry_eq {H : Type} : ∀ x : Lit × DataW H, Rows.uptoBulkEntry x = bulkEntry x
  | (l, d) => by cases l <;> simp only [Rows.uptoBulkEntry, bulkEntry, bulk_eq d]
end
theorem contract (H : Type) (enc : TypeId × Value → H) (W : World) (base : Nat) (args : Array Value) (ds gs : List (DataW H)) (before : List MemPlace)
    (hval0 : ∀ (j : Nat) t v, Try.f16.params[j]? = some t → args[j]? = some v → Value.okWide Try.prog W .any base t v)
    (hW : DataW.Whole enc Try.prog Try.f16.params.toList Rows.liveRawSpec.vars false W args.toList ds gs before) (hk : Rows.uptoSmall H (ds ++ gs) = true) :
    Calls Try.prog 16 args W fun e W' => ∃ v, e = .returned v ∧ Rows.liveRawSpec.post enc Try.prog Try.f16 false true false false W args v W' := by
  have hval : ∀ (j : Nat) t v, Try.f16.params[j]? = some t → args[j]? = some v → Value.okWide Try.prog W .any base t v := hval0
  have hW' := hW
  obtain ⟨p, q, hA0, hV, rfl, hfz, hnd⟩ := hW
  have hA : DataW.TrodAll enc Try.prog W 0 (fun _ => true) true Try.f16.params.toList args.toList ds p := hA0
  rw [Try.params16] at hA hval
  obtain ⟨v0, vs0, d0, ds0, p0, q0, hargs, rfl, rfl, h0, r0⟩ := trodAll_cons hA
  obtain ⟨rfl, rfl, rfl⟩ := trodAll_nil r0
  obtain rfl : args = #[v0] := by cases args; simp_all
  obtain ⟨rfl, rfl⟩ := trodVars_none hV
  have hb : Rows.uptoBulkAll [d0] ≤ 1048576 := of_decide_eq_true (show Rows.uptoSmall H [d0] = true by rw [List.append_nil] at hk; exact hk)
  simp only [Rows.uptoBulkAll, bulk_eq] at hb
  have lt0 : ∀ x ∈ p0, x.block < W.heap.size := by obtain ⟨m, hm⟩ := h0; exact fun x hx => DataW.trod_lt m _ _ _ hm x hx
  obtain ⟨a0, w0, s0, e0⟩ := Rd.arg rdTSchema TSchema.ok Try.underlying55 rfl (hval 0 55 v0 rfl rfl) h0
  obtain ⟨k, hk2⟩ := law_LiveRaw a0 w0 (by simp only [] at *; omega)
  have hc := F247 (N := num) hmix hc247 hk2
  clear hA0 hval0
  refine (law_calls hc (vs := [v0]) W rfl fun j g1 g2 => ?_).mono fun e W' ⟨he, bel⟩ => ?_
  · match j with
    | 0 => exact .d e0
  subst he
  exact ⟨_, rfl, _, _, _, [], _, [], hW', trodAll_mk1 (shut_bool Try.underlying4 _), (trodAll_cons_mk (Below.trod laidOut (by kernel_rfl) (of_decide_eq_true (by kernel_rfl)) h0 bel lt0) trodAll_mk0), rfl, bel.frame _, fun h => by cases h⟩
set_option maxRecDepth 100000 in
theorem lifted (os : Os) (started : os.Started) (H : Type) (enc : TypeId × Value → H) (F : Stop.Interp) :
    ReturnsInHanded {} Try.checked os 16 .any ((Rows.OpenSpec.upto Rows.liveRawSpec).pre6 enc Try.prog Try.f16 Rows.liveRawUptoRow.domain false) (((Rows.OpenSpec.upto Rows.liveRawSpec).at F).post enc Try.prog Try.f16 false true false false) := by
  refine returnsInHanded_of_cond (C := Try.checked) (s := Rows.OpenSpec.upto Rows.liveRawSpec) (k := Rows.uptoSmall) rfl own started (by kernel_rfl) Try.func16
    (OpenSpec.witness (enc := enc) (C := Try.checked) (s := Rows.OpenSpec.upto Rows.liveRawSpec) (k := Rows.uptoSmall) rfl false ⟨#[], #[.agg #[.slice none 0 0]], []⟩ 8 (by kernel_rfl) (by kernel_rfl) (by kernel_rfl)
      (x := ([.agg [.nil]], [], [])) (by kernel_rfl) rfl (by kernel_rfl)) ?_
  intro W base args ds gs before hval hW _ hk _
  exact contract H enc W base args ds gs before hval hW hk
theorem over : Rows.liveRawUptoRow.holds Try.pinned (Rows.OpenSpec.upto Rows.liveRawSpec) :=
  OpenClaim.holds_of_cond 16 Try.f16 rfl rfl rfl rfl rfl rfl rfl ⟨rfl, rfl, rfl, rfl, rfl⟩ rfl rfl rfl rfl rfl (by kernel_rfl) Try.func16 (by kernel_rfl)
    (of_decide_eq_true (by kernel_rfl)) (by unfold Func.isWrapper; first | (rw [if_pos (by decide +kernel)]; kernel_rfl) | (rw [if_neg (by decide +kernel)]; exact ⟨rfl, rfl⟩))
    (fun os started H enc _ F => lifted os started H enc F)
end Go.Proofs.Ytgimibhacllcpaa.liveRaw
namespace Go.Proofs.Ytgimibhacllcpaa
/-- The row, under a short name, for the claim. -/
theorem liveRaw_holds : Rows.LiveRawUptoSaid := liveRaw.over
#print axioms liveRaw_holds
end Go.Proofs.Ytgimibhacllcpaa
