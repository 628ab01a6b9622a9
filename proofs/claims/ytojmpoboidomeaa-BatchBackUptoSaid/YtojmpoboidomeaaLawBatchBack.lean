/- The law BatchBack of courantlaw24 says true for every input of a bounded bulk. -/
import Derived.Test.YtojmpoboidomeaaRows
import Derived.Test.YtojmpoboidomeaaGBab
import Derived.Test.YtojmpoboidomeaaPBac
import Derived.WalkKit
import Derived.ProofKit
import Derived.OpenShut
import Derived.JoinedCond
import Derived.ChangeOld
import Derived.Below
import Derived.Carry
set_option linter.unusedSimpArgs false
namespace Go.Proofs.Ytojmpoboidomeaa.batchBack
open Go.ChangeShapes Go.WideShapes Go.ChangeAt Go.RowKit
open Go.Proofs.Abs
set_option linter.unusedVariables false
set_option maxRecDepth 100000
theorem own : ownKnob Try.prog.godebug = none := by kernel_rfl
theorem laidOut : laidOutB Try.prog = true := by kernel_rfl
theorem hmix : Try.prog.follows .mixedOrders = true := by kernel_rfl
def num : Nat → Nat
  | 12 => 12
  | 22 => 22
  | 23 => 23
  | 25 => 25
  | 27 => 27
  | 30 => 30
  | 31 => 31
  | 32 => 32
  | 33 => 33
  | 38 => 38
  | 39 => 39
  | 40 => 40
  | 41 => 41
  | 42 => 42
  | 43 => 43
  | 52 => 52
  | 54 => 54
  | 82 => 82
  | 84 => 84
  | 85 => 85
  | 88 => 88
  | 91 => 91
  | 111 => 111
  | k => k
theorem hf23 : HasF Try.prog (num 23) (C23 num) := ⟨Try.f23, Try.func23, by kernel_rfl, by kernel_rfl, by kernel_rfl⟩
theorem hf82 : HasF Try.prog (num 82) (C82 num) := ⟨Try.f82, Try.func82, by kernel_rfl, by kernel_rfl, by kernel_rfl⟩
theorem hf25 : HasF Try.prog (num 25) (C25 num) := ⟨Try.f25, Try.func25, by kernel_rfl, by kernel_rfl, by kernel_rfl⟩
theorem hf27 : HasF Try.prog (num 27) (C27 num) := ⟨Try.f27, Try.func27, by kernel_rfl, by kernel_rfl, by kernel_rfl⟩
theorem hf111 : HasF Try.prog (num 111) (C111 num) := ⟨Try.f111, Try.func111, by kernel_rfl, by kernel_rfl, by kernel_rfl⟩
theorem hf91 : HasF Try.prog (num 91) (C91 num) := ⟨Try.f91, Try.func91, by kernel_rfl, by kernel_rfl, by kernel_rfl⟩
theorem hf54 : HasF Try.prog (num 54) (C54 num) := ⟨Try.f54, Try.func54, by kernel_rfl, by kernel_rfl, by kernel_rfl⟩
theorem hf33 : HasF Try.prog (num 33) (C33 num) := ⟨Try.f33, Try.func33, by kernel_rfl, by kernel_rfl, by kernel_rfl⟩
theorem hf30 : HasF Try.prog (num 30) (C30 num) := ⟨Try.f30, Try.func30, by kernel_rfl, by kernel_rfl, by kernel_rfl⟩
theorem hf84 : HasF Try.prog (num 84) (C84 num) := ⟨Try.f84, Try.func84, by kernel_rfl, by kernel_rfl, by kernel_rfl⟩
theorem hf85 : HasF Try.prog (num 85) (C85 num) := ⟨Try.f85, Try.func85, by kernel_rfl, by kernel_rfl, by kernel_rfl⟩
theorem hf39 : HasF Try.prog (num 39) (C39 num) := ⟨Try.f39, Try.func39, by kernel_rfl, by kernel_rfl, by kernel_rfl⟩
theorem hf88 : HasF Try.prog (num 88) (C88 num) := ⟨Try.f88, Try.func88, by kernel_rfl, by kernel_rfl, by kernel_rfl⟩
theorem hf40 : HasF Try.prog (num 40) (C40 num) := ⟨Try.f40, Try.func40, by kernel_rfl, by kernel_rfl, by kernel_rfl⟩
theorem hf32 : HasF Try.prog (num 32) (C32 num) := ⟨Try.f32, Try.func32, by kernel_rfl, by kernel_rfl, by kernel_rfl⟩
theorem hf41 : HasF Try.prog (num 41) (C41 num) := ⟨Try.f41, Try.func41, by kernel_rfl, by kernel_rfl, by kernel_rfl⟩
theorem hf31 : HasF Try.prog (num 31) (C31 num) := ⟨Try.f31, Try.func31, by kernel_rfl, by kernel_rfl, by kernel_rfl⟩
theorem hf42 : HasF Try.prog (num 42) (C42 num) := ⟨Try.f42, Try.func42, by kernel_rfl, by kernel_rfl, by kernel_rfl⟩
theorem hf43 : HasF Try.prog (num 43) (C43 num) := ⟨Try.f43, Try.func43, by kernel_rfl, by kernel_rfl, by kernel_rfl⟩
theorem hf52 : HasF Try.prog (num 52) (C52 num) := ⟨Try.f52, Try.func52, by kernel_rfl, by kernel_rfl, by kernel_rfl⟩
theorem hf22 : HasF Try.prog (num 22) (C22 num) := ⟨Try.f22, Try.func22, by kernel_rfl, by kernel_rfl, by kernel_rfl⟩
theorem hf38 : HasF Try.prog (num 38) (C38 num) := ⟨Try.f38, Try.func38, by kernel_rfl, by kernel_rfl, by kernel_rfl⟩
theorem hf12 : HasF Try.prog (num 12) (C12 num) := ⟨Try.f12, Try.func12, by kernel_rfl, by kernel_rfl, by kernel_rfl⟩
theorem hc23 : HC23 Try.prog num := hf23
theorem hc82 : HC82 Try.prog num := hf82
theorem hc25 : HC25 Try.prog num := ⟨hf25, hc82, hc23⟩
theorem hc27 : HC27 Try.prog num := ⟨hf27, hc25⟩
theorem hc111 : HC111 Try.prog num := hf111
theorem hc91 : HC91 Try.prog num := ⟨hf91, hc111⟩
theorem hc54 : HC54 Try.prog num := ⟨hf54, hc23, hc25, hc27, hc91⟩
theorem hc33 : HC33 Try.prog num := ⟨hf33, hc54⟩
theorem hc30 : HC30 Try.prog num := hf30
theorem hc84 : HC84 Try.prog num := hf84
theorem hc85 : HC85 Try.prog num := hf85
theorem hc39 : HC39 Try.prog num := ⟨hf39, hc84, hc85⟩
theorem hc88 : HC88 Try.prog num := hf88
theorem hc40 : HC40 Try.prog num := ⟨hf40, hc39, hc88⟩
theorem hc32 : HC32 Try.prog num := hf32
theorem hc41 : HC41 Try.prog num := ⟨hf41, hc84, hc32, hc85⟩
theorem hc31 : HC31 Try.prog num := ⟨hf31, hc84, hc40, hc85, hc41⟩
theorem hc42 : HC42 Try.prog num := hf42
theorem hc43 : HC43 Try.prog num := ⟨hf43, hc42, hc32⟩
theorem hc52 : HC52 Try.prog num := ⟨hf52, hc30, hc39, hc40, hc31, hc43⟩
theorem hc22 : HC22 Try.prog num := hf22
theorem hc38 : HC38 Try.prog num := ⟨hf38, hc22⟩
theorem hc12 : HC12 Try.prog num := ⟨hf12, hc33, hc54, hc52, hc38⟩
theorem rdTMessage : Rd Try.prog 41 TMessage.enc TMessage.wf TMessage.sz := rd_struct Try.underlying41 (fun (b : (Int × (Int × (Int × (Int × ((List UInt8) × Unit)))))) => TMessage.mk b.1 b.2.1 b.2.2.1 b.2.2.2.1 b.2.2.2.2.1) (fun _ => rfl) (fun b => (show _ = 5 from rfl).trans (show 5 = Try.prog.cellsOf 41 by kernel_rfl)) (fun _ h => h) (fun _ => Nat.le_refl _) (rdf_cons rfl (int_ok _) (rd_u64 Try.underlying22) (rdf_cons rfl (int_ok _) (rd_u64 Try.underlying22) (rdf_cons rfl (int_ok _) (rd_u64 Try.underlying22) (rdf_cons rfl (int_ok _) (rd_i64 Try.underlying3) (rdf_cons rfl slE_ok (rd_slice Try.underlying23 byteD_ok (by decide) (by kernel_rfl) (rd_byte Try.underlying5)) rdf_nil)))))
mutual
theorem bulk_eq {H : Type} : ∀ d : DataW H, Rows.uptoBulk d = bulk d
  | .lit l => by cases l <;> simp only [Rows.uptoBulk, bulk]
  | .nil => by simp only [Rows.uptoBulk, bulk]
  | .ptr d => by simp only [Rows.uptoBulk, bulk, bulk_eq d]
  | .slice es sp => by simp only [Rows.uptoBulk, bulk, bulkAll_eq es, bulkAll_eq sp]
  | .agg ps => by simp only [Rows.uptoBulk, bulk, bulkAll_eq ps]
  | .iface _ d => by simp only [Rows.uptoBulk, bulk, bulk_eq d]
  | .map es => by simp only [Rows.uptoBulk, bulk, bulkEntries_eq es]
  | .held _ => by simp only [Rows.uptoBulk, bulk]
theorem bulkAll_eq {H : Type} : ∀ ds : List (DataW H), Rows.uptoBulkAll ds = bulkAll ds
  | [] => by simp only [Rows.uptoBulkAll, bulkAll]
  | d :: r => by simp only [Rows.uptoBulkAll, bulkAll, bulk_eq d, bulkAll_eq r]
theorem bulkEntries_eq {H : Type} : ∀ es : List (Lit × DataW H), Rows.uptoBulkEntries es = bulkEntries es
  | [] => by simp only [Rows.uptoBulkEntries, bulkEntries]
  | x :: r => by simp only [Rows.uptoBulkEntries, bulkEntries, bulkEntry_eq x, bulkEntries_eq r]
theorem bulkEntry_eq {H : Type} : ∀ x : Lit × DataW H, Rows.uptoBulkEntry x = bulkEntry x
  | (l, d) => by cases l <;> simp only [Rows.uptoBulkEntry, bulkEntry, bulk_eq d]
end
theorem contract (H : Type) (enc : TypeId × Value → H) (W : World) (base : Nat) (args : Array Value) (ds gs : List (DataW H)) (before : List MemPlace)
    (hval0 : ∀ (j : Nat) t v, Try.f12.params[j]? = some t → args[j]? = some v → Value.okWide Try.prog W .any base t v)
    (hW : DataW.Whole enc Try.prog Try.f12.params.toList Rows.batchBackSpec.vars false W args.toList ds gs before) (hk : Rows.uptoSmall H (ds ++ gs) = true) :
    Calls Try.prog 12 args W fun e W' => ∃ v, e = .returned v ∧ Rows.batchBackSpec.post enc Try.prog Try.f12 false true false false W args v W' := by
  have hval : ∀ (j : Nat) t v, Try.f12.params[j]? = some t → args[j]? = some v → Value.okWide Try.prog W .any base t v := hval0
  have hW' := hW
  obtain ⟨p, q, hA0, hV, rfl, hfz, hnd⟩ := hW
  have hA : DataW.TrodAll enc Try.prog W 0 (fun _ => true) true Try.f12.params.toList args.toList ds p := hA0
  rw [Try.params12] at hA hval
  obtain ⟨v0, vs0, d0, ds0, p0, q0, hargs, rfl, rfl, h0, r0⟩ := trodAll_cons hA
  obtain ⟨rfl, rfl, rfl⟩ := trodAll_nil r0
  obtain rfl : args = #[v0] := by cases args; simp_all
  obtain ⟨rfl, rfl⟩ := trodVars_none hV
  have hb : Rows.uptoBulkAll [d0] ≤ 1048576 := of_decide_eq_true (show Rows.uptoSmall H [d0] = true by rw [List.append_nil] at hk; exact hk)
  simp only [Rows.uptoBulkAll, bulk_eq] at hb
  have lt0 : ∀ x ∈ p0, x.block < W.heap.size := by obtain ⟨m, hm⟩ := h0; exact fun x hx => DataW.trod_lt m _ _ _ hm x hx
  obtain ⟨a0, w0, s0, e0⟩ := Rd.arg rdTMessage TMessage.ok Try.underlying41 rfl (hval 0 41 v0 rfl rfl) h0
  obtain ⟨k, hk2⟩ := law_BatchBack a0 w0 (by simp only [] at *; omega)
  have hc := F12 (N := num) hmix hc12 hk2
  clear hA0 hval0
  refine (law_calls hc (vs := [v0]) W rfl fun j g1 g2 => ?_).mono fun e W' ⟨he, bel⟩ => ?_
  · match j with
    | 0 => exact .d e0
  subst he
  exact ⟨_, rfl, _, _, _, [], _, [], hW', trodAll_mk1 (shut_bool Try.underlying4 _), (trodAll_cons_mk (Below.trod laidOut (by kernel_rfl) (of_decide_eq_true (by kernel_rfl)) h0 bel lt0) trodAll_mk0), rfl, bel.frame _, fun h => by cases h⟩
set_option maxRecDepth 100000 in
theorem lifted (os : Os) (started : os.Started) (H : Type) (enc : TypeId × Value → H) (F : Stop.Interp) :
    ReturnsInHanded {} Try.checked os 12 .any ((Rows.OpenSpec.upto Rows.batchBackSpec).pre6 enc Try.prog Try.f12 Rows.batchBackUptoRow.domain false) (((Rows.OpenSpec.upto Rows.batchBackSpec).at F).post enc Try.prog Try.f12 false true false false) := by
  refine returnsInHanded_of_cond (C := Try.checked) (s := Rows.OpenSpec.upto Rows.batchBackSpec) (k := Rows.uptoSmall) rfl own started (by kernel_rfl) Try.func12
    (OpenSpec.witness (enc := enc) (C := Try.checked) (s := Rows.OpenSpec.upto Rows.batchBackSpec) (k := Rows.uptoSmall) rfl false ⟨#[], #[.agg #[.int .u64 0, .int .u64 0, .int .u64 0, .int .i64 0, .slice none 0 0]], []⟩ 8 (by kernel_rfl) (by kernel_rfl) (by kernel_rfl)
      (x := ([.agg [.lit (.int .u64 0), .lit (.int .u64 0), .lit (.int .u64 0), .lit (.int .i64 0), .nil]], [], [])) (by kernel_rfl) rfl (by kernel_rfl)) ?_
  intro W base args ds gs before hval hW _ hk _
  exact contract H enc W base args ds gs before hval hW hk
theorem over : Rows.batchBackUptoRow.holds Try.pinned (Rows.OpenSpec.upto Rows.batchBackSpec) :=
  OpenClaim.holds_of_cond 12 Try.f12 rfl rfl rfl rfl rfl rfl rfl ⟨rfl, rfl, rfl, rfl, rfl⟩ rfl rfl rfl rfl rfl (by kernel_rfl) Try.func12 (by kernel_rfl)
    (of_decide_eq_true (by kernel_rfl)) (by unfold Func.isWrapper; first | (rw [if_pos (by decide +kernel)]; kernel_rfl) | (rw [if_neg (by decide +kernel)]; exact ⟨rfl, rfl⟩))
    (fun os started H enc _ F => lifted os started H enc F)
end Go.Proofs.Ytojmpoboidomeaa.batchBack
namespace Go.Proofs.Ytojmpoboidomeaa
/-- The row, under a short name, for the claim. -/
theorem batchBack_holds : Rows.BatchBackUptoSaid := batchBack.over
#print axioms batchBack_holds
end Go.Proofs.Ytojmpoboidomeaa
