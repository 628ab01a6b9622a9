/- The law BatchOnce of courantlaw24 says true for every input of a bounded bulk. -/
import Derived.Test.YtojmpoboidomeaaRows
import Derived.Test.YtojmpoboidomeaaGBatc
import Derived.Test.YtojmpoboidomeaaPBao
import Derived.WalkKit
import Derived.ProofKit
import Derived.OpenShut
import Derived.JoinedCond
import Derived.ChangeOld
import Derived.Below
import Derived.Carry
set_option linter.unusedSimpArgs false
namespace Go.Proofs.Ytojmpoboidomeaa.batchOnce
open Go.ChangeShapes Go.WideShapes Go.ChangeAt Go.RowKit
open Go.Proofs.Abs
set_option linter.unusedVariables false
set_option maxRecDepth 100000
theorem own : ownKnob Try.prog.godebug = none := by kernel_rfl
theorem laidOut : laidOutB Try.prog = true := by kernel_rfl
theorem hmix : Try.prog.follows .mixedOrders = true := by kernel_rfl
def num : Nat → Nat
  | 6 => 6
  | 23 => 23
  | 25 => 25
  | 27 => 27
  | 33 => 33
  | 34 => 34
  | 36 => 36
  | 54 => 54
  | 82 => 82
  | 86 => 86
  | 87 => 87
  | 91 => 91
  | 110 => 110
  | 111 => 111
  | k => k
theorem hf23 : HasF Try.prog (num 23) (C23 num) := ⟨Try.f23, Try.func23, by kernel_rfl, by kernel_rfl, by kernel_rfl⟩
theorem hf82 : HasF Try.prog (num 82) (C82 num) := ⟨Try.f82, Try.func82, by kernel_rfl, by kernel_rfl, by kernel_rfl⟩
theorem hf25 : HasF Try.prog (num 25) (C25 num) := ⟨Try.f25, Try.func25, by kernel_rfl, by kernel_rfl, by kernel_rfl⟩
theorem hf27 : HasF Try.prog (num 27) (C27 num) := ⟨Try.f27, Try.func27, by kernel_rfl, by kernel_rfl, by kernel_rfl⟩
theorem hf111 : HasF Try.prog (num 111) (C111 num) := ⟨Try.f111, Try.func111, by kernel_rfl, by kernel_rfl, by kernel_rfl⟩
theorem hf91 : HasF Try.prog (num 91) (C91 num) := ⟨Try.f91, Try.func91, by kernel_rfl, by kernel_rfl, by kernel_rfl⟩
theorem hf54 : HasF Try.prog (num 54) (C54 num) := ⟨Try.f54, Try.func54, by kernel_rfl, by kernel_rfl, by kernel_rfl⟩
theorem hf33 : HasF Try.prog (num 33) (C33 num) := ⟨Try.f33, Try.func33, by kernel_rfl, by kernel_rfl, by kernel_rfl⟩
theorem hf86 : HasF Try.prog (num 86) (C86 num) := ⟨Try.f86, Try.func86, by kernel_rfl, by kernel_rfl, by kernel_rfl⟩
theorem hf110 : HasF Try.prog (num 110) (C110 num) := ⟨Try.f110, Try.func110, by kernel_rfl, by kernel_rfl, by kernel_rfl⟩
theorem hf87 : HasF Try.prog (num 87) (C87 num) := ⟨Try.f87, Try.func87, by kernel_rfl, by kernel_rfl, by kernel_rfl⟩
theorem hf36 : HasF Try.prog (num 36) (C36 num) := ⟨Try.f36, Try.func36, by kernel_rfl, by kernel_rfl, by kernel_rfl⟩
theorem hf34 : HasF Try.prog (num 34) (C34 num) := ⟨Try.f34, Try.func34, by kernel_rfl, by kernel_rfl, by kernel_rfl⟩
theorem hf6 : HasF Try.prog (num 6) (C6 num) := ⟨Try.f6, Try.func6, by kernel_rfl, by kernel_rfl, by kernel_rfl⟩
theorem hc23 : HC23 Try.prog num := hf23
theorem hc82 : HC82 Try.prog num := hf82
theorem hc25 : HC25 Try.prog num := ⟨hf25, hc82, hc23⟩
theorem hc27 : HC27 Try.prog num := ⟨hf27, hc25⟩
theorem hc111 : HC111 Try.prog num := hf111
theorem hc91 : HC91 Try.prog num := ⟨hf91, hc111⟩
theorem hc54 : HC54 Try.prog num := ⟨hf54, hc23, hc25, hc27, hc91⟩
theorem hc33 : HC33 Try.prog num := ⟨hf33, hc54⟩
theorem hc86 : HC86 Try.prog num := hf86
theorem hcb36_22 : HCb36_22 Try.prog num := trivial
theorem hc110 : HC110 Try.prog num := ⟨hf110, hcb36_22⟩
theorem hc87 : HC87 Try.prog num := hf87
theorem hc36 : HC36 Try.prog num := ⟨hf36, hc86, hc110, hc87⟩
theorem hc34 : HC34 Try.prog num := ⟨hf34, hc36⟩
theorem hc6 : HC6 Try.prog num := ⟨hf6, hc33, hc34⟩
mutual
theorem bulk_eq {H : Type} : ∀ d : DataW H, Rows.uptoBulk d = bulk d
  | .lit l => by cases l <;> simp only [Rows.uptoBulk, bulk]
  | .nil => by simp only [Rows.uptoBulk, bulk]
  | .ptr d => by simp only [Rows.uptoBulk, bulk, bulk_eq d]
  | .slice es sp => by simp only [Rows.uptoBulk, bulk, bulkAll_eq es, bulkAll_eq sp]
  | .agg ps => by simp only [Rows.uptoBulk, bulk, bulkAll_eq ps]
  | .iface _ d => by simp only [Rows.uptoBulk, bulk, bulk_eq d]
  | .map es => by simp only [Rows.uptoBulk, bulk, bulkEntries_eq es]
  | .held _ => by simp only [Rows.uptoBulk, bulk]
theorem bulkAll_eq {H : Type} : ∀ ds : List (DataW H), Rows.uptoBulkAll ds = bulkAll ds
  | [] => by simp only [Rows.uptoBulkAll, bulkAll]
  | d :: r => by simp only [Rows.uptoBulkAll, bulkAll, bulk_eq d, bulkAll_eq r]
theorem bulkEntries_eq {H : Type} : ∀ es : List (Lit × DataW H), Rows.uptoBulkEntries es = bulkEntries es
  | [] => by simp only [Rows.uptoBulkEntries, bulkEntries]
  | x :: r => by simp only [Rows.uptoBulkEntries, bulkEntries, bulkEntry_eq x, bulkEntries_eq r]
theorem bulkEntry_eq {H : Type} : ∀ x : Lit × DataW H, Rows.uptoBulkEntry x = bulkEntry x
  | (l, d) => by cases l <;> simp only [Rows.uptoBulkEntry, bulkEntry, bulk_eq d]
end
theorem contract (H : Type) (enc : TypeId × Value → H) (W : World) (base : Nat) (args : Array Value) (ds gs : List (DataW H)) (before : List MemPlace)
    (hval0 : ∀ (j : Nat) t v, Try.f6.params[j]? = some t → args[j]? = some v → Value.okWide Try.prog W .any base t v)
    (hW : DataW.Whole enc Try.prog Try.f6.params.toList Rows.batchOnceSpec.vars false W args.toList ds gs before) (hk : Rows.uptoSmall H (ds ++ gs) = true) :
    Calls Try.prog 6 args W fun e W' => ∃ v, e = .returned v ∧ Rows.batchOnceSpec.post enc Try.prog Try.f6 false true false false W args v W' := by
  have hval : ∀ (j : Nat) t v, Try.f6.params[j]? = some t → args[j]? = some v → Value.okWide Try.prog W .any base t v := hval0
  have hW' := hW
  obtain ⟨p, q, hA0, hV, rfl, hfz, hnd⟩ := hW
  have hA : DataW.TrodAll enc Try.prog W 0 (fun _ => true) true Try.f6.params.toList args.toList ds p := hA0
  rw [Try.params6] at hA hval
  obtain ⟨v0, vs0, d0, ds0, p0, q0, hargs, rfl, rfl, h0, r0⟩ := trodAll_cons hA
  obtain ⟨v1, vs1, d1, ds1, p1, q1, rfl, rfl, rfl, h1, r1⟩ := trodAll_cons r0
  obtain ⟨v2, vs2, d2, ds2, p2, q2, rfl, rfl, rfl, h2, r2⟩ := trodAll_cons r1
  obtain ⟨rfl, rfl, rfl⟩ := trodAll_nil r2
  obtain rfl : args = #[v0, v1, v2] := by cases args; simp_all
  obtain ⟨rfl, rfl⟩ := trodVars_none hV
  have hb : Rows.uptoBulkAll [d0, d1, d2] ≤ 1048576 := of_decide_eq_true (show Rows.uptoSmall H [d0, d1, d2] = true by rw [List.append_nil] at hk; exact hk)
  simp only [Rows.uptoBulkAll, bulk_eq] at hb
  have lt0 : ∀ x ∈ p0, x.block < W.heap.size := by obtain ⟨m, hm⟩ := h0; exact fun x hx => DataW.trod_lt m _ _ _ hm x hx
  obtain ⟨a0, w0, s0, e0⟩ := Rd.arg (rd_u64 Try.underlying22) (int_ok _) Try.underlying22 rfl (hval 0 22 v0 rfl rfl) h0
  have lt1 : ∀ x ∈ p1, x.block < W.heap.size := by obtain ⟨m, hm⟩ := h1; exact fun x hx => DataW.trod_lt m _ _ _ hm x hx
  obtain ⟨a1, w1, s1, e1⟩ := Rd.arg (rd_u64 Try.underlying22) (int_ok _) Try.underlying22 rfl (hval 1 22 v1 rfl rfl) h1
  have lt2 : ∀ x ∈ p2, x.block < W.heap.size := by obtain ⟨m, hm⟩ := h2; exact fun x hx => DataW.trod_lt m _ _ _ hm x hx
  obtain ⟨a2, w2, s2, e2⟩ := Rd.arg (rd_slice Try.underlying49 (int_ok _) (by decide) (by kernel_rfl) (rd_i64 Try.underlying3)) slE_ok Try.underlying49 rfl (hval 2 49 v2 rfl rfl) h2
  obtain ⟨k, hk2⟩ := law_BatchOnce a0 a1 a2 w0 w1 w2 (by simp only [] at *; omega)
  have hc := F6 (N := num) hmix hc6 hk2
  clear hA0 hval0
  refine (law_calls hc (vs := [v0, v1, v2]) W rfl fun j g1 g2 => ?_).mono fun e W' ⟨he, bel⟩ => ?_
  · match j with
    | 0 => exact .d e0
    | 1 => exact .d e1
    | 2 => exact .d e2
  subst he
  exact ⟨_, rfl, _, _, _, [], _, [], hW', trodAll_mk1 (shut_bool Try.underlying4 _), (trodAll_cons_mk (Below.trod laidOut (by kernel_rfl) (of_decide_eq_true (by kernel_rfl)) h0 bel lt0) (trodAll_cons_mk (Below.trod laidOut (by kernel_rfl) (of_decide_eq_true (by kernel_rfl)) h1 bel lt1) (trodAll_cons_mk (Below.trod laidOut (by kernel_rfl) (of_decide_eq_true (by kernel_rfl)) h2 bel lt2) trodAll_mk0))), rfl, bel.frame _, fun h => by cases h⟩
set_option maxRecDepth 100000 in
theorem lifted (os : Os) (started : os.Started) (H : Type) (enc : TypeId × Value → H) (F : Stop.Interp) :
    ReturnsInHanded {} Try.checked os 6 .any ((Rows.OpenSpec.upto Rows.batchOnceSpec).pre6 enc Try.prog Try.f6 Rows.batchOnceUptoRow.domain false) (((Rows.OpenSpec.upto Rows.batchOnceSpec).at F).post enc Try.prog Try.f6 false true false false) := by
  refine returnsInHanded_of_cond (C := Try.checked) (s := Rows.OpenSpec.upto Rows.batchOnceSpec) (k := Rows.uptoSmall) rfl own started (by kernel_rfl) Try.func6
    (OpenSpec.witness (enc := enc) (C := Try.checked) (s := Rows.OpenSpec.upto Rows.batchOnceSpec) (k := Rows.uptoSmall) rfl false ⟨#[], #[.int .u64 0, .int .u64 0, .slice none 0 0], []⟩ 8 (by kernel_rfl) (by kernel_rfl) (by kernel_rfl)
      (x := ([.lit (.int .u64 0), .lit (.int .u64 0), .nil], [], [])) (by kernel_rfl) rfl (by kernel_rfl)) ?_
  intro W base args ds gs before hval hW _ hk _
  exact contract H enc W base args ds gs before hval hW hk
theorem over : Rows.batchOnceUptoRow.holds Try.pinned (Rows.OpenSpec.upto Rows.batchOnceSpec) :=
  OpenClaim.holds_of_cond 6 Try.f6 rfl rfl rfl rfl rfl rfl rfl ⟨rfl, rfl, rfl, rfl, rfl⟩ rfl rfl rfl rfl rfl (by kernel_rfl) Try.func6 (by kernel_rfl)
    (of_decide_eq_true (by kernel_rfl)) (by unfold Func.isWrapper; first | (rw [if_pos (by decide +kernel)]; kernel_rfl) | (rw [if_neg (by decide +kernel)]; exact ⟨rfl, rfl⟩))
    (fun os started H enc _ F => lifted os started H enc F)
end Go.Proofs.Ytojmpoboidomeaa.batchOnce
namespace Go.Proofs.Ytojmpoboidomeaa
/-- The row, under a short name, for the claim. -/
theorem batchOnce_holds : Rows.BatchOnceUptoSaid := batchOnce.over
#print axioms batchOnce_holds
end Go.Proofs.Ytojmpoboidomeaa
