/- The law IndexAdds of courantlaw19 says true for every input of a bounded bulk. -/
import Derived.Test.YtgimibhacllcpaaRows
import Derived.Test.YtgimibhacllcpaaGIdx
import Derived.Test.YtgimibhacllcpaaPIdx
import Derived.WalkKit
import Derived.ProofKit
import Derived.OpenShut
import Derived.JoinedCond
import Derived.ChangeOld
import Derived.Below
import Derived.Carry
namespace Go.Proofs.Ytgimibhacllcpaa.indexAdds
open Go.ChangeShapes Go.WideShapes Go.ChangeAt Go.RowKit
open Go.Proofs.Abs
set_option linter.unusedVariables false
set_option maxRecDepth 100000
theorem own : ownKnob Try.prog.godebug = none := by kernel_rfl
theorem laidOut : laidOutB Try.prog = true := by kernel_rfl
theorem hmix : Try.prog.follows .mixedOrders = true := by kernel_rfl
def num : Nat → Nat
  | 200 => 26
  | 204 => 24
  | 205 => 25
  | 206 => 70
  | 207 => 71
  | 208 => 22
  | 209 => 69
  | 210 => 23
  | 212 => 21
  | 213 => 27
  | 214 => 3
  | k => k
theorem hf209 : HasF Try.prog (num 209) (C209 num) := ⟨Try.f69, Try.func69, by kernel_rfl, by kernel_rfl, by kernel_rfl⟩
theorem hf200 : HasF Try.prog (num 200) (C200 num) := ⟨Try.f26, Try.func26, by kernel_rfl, by kernel_rfl, by kernel_rfl⟩
theorem hf210 : HasF Try.prog (num 210) (C210 num) := ⟨Try.f23, Try.func23, by kernel_rfl, by kernel_rfl, by kernel_rfl⟩
theorem hf212 : HasF Try.prog (num 212) (C212 num) := ⟨Try.f21, Try.func21, by kernel_rfl, by kernel_rfl, by kernel_rfl⟩
theorem hf208 : HasF Try.prog (num 208) (C208 num) := ⟨Try.f22, Try.func22, by kernel_rfl, by kernel_rfl, by kernel_rfl⟩
theorem hf204 : HasF Try.prog (num 204) (C204 num) := ⟨Try.f24, Try.func24, by kernel_rfl, by kernel_rfl, by kernel_rfl⟩
theorem hf207 : HasF Try.prog (num 207) (C207 num) := ⟨Try.f71, Try.func71, by kernel_rfl, by kernel_rfl, by kernel_rfl⟩
theorem hf206 : HasF Try.prog (num 206) (C206 num) := ⟨Try.f70, Try.func70, by kernel_rfl, by kernel_rfl, by kernel_rfl⟩
theorem hf205 : HasF Try.prog (num 205) (C205 num) := ⟨Try.f25, Try.func25, by kernel_rfl, by kernel_rfl, by kernel_rfl⟩
theorem hf213 : HasF Try.prog (num 213) (C213 num) := ⟨Try.f27, Try.func27, by kernel_rfl, by kernel_rfl, by kernel_rfl⟩
theorem hf214 : HasF Try.prog (num 214) (C214 num) := ⟨Try.f3, Try.func3, by kernel_rfl, by kernel_rfl, by kernel_rfl⟩
theorem hc209 : HC209 Try.prog num := hf209
theorem hc200 : HC200 Try.prog num := hf200
theorem hc210 : HC210 Try.prog num := ⟨hf210, hc209, hc200⟩
theorem hc212 : HC212 Try.prog num := ⟨hf212, hc210, hc200⟩
theorem hc208 : HC208 Try.prog num := hf208
theorem hc204 : HC204 Try.prog num := hf204
theorem hc207 : HC207 Try.prog num := hf207
theorem hc206 : HC206 Try.prog num := ⟨hf206, hc207⟩
theorem hc205 : HC205 Try.prog num := ⟨hf205, hc206⟩
theorem hc213 : HC213 Try.prog num := ⟨hf213, hc205⟩
theorem hc214 : HC214 Try.prog num := ⟨hf214, hc212, hc208, hc210, hc204, hc205, hc200, hc213⟩
theorem rdTSpot : Rd Try.prog 27 TSpot.enc TSpot.wf TSpot.sz := rd_struct Try.underlying27 (fun (b : (Int × (Int × Unit))) => TSpot.mk b.1 b.2.1) (fun _ => rfl) (fun b => (show _ = 2 from rfl).trans (show 2 = Try.prog.cellsOf 27 by kernel_rfl)) (fun _ h => h) (fun _ => Nat.le_refl _) (rdf_cons rfl (int_ok _) (rd_u64 Try.underlying25) (rdf_cons rfl (int_ok _) (rd_i64 Try.underlying3) rdf_nil))
mutual
theorem bulk_eq {H : Type} : ∀ d : DataW H, Rows.uptoBulk d = bulk d
  | .lit l => by cases l <;> simp only [Rows.uptoBulk, bulk]
  | .nil => by simp only [Rows.uptoBulk, bulk]
  | .ptr d => by simp only [Rows.uptoBulk, bulk, bulk_eq d]
  | .slice es sp => by simp only [Rows.uptoBulk, bulk, bulkAll_eq es, bulkAll_eq sp]
  | .agg ps => by simp only [Rows.uptoBulk, bulk, bulkAll_eq ps]
  | .iface _ d => by simp only [Rows.uptoBulk, bulk, bulk_eq d]
  | .map es => by simp only [Rows.uptoBulk, bulk, bulkEntries_eq es]
  | .held _ => by simp only [Rows.uptoBulk, bulk]
theorem bulkAll_eq {H : Type} : ∀ ds : List (DataW H), Rows.uptoBulkAll ds = bulkAll ds
  | [] => by simp only [Rows.uptoBulkAll, bulkAll]
  | d :: r => by simp only [Rows.uptoBulkAll, bulkAll, bulk_eq d, bulkAll_eq r]
theorem bulkEntries_eq {H : Type} : ∀ es : List (Lit × DataW H), Rows.uptoBulkEntries es = bulkEntries es
  | [] => by simp only [Rows.uptoBulkEntries, bulkEntries]
  | x :: r => by simp only [Rows.uptoBulkEntries, bulkEntries, bulkEntry_eq x, bulkEntries_eq r]
theorem bulkEntry_eq {H : Type} : ∀ x : Lit × DataW H, Rows.uptoBulkEntry x = bulkEntry x
  | (l, d) => by cases l <;> simp only [Rows.uptoBulkEntry, bulkEntry, bulk_eq d]
end
theorem contract (H : Type) (enc : TypeId × Value → H) (W : World) (base : Nat) (args : Array Value) (ds gs : List (DataW H)) (before : List MemPlace)
    (hval0 : ∀ (j : Nat) t v, Try.f3.params[j]? = some t → args[j]? = some v → Value.okWide Try.prog W .any base t v)
    (hW : DataW.Whole enc Try.prog Try.f3.params.toList Rows.indexAddsSpec.vars false W args.toList ds gs before) (hk : Rows.uptoSmall H (ds ++ gs) = true) :
    Calls Try.prog 3 args W fun e W' => ∃ v, e = .returned v ∧ Rows.indexAddsSpec.post enc Try.prog Try.f3 false true false false W args v W' := by
  have hval : ∀ (j : Nat) t v, Try.f3.params[j]? = some t → args[j]? = some v → Value.okWide Try.prog W .any base t v := hval0
  have hW' := hW
  obtain ⟨p, q, hA0, hV, rfl, hfz, hnd⟩ := hW
  have hA : DataW.TrodAll enc Try.prog W 0 (fun _ => true) true Try.f3.params.toList args.toList ds p := hA0
  rw [Try.params3] at hA hval
  obtain ⟨v0, vs0, d0, ds0, p0, q0, hargs, rfl, rfl, h0, r0⟩ := trodAll_cons hA
  obtain ⟨rfl, rfl, rfl⟩ := trodAll_nil r0
  obtain rfl : args = #[v0] := by cases args; simp_all
  obtain ⟨rfl, rfl⟩ := trodVars_none hV
  have hb : Rows.uptoBulkAll [d0] ≤ 1048576 := of_decide_eq_true (show Rows.uptoSmall H [d0] = true by rw [List.append_nil] at hk; exact hk)
  simp only [Rows.uptoBulkAll, bulk_eq] at hb
  have lt0 : ∀ x ∈ p0, x.block < W.heap.size := by obtain ⟨m, hm⟩ := h0; exact fun x hx => DataW.trod_lt m _ _ _ hm x hx
  obtain ⟨a0, w0, s0, e0⟩ := Rd.arg (rd_slice Try.underlying22 TSpot.ok (by decide) (by kernel_rfl) rdTSpot) slE_ok Try.underlying22 rfl (hval 0 22 v0 rfl rfl) h0
  obtain ⟨k, hk2⟩ := law_IndexAdds a0 w0 (by simp only [] at *; omega)
  have hc := F214 (N := num) hmix hc214 hk2
  clear hA0 hval0
  refine (law_calls hc (vs := [v0]) W rfl fun j g1 g2 => ?_).mono fun e W' ⟨he, bel⟩ => ?_
  · match j with
    | 0 => exact .d e0
  subst he
  exact ⟨_, rfl, _, _, _, [], _, [], hW', trodAll_mk1 (shut_bool Try.underlying4 _), (trodAll_cons_mk (Below.trod laidOut (by kernel_rfl) (of_decide_eq_true (by kernel_rfl)) h0 bel lt0) trodAll_mk0), rfl, bel.frame _, fun h => by cases h⟩
set_option maxRecDepth 100000 in
theorem lifted (os : Os) (started : os.Started) (H : Type) (enc : TypeId × Value → H) (F : Stop.Interp) :
    ReturnsInHanded {} Try.checked os 3 .any ((Rows.OpenSpec.upto Rows.indexAddsSpec).pre6 enc Try.prog Try.f3 Rows.indexAddsUptoRow.domain false) (((Rows.OpenSpec.upto Rows.indexAddsSpec).at F).post enc Try.prog Try.f3 false true false false) := by
  refine returnsInHanded_of_cond (C := Try.checked) (s := Rows.OpenSpec.upto Rows.indexAddsSpec) (k := Rows.uptoSmall) rfl own started (by kernel_rfl) Try.func3
    (OpenSpec.witness (enc := enc) (C := Try.checked) (s := Rows.OpenSpec.upto Rows.indexAddsSpec) (k := Rows.uptoSmall) rfl false ⟨#[], #[.slice none 0 0], []⟩ 8 (by kernel_rfl) (by kernel_rfl) (by kernel_rfl)
      (x := ([.nil], [], [])) (by kernel_rfl) rfl (by kernel_rfl)) ?_
  intro W base args ds gs before hval hW _ hk _
  exact contract H enc W base args ds gs before hval hW hk
theorem over : Rows.indexAddsUptoRow.holds Try.pinned (Rows.OpenSpec.upto Rows.indexAddsSpec) :=
  OpenClaim.holds_of_cond 3 Try.f3 rfl rfl rfl rfl rfl rfl rfl ⟨rfl, rfl, rfl, rfl, rfl⟩ rfl rfl rfl rfl rfl (by kernel_rfl) Try.func3 (by kernel_rfl)
    (of_decide_eq_true (by kernel_rfl)) (by unfold Func.isWrapper; first | (rw [if_pos (by decide +kernel)]; kernel_rfl) | (rw [if_neg (by decide +kernel)]; exact ⟨rfl, rfl⟩))
    (fun os started H enc _ F => lifted os started H enc F)
end Go.Proofs.Ytgimibhacllcpaa.indexAdds
namespace Go.Proofs.Ytgimibhacllcpaa
/-- The row, under a short name, for the claim. -/
theorem indexAdds_holds : Rows.IndexAddsUptoSaid := indexAdds.over
#print axioms indexAdds_holds
end Go.Proofs.Ytgimibhacllcpaa
