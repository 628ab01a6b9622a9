/- The law MatchNodes of courantlaw09 says true for every input of a bounded bulk. -/
import Derived.Test.YtgimibhacllcpaaRows
import Derived.Test.YtgimibhacllcpaaGMatb
import Derived.Test.YtgimibhacllcpaaPMav
import Derived.WalkKit
import Derived.ProofKit
import Derived.OpenShut
import Derived.JoinedCond
import Derived.ChangeOld
import Derived.Below
import Derived.Carry
namespace Go.Proofs.Ytgimibhacllcpaa.matchNodes
open Go.ChangeShapes Go.WideShapes Go.ChangeAt Go.RowKit
open Go.Proofs.Abs
set_option linter.unusedVariables false
set_option maxRecDepth 100000
theorem own : ownKnob Try.prog.godebug = none := by kernel_rfl
theorem laidOut : laidOutB Try.prog = true := by kernel_rfl
theorem hmix : Try.prog.follows .mixedOrders = true := by kernel_rfl
def num : Nat → Nat
  | 230 => 44
  | 231 => 46
  | 232 => 78
  | 233 => 79
  | 234 => 65
  | 235 => 92
  | 236 => 109
  | 237 => 116
  | 238 => 117
  | 239 => 93
  | 240 => 110
  | 241 => 45
  | 242 => 13
  | 243 => 47
  | k => k
theorem hf232 : HasF Try.prog (num 232) (C232 num) := ⟨Try.f78, Try.func78, by kernel_rfl, by kernel_rfl, by kernel_rfl⟩
theorem hf238 : HasF Try.prog (num 238) (C238 num) := ⟨Try.f117, Try.func117, by kernel_rfl, by kernel_rfl, by kernel_rfl⟩
theorem hf237 : HasF Try.prog (num 237) (C237 num) := ⟨Try.f116, Try.func116, by kernel_rfl, by kernel_rfl, by kernel_rfl⟩
theorem hf236 : HasF Try.prog (num 236) (C236 num) := ⟨Try.f109, Try.func109, by kernel_rfl, by kernel_rfl, by kernel_rfl⟩
theorem hf235 : HasF Try.prog (num 235) (C235 num) := ⟨Try.f92, Try.func92, by kernel_rfl, by kernel_rfl, by kernel_rfl⟩
theorem hf240 : HasF Try.prog (num 240) (C240 num) := ⟨Try.f110, Try.func110, by kernel_rfl, by kernel_rfl, by kernel_rfl⟩
theorem hf239 : HasF Try.prog (num 239) (C239 num) := ⟨Try.f93, Try.func93, by kernel_rfl, by kernel_rfl, by kernel_rfl⟩
theorem hf234 : HasF Try.prog (num 234) (C234 num) := ⟨Try.f65, Try.func65, by kernel_rfl, by kernel_rfl, by kernel_rfl⟩
theorem hf233 : HasF Try.prog (num 233) (C233 num) := ⟨Try.f79, Try.func79, by kernel_rfl, by kernel_rfl, by kernel_rfl⟩
theorem hf231 : HasF Try.prog (num 231) (C231 num) := ⟨Try.f46, Try.func46, by kernel_rfl, by kernel_rfl, by kernel_rfl⟩
theorem hf230 : HasF Try.prog (num 230) (C230 num) := ⟨Try.f44, Try.func44, by kernel_rfl, by kernel_rfl, by kernel_rfl⟩
theorem hf243 : HasF Try.prog (num 243) (C243 num) := ⟨Try.f47, Try.func47, by kernel_rfl, by kernel_rfl, by kernel_rfl⟩
theorem hf241 : HasF Try.prog (num 241) (C241 num) := ⟨Try.f45, Try.func45, by kernel_rfl, by kernel_rfl, by kernel_rfl⟩
theorem hf242 : HasF Try.prog (num 242) (C242 num) := ⟨Try.f13, Try.func13, by kernel_rfl, by kernel_rfl, by kernel_rfl⟩
theorem hc232 : HC232 Try.prog num := hf232
theorem hc238 : HC238 Try.prog num := hf238
theorem hc237 : HC237 Try.prog num := ⟨hf237, hc238⟩
theorem hc236 : HC236 Try.prog num := ⟨hf236, hc237⟩
theorem hc235 : HC235 Try.prog num := ⟨hf235, hc236⟩
theorem hc240 : HC240 Try.prog num := hf240
theorem hc239 : HC239 Try.prog num := ⟨hf239, hc240⟩
theorem hc234 : HC234 Try.prog num := ⟨hf234, hc235, hc239⟩
theorem hc233 : HC233 Try.prog num := ⟨hf233, hc234⟩
theorem hc231 : HC231 Try.prog num := ⟨hf231, hc232, hc233⟩
theorem hc230 : HC230 Try.prog num := ⟨hf230, hc231, hc234⟩
theorem hc243 : HC243 Try.prog num := hf243
theorem hc241 : HC241 Try.prog num := ⟨hf241, hc232, hc231⟩
theorem hc242 : HC242 Try.prog num := ⟨hf242, hc230, hc243, hc231, hc241⟩
mutual
theorem bulk_eq {H : Type} : ∀ d : DataW H, Rows.uptoBulk d = bulk d
  | .lit l => by cases l <;> simp only [Rows.uptoBulk, bulk]
  | .nil => by simp only [Rows.uptoBulk, bulk]
  | .ptr d => by simp only [Rows.uptoBulk, bulk, bulk_eq d]
  | .slice es sp => by simp only [Rows.uptoBulk, bulk, bulkAll_eq es, bulkAll_eq sp]
  | .agg ps => by simp only [Rows.uptoBulk, bulk, bulkAll_eq ps]
  | .iface _ d => by simp only [Rows.uptoBulk, bulk, bulk_eq d]
  | .map es => by simp only [Rows.uptoBulk, bulk, bulkEntries_eq es]
  | .held _ => by simp only [Rows.uptoBulk, bulk]
theorem bulkAll_eq {H : Type} : ∀ ds : List (DataW H), Rows.uptoBulkAll ds = bulkAll ds
  | [] => by simp only [Rows.uptoBulkAll, bulkAll]
  | d :: r => by simp only [Rows.uptoBulkAll, bulkAll, bulk_eq d, bulkAll_eq r]
theorem bulkEntries_eq {H : Type} : ∀ es : List (Lit × DataW H), Rows.uptoBulkEntries es = bulkEntries es
  | [] => by simp only [Rows.uptoBulkEntries, bulkEntries]
  | x :: r => by simp only [Rows.uptoBulkEntries, bulkEntries, bulkEntry_eq x, bulkEntries_eq r]
theorem bulkEntry_eq {H : Type} : ∀ x : Lit × DataW H, Rows.uptoBulkEntry x = bulkEntry x
  | (l, d) => by cases l <;> simp only [Rows.uptoBulkEntry, bulkEntry, bulk_eq d]
end
theorem contract (H : Type) (enc : TypeId × Value → H) (W : World) (base : Nat) (args : Array Value) (ds gs : List (DataW H)) (before : List MemPlace)
    (hval0 : ∀ (j : Nat) t v, Try.f13.params[j]? = some t → args[j]? = some v → Value.okWide Try.prog W .any base t v)
    (hW : DataW.Whole enc Try.prog Try.f13.params.toList Rows.matchNodesSpec.vars false W args.toList ds gs before) (hk : Rows.uptoSmall H (ds ++ gs) = true) :
    Calls Try.prog 13 args W fun e W' => ∃ v, e = .returned v ∧ Rows.matchNodesSpec.post enc Try.prog Try.f13 false true false false W args v W' := by
  have hval : ∀ (j : Nat) t v, Try.f13.params[j]? = some t → args[j]? = some v → Value.okWide Try.prog W .any base t v := hval0
  have hW' := hW
  obtain ⟨p, q, hA0, hV, rfl, hfz, hnd⟩ := hW
  have hA : DataW.TrodAll enc Try.prog W 0 (fun _ => true) true Try.f13.params.toList args.toList ds p := hA0
  rw [Try.params13] at hA hval
  obtain ⟨v0, vs0, d0, ds0, p0, q0, hargs, rfl, rfl, h0, r0⟩ := trodAll_cons hA
  obtain ⟨v1, vs1, d1, ds1, p1, q1, rfl, rfl, rfl, h1, r1⟩ := trodAll_cons r0
  obtain ⟨rfl, rfl, rfl⟩ := trodAll_nil r1
  obtain rfl : args = #[v0, v1] := by cases args; simp_all
  obtain ⟨rfl, rfl⟩ := trodVars_none hV
  have hb : Rows.uptoBulkAll [d0, d1] ≤ 1048576 := of_decide_eq_true (show Rows.uptoSmall H [d0, d1] = true by rw [List.append_nil] at hk; exact hk)
  simp only [Rows.uptoBulkAll, bulk_eq] at hb
  have lt0 : ∀ x ∈ p0, x.block < W.heap.size := by obtain ⟨m, hm⟩ := h0; exact fun x hx => DataW.trod_lt m _ _ _ hm x hx
  obtain ⟨a0, w0, s0, e0⟩ := Rd.arg (rd_i64 Try.underlying3) (int_ok _) Try.underlying3 rfl (hval 0 3 v0 rfl rfl) h0
  have lt1 : ∀ x ∈ p1, x.block < W.heap.size := by obtain ⟨m, hm⟩ := h1; exact fun x hx => DataW.trod_lt m _ _ _ hm x hx
  obtain ⟨a1, w1, s1, e1⟩ := Rd.arg (rd_i64 Try.underlying3) (int_ok _) Try.underlying3 rfl (hval 1 3 v1 rfl rfl) h1
  obtain ⟨k, hk2⟩ := law_MatchNodes a0 a1 w0 w1 (by simp only [] at *; omega)
  have hc := F242 (N := num) hmix hc242 hk2
  clear hA0 hval0
  refine (law_calls hc (vs := [v0, v1]) W rfl fun j g1 g2 => ?_).mono fun e W' ⟨he, bel⟩ => ?_
  · match j with
    | 0 => exact .d e0
    | 1 => exact .d e1
  subst he
  exact ⟨_, rfl, _, _, _, [], _, [], hW', trodAll_mk1 (shut_bool Try.underlying4 _), (trodAll_cons_mk (Below.trod laidOut (by kernel_rfl) (of_decide_eq_true (by kernel_rfl)) h0 bel lt0) (trodAll_cons_mk (Below.trod laidOut (by kernel_rfl) (of_decide_eq_true (by kernel_rfl)) h1 bel lt1) trodAll_mk0)), rfl, bel.frame _, fun h => by cases h⟩
set_option maxRecDepth 100000 in
theorem lifted (os : Os) (started : os.Started) (H : Type) (enc : TypeId × Value → H) (F : Stop.Interp) :
    ReturnsInHanded {} Try.checked os 13 .any ((Rows.OpenSpec.upto Rows.matchNodesSpec).pre6 enc Try.prog Try.f13 Rows.matchNodesUptoRow.domain false) (((Rows.OpenSpec.upto Rows.matchNodesSpec).at F).post enc Try.prog Try.f13 false true false false) := by
  refine returnsInHanded_of_cond (C := Try.checked) (s := Rows.OpenSpec.upto Rows.matchNodesSpec) (k := Rows.uptoSmall) rfl own started (by kernel_rfl) Try.func13
    (OpenSpec.witness (enc := enc) (C := Try.checked) (s := Rows.OpenSpec.upto Rows.matchNodesSpec) (k := Rows.uptoSmall) rfl false ⟨#[], #[.int .i64 0, .int .i64 0], []⟩ 8 (by kernel_rfl) (by kernel_rfl) (by kernel_rfl)
      (x := ([.lit (.int .i64 0), .lit (.int .i64 0)], [], [])) (by kernel_rfl) rfl (by kernel_rfl)) ?_
  intro W base args ds gs before hval hW _ hk _
  exact contract H enc W base args ds gs before hval hW hk
theorem over : Rows.matchNodesUptoRow.holds Try.pinned (Rows.OpenSpec.upto Rows.matchNodesSpec) :=
  OpenClaim.holds_of_cond 13 Try.f13 rfl rfl rfl rfl rfl rfl rfl ⟨rfl, rfl, rfl, rfl, rfl⟩ rfl rfl rfl rfl rfl (by kernel_rfl) Try.func13 (by kernel_rfl)
    (of_decide_eq_true (by kernel_rfl)) (by unfold Func.isWrapper; first | (rw [if_pos (by decide +kernel)]; kernel_rfl) | (rw [if_neg (by decide +kernel)]; exact ⟨rfl, rfl⟩))
    (fun os started H enc _ F => lifted os started H enc F)
end Go.Proofs.Ytgimibhacllcpaa.matchNodes
namespace Go.Proofs.Ytgimibhacllcpaa
/-- The row, under a short name, for the claim. -/
theorem matchNodes_holds : Rows.MatchNodesUptoSaid := matchNodes.over
#print axioms matchNodes_holds
end Go.Proofs.Ytgimibhacllcpaa
