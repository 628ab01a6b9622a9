/- The law MatchFirst of courantlaw09 says true for every input of a bounded bulk. -/
import Derived.Test.YtgimibhacllcpaaRows
import Derived.Test.YtgimibhacllcpaaGMatb
import Derived.Test.YtgimibhacllcpaaPMau
import Derived.WalkKit
import Derived.ProofKit
import Derived.OpenShut
import Derived.JoinedCond
import Derived.ChangeOld
import Derived.Below
import Derived.Carry
namespace Go.Proofs.Ytgimibhacllcpaa.matchFirst
open Go.ChangeShapes Go.WideShapes Go.ChangeAt Go.RowKit
open Go.Proofs.Abs
set_option linter.unusedVariables false
set_option maxRecDepth 100000
theorem own : ownKnob Try.prog.godebug = none := by kernel_rfl
theorem laidOut : laidOutB Try.prog = true := by kernel_rfl
theorem hmix : Try.prog.follows .mixedOrders = true := by kernel_rfl
def num : Nat → Nat
  | 228 => 12
  | 229 => 43
  | 230 => 44
  | 231 => 46
  | 232 => 78
  | 233 => 79
  | 234 => 65
  | 235 => 92
  | 236 => 109
  | 237 => 116
  | 238 => 117
  | 239 => 93
  | 240 => 110
  | 241 => 45
  | k => k
theorem hf229 : HasF Try.prog (num 229) (C229 num) := ⟨Try.f43, Try.func43, by kernel_rfl, by kernel_rfl, by kernel_rfl⟩
theorem hf232 : HasF Try.prog (num 232) (C232 num) := ⟨Try.f78, Try.func78, by kernel_rfl, by kernel_rfl, by kernel_rfl⟩
theorem hf238 : HasF Try.prog (num 238) (C238 num) := ⟨Try.f117, Try.func117, by kernel_rfl, by kernel_rfl, by kernel_rfl⟩
theorem hf237 : HasF Try.prog (num 237) (C237 num) := ⟨Try.f116, Try.func116, by kernel_rfl, by kernel_rfl, by kernel_rfl⟩
theorem hf236 : HasF Try.prog (num 236) (C236 num) := ⟨Try.f109, Try.func109, by kernel_rfl, by kernel_rfl, by kernel_rfl⟩
theorem hf235 : HasF Try.prog (num 235) (C235 num) := ⟨Try.f92, Try.func92, by kernel_rfl, by kernel_rfl, by kernel_rfl⟩
theorem hf240 : HasF Try.prog (num 240) (C240 num) := ⟨Try.f110, Try.func110, by kernel_rfl, by kernel_rfl, by kernel_rfl⟩
theorem hf239 : HasF Try.prog (num 239) (C239 num) := ⟨Try.f93, Try.func93, by kernel_rfl, by kernel_rfl, by kernel_rfl⟩
theorem hf234 : HasF Try.prog (num 234) (C234 num) := ⟨Try.f65, Try.func65, by kernel_rfl, by kernel_rfl, by kernel_rfl⟩
theorem hf233 : HasF Try.prog (num 233) (C233 num) := ⟨Try.f79, Try.func79, by kernel_rfl, by kernel_rfl, by kernel_rfl⟩
theorem hf231 : HasF Try.prog (num 231) (C231 num) := ⟨Try.f46, Try.func46, by kernel_rfl, by kernel_rfl, by kernel_rfl⟩
theorem hf230 : HasF Try.prog (num 230) (C230 num) := ⟨Try.f44, Try.func44, by kernel_rfl, by kernel_rfl, by kernel_rfl⟩
theorem hf241 : HasF Try.prog (num 241) (C241 num) := ⟨Try.f45, Try.func45, by kernel_rfl, by kernel_rfl, by kernel_rfl⟩
theorem hf228 : HasF Try.prog (num 228) (C228 num) := ⟨Try.f12, Try.func12, by kernel_rfl, by kernel_rfl, by kernel_rfl⟩
theorem hc229 : HC229 Try.prog num := hf229
theorem hc232 : HC232 Try.prog num := hf232
theorem hc238 : HC238 Try.prog num := hf238
theorem hc237 : HC237 Try.prog num := ⟨hf237, hc238⟩
theorem hc236 : HC236 Try.prog num := ⟨hf236, hc237⟩
theorem hc235 : HC235 Try.prog num := ⟨hf235, hc236⟩
theorem hc240 : HC240 Try.prog num := hf240
theorem hc239 : HC239 Try.prog num := ⟨hf239, hc240⟩
theorem hc234 : HC234 Try.prog num := ⟨hf234, hc235, hc239⟩
theorem hc233 : HC233 Try.prog num := ⟨hf233, hc234⟩
theorem hc231 : HC231 Try.prog num := ⟨hf231, hc232, hc233⟩
theorem hc230 : HC230 Try.prog num := ⟨hf230, hc231, hc234⟩
theorem hc241 : HC241 Try.prog num := ⟨hf241, hc232, hc231⟩
theorem hc228 : HC228 Try.prog num := ⟨hf228, hc229, hc230, hc241, hc231⟩
theorem rdTField : Rd Try.prog 94 TField.enc TField.wf TField.sz := rd_struct Try.underlying94 (fun (b : ((List UInt8) × ((List (List UInt8)) × (Int × (Bool × ((List UInt8) × Unit)))))) => TField.mk b.1 b.2.1 b.2.2.1 b.2.2.2.1 b.2.2.2.2.1) (fun _ => rfl) (fun b => (show _ = 5 from rfl).trans (show 5 = Try.prog.cellsOf 94 by kernel_rfl)) (fun _ h => h) (fun _ => Nat.le_refl _) (rdf_cons rfl str_ok (rd_str Try.underlying9) (rdf_cons rfl slE_ok (rd_slice Try.underlying58 str_ok (by decide) (by kernel_rfl) (rd_str Try.underlying9)) (rdf_cons rfl (int_ok _) (rd_i64 Try.underlying3) (rdf_cons rfl bool_ok (rd_bool Try.underlying4) (rdf_cons rfl str_ok (rd_str Try.underlying9) rdf_nil)))))
theorem rdTNode : Rd Try.prog 61 TNode.enc TNode.wf TNode.sz := rd_struct Try.underlying61 (fun (b : (Int × ((List UInt8) × ((List (List UInt8)) × ((List TField) × ((List (List UInt8)) × (Bool × ((List UInt8) × (Int × ((List Int) × (Int × Unit))))))))))) => TNode.mk b.1 b.2.1 b.2.2.1 b.2.2.2.1 b.2.2.2.2.1 b.2.2.2.2.2.1 b.2.2.2.2.2.2.1 b.2.2.2.2.2.2.2.1 b.2.2.2.2.2.2.2.2.1 b.2.2.2.2.2.2.2.2.2.1) (fun _ => rfl) (fun b => (show _ = 10 from rfl).trans (show 10 = Try.prog.cellsOf 61 by kernel_rfl)) (fun _ h => h) (fun _ => Nat.le_refl _) (rdf_cons rfl (int_ok _) (rd_i64 Try.underlying3) (rdf_cons rfl str_ok (rd_str Try.underlying9) (rdf_cons rfl slE_ok (rd_slice Try.underlying58 str_ok (by decide) (by kernel_rfl) (rd_str Try.underlying9)) (rdf_cons rfl slE_ok (rd_slice Try.underlying59 TField.ok (by decide) (by kernel_rfl) rdTField) (rdf_cons rfl slE_ok (rd_slice Try.underlying58 str_ok (by decide) (by kernel_rfl) (rd_str Try.underlying9)) (rdf_cons rfl bool_ok (rd_bool Try.underlying4) (rdf_cons rfl str_ok (rd_str Try.underlying9) (rdf_cons rfl (int_ok _) (rd_i64 Try.underlying3) (rdf_cons rfl slE_ok (rd_slice Try.underlying46 (int_ok _) (by decide) (by kernel_rfl) (rd_i64 Try.underlying3)) (rdf_cons rfl (int_ok _) (rd_i64 Try.underlying3) rdf_nil))))))))))
theorem rdTSchema : Rd Try.prog 55 TSchema.enc TSchema.wf TSchema.sz := rd_struct Try.underlying55 (fun (b : ((List TNode) × Unit)) => TSchema.mk b.1) (fun _ => rfl) (fun b => (show _ = 1 from rfl).trans (show 1 = Try.prog.cellsOf 55 by kernel_rfl)) (fun _ h => h) (fun _ => Nat.le_refl _) (rdf_cons rfl slE_ok (rd_slice Try.underlying53 TNode.ok (by decide) (by kernel_rfl) rdTNode) rdf_nil)
mutual
theorem bulk_eq {H : Type} : ∀ d : DataW H, Rows.uptoBulk d = bulk d
  | .lit l => by cases l <;> simp only [Rows.uptoBulk, bulk]
  | .nil => by simp only [Rows.uptoBulk, bulk]
  | .ptr d => by simp only [Rows.uptoBulk, bulk, bulk_eq d]
  | .slice es sp => by simp only [Rows.uptoBulk, bulk, bulkAll_eq es, bulkAll_eq sp]
  | .agg ps => by simp only [Rows.uptoBulk, bulk, bulkAll_eq ps]
  | .iface _ d => by simp only [Rows.uptoBulk, bulk, bulk_eq d]
  | .map es => by simp only [Rows.uptoBulk, bulk, bulkEntries_eq es]
  | .held _ => by simp only [Rows.uptoBulk, bulk]
theorem bulkAll_eq {H : Type} : ∀ ds : List (DataW H), Rows.uptoBulkAll ds = bulkAll ds
  | [] => by simp only [Rows.uptoBulkAll, bulkAll]
  | d :: r => by simp only [Rows.uptoBulkAll, bulkAll, bulk_eq d, bulkAll_eq r]
theorem bulkEntries_eq {H : Type} : ∀ es : List (Lit × DataW H), Rows.uptoBulkEntries es = bulkEntries es
  | [] => by simp only [Rows.uptoBulkEntries, bulkEntries]
  | x :: r => by simp only [Rows.uptoBulkEntries, bulkEntries, bulkEntry_eq x, bulkEntries_eq r]
theorem bulkEntry_eq {H : Type} : ∀ x : Lit × DataW H, Rows.uptoBulkEntry x = bulkEntry x
  | (l, d) => by cases l <;> simp only [Rows.uptoBulkEntry, bulkEntry, bulk_eq d]
end
theorem contract (H : Type) (enc : TypeId × Value → H) (W : World) (base : Nat) (args : Array Value) (ds gs : List (DataW H)) (before : List MemPlace)
    (hval0 : ∀ (j : Nat) t v, Try.f12.params[j]? = some t → args[j]? = some v → Value.okWide Try.prog W .any base t v)
    (hW : DataW.Whole enc Try.prog Try.f12.params.toList Rows.matchFirstSpec.vars false W args.toList ds gs before) (hk : Rows.uptoSmall H (ds ++ gs) = true) :
    Calls Try.prog 12 args W fun e W' => ∃ v, e = .returned v ∧ Rows.matchFirstSpec.post enc Try.prog Try.f12 false true false false W args v W' := by
  have hval : ∀ (j : Nat) t v, Try.f12.params[j]? = some t → args[j]? = some v → Value.okWide Try.prog W .any base t v := hval0
  have hW' := hW
  obtain ⟨p, q, hA0, hV, rfl, hfz, hnd⟩ := hW
  have hA : DataW.TrodAll enc Try.prog W 0 (fun _ => true) true Try.f12.params.toList args.toList ds p := hA0
  rw [Try.params12] at hA hval
  obtain ⟨v0, vs0, d0, ds0, p0, q0, hargs, rfl, rfl, h0, r0⟩ := trodAll_cons hA
  obtain ⟨v1, vs1, d1, ds1, p1, q1, rfl, rfl, rfl, h1, r1⟩ := trodAll_cons r0
  obtain ⟨v2, vs2, d2, ds2, p2, q2, rfl, rfl, rfl, h2, r2⟩ := trodAll_cons r1
  obtain ⟨v3, vs3, d3, ds3, p3, q3, rfl, rfl, rfl, h3, r3⟩ := trodAll_cons r2
  obtain ⟨rfl, rfl, rfl⟩ := trodAll_nil r3
  obtain rfl : args = #[v0, v1, v2, v3] := by cases args; simp_all
  obtain ⟨rfl, rfl⟩ := trodVars_none hV
  have hb : Rows.uptoBulkAll [d0, d1, d2, d3] ≤ 1048576 := of_decide_eq_true (show Rows.uptoSmall H [d0, d1, d2, d3] = true by rw [List.append_nil] at hk; exact hk)
  simp only [Rows.uptoBulkAll, bulk_eq] at hb
  have lt0 : ∀ x ∈ p0, x.block < W.heap.size := by obtain ⟨m, hm⟩ := h0; exact fun x hx => DataW.trod_lt m _ _ _ hm x hx
  obtain ⟨a0, w0, s0, e0⟩ := Rd.arg rdTSchema TSchema.ok Try.underlying55 rfl (hval 0 55 v0 rfl rfl) h0
  have lt1 : ∀ x ∈ p1, x.block < W.heap.size := by obtain ⟨m, hm⟩ := h1; exact fun x hx => DataW.trod_lt m _ _ _ hm x hx
  obtain ⟨a1, w1, s1, e1⟩ := Rd.arg rdTSchema TSchema.ok Try.underlying55 rfl (hval 1 55 v1 rfl rfl) h1
  have lt2 : ∀ x ∈ p2, x.block < W.heap.size := by obtain ⟨m, hm⟩ := h2; exact fun x hx => DataW.trod_lt m _ _ _ hm x hx
  obtain ⟨a2, w2, s2, e2⟩ := Rd.arg (rd_i64 Try.underlying3) (int_ok _) Try.underlying3 rfl (hval 2 3 v2 rfl rfl) h2
  have lt3 : ∀ x ∈ p3, x.block < W.heap.size := by obtain ⟨m, hm⟩ := h3; exact fun x hx => DataW.trod_lt m _ _ _ hm x hx
  obtain ⟨a3, w3, s3, e3⟩ := Rd.arg (rd_i64 Try.underlying3) (int_ok _) Try.underlying3 rfl (hval 3 3 v3 rfl rfl) h3
  obtain ⟨k, hk2⟩ := law_MatchFirst a0 a1 a2 a3 w0 w1 w2 w3 (by simp only [] at *; omega)
  have hc := F228 (N := num) hmix hc228 hk2
  clear hA0 hval0
  refine (law_calls hc (vs := [v0, v1, v2, v3]) W rfl fun j g1 g2 => ?_).mono fun e W' ⟨he, bel⟩ => ?_
  · match j with
    | 0 => exact .d e0
    | 1 => exact .d e1
    | 2 => exact .d e2
    | 3 => exact .d e3
  subst he
  exact ⟨_, rfl, _, _, _, [], _, [], hW', trodAll_mk1 (shut_bool Try.underlying4 _), (trodAll_cons_mk (Below.trod laidOut (by kernel_rfl) (of_decide_eq_true (by kernel_rfl)) h0 bel lt0) (trodAll_cons_mk (Below.trod laidOut (by kernel_rfl) (of_decide_eq_true (by kernel_rfl)) h1 bel lt1) (trodAll_cons_mk (Below.trod laidOut (by kernel_rfl) (of_decide_eq_true (by kernel_rfl)) h2 bel lt2) (trodAll_cons_mk (Below.trod laidOut (by kernel_rfl) (of_decide_eq_true (by kernel_rfl)) h3 bel lt3) trodAll_mk0)))), rfl, bel.frame _, fun h => by cases h⟩
set_option maxRecDepth 100000 in
theorem lifted (os : Os) (started : os.Started) (H : Type) (enc : TypeId × Value → H) (F : Stop.Interp) :
    ReturnsInHanded {} Try.checked os 12 .any ((Rows.OpenSpec.upto Rows.matchFirstSpec).pre6 enc Try.prog Try.f12 Rows.matchFirstUptoRow.domain false) (((Rows.OpenSpec.upto Rows.matchFirstSpec).at F).post enc Try.prog Try.f12 false true false false) := by
  refine returnsInHanded_of_cond (C := Try.checked) (s := Rows.OpenSpec.upto Rows.matchFirstSpec) (k := Rows.uptoSmall) rfl own started (by kernel_rfl) Try.func12
    (OpenSpec.witness (enc := enc) (C := Try.checked) (s := Rows.OpenSpec.upto Rows.matchFirstSpec) (k := Rows.uptoSmall) rfl false ⟨#[], #[.agg #[.slice none 0 0], .agg #[.slice none 0 0], .int .i64 0, .int .i64 0], []⟩ 8 (by kernel_rfl) (by kernel_rfl) (by kernel_rfl)
      (x := ([.agg [.nil], .agg [.nil], .lit (.int .i64 0), .lit (.int .i64 0)], [], [])) (by kernel_rfl) rfl (by kernel_rfl)) ?_
  intro W base args ds gs before hval hW _ hk _
  exact contract H enc W base args ds gs before hval hW hk
theorem over : Rows.matchFirstUptoRow.holds Try.pinned (Rows.OpenSpec.upto Rows.matchFirstSpec) :=
  OpenClaim.holds_of_cond 12 Try.f12 rfl rfl rfl rfl rfl rfl rfl ⟨rfl, rfl, rfl, rfl, rfl⟩ rfl rfl rfl rfl rfl (by kernel_rfl) Try.func12 (by kernel_rfl)
    (of_decide_eq_true (by kernel_rfl)) (by unfold Func.isWrapper; first | (rw [if_pos (by decide +kernel)]; kernel_rfl) | (rw [if_neg (by decide +kernel)]; exact ⟨rfl, rfl⟩))
    (fun os started H enc _ F => lifted os started H enc F)
end Go.Proofs.Ytgimibhacllcpaa.matchFirst
namespace Go.Proofs.Ytgimibhacllcpaa
/-- The row, under a short name, for the claim. -/
theorem matchFirst_holds : Rows.MatchFirstUptoSaid := matchFirst.over
#print axioms matchFirst_holds
end Go.Proofs.Ytgimibhacllcpaa
