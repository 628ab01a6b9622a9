/- The law RequestBack of courantlaw27 says true for every input of a bounded bulk. -/
import Derived.Test.YtojmpoboidomeaaRows
import Derived.Test.YtojmpoboidomeaaGLrbac
import Derived.Test.YtojmpoboidomeaaPRbl
import Derived.WalkKit
import Derived.ProofKit
import Derived.OpenShut
import Derived.JoinedCond
import Derived.ChangeOld
import Derived.Below
import Derived.Carry
set_option linter.unusedSimpArgs false
namespace Go.Proofs.Ytojmpoboidomeaa.requestBack
open Go.ChangeShapes Go.WideShapes Go.ChangeAt Go.RowKit
open Go.Proofs.Abs
set_option linter.unusedVariables false
set_option maxRecDepth 100000
theorem own : ownKnob Try.prog.godebug = none := by kernel_rfl
theorem laidOut : laidOutB Try.prog = true := by kernel_rfl
theorem hmix : Try.prog.follows .mixedOrders = true := by kernel_rfl
def num : Nat → Nat
  | 17 => 17
  | 22 => 22
  | 23 => 23
  | 25 => 25
  | 27 => 27
  | 30 => 30
  | 31 => 31
  | 32 => 32
  | 38 => 38
  | 39 => 39
  | 40 => 40
  | 41 => 41
  | 42 => 42
  | 43 => 43
  | 56 => 56
  | 57 => 57
  | 59 => 59
  | 61 => 61
  | 63 => 63
  | 65 => 65
  | 67 => 67
  | 68 => 68
  | 82 => 82
  | 84 => 84
  | 85 => 85
  | 88 => 88
  | 92 => 92
  | 93 => 93
  | 94 => 94
  | 95 => 95
  | 96 => 96
  | 98 => 98
  | 99 => 99
  | 112 => 112
  | k => k
theorem hf82 : HasF Try.prog (num 82) (C82 num) := ⟨Try.f82, Try.func82, by kernel_rfl, by kernel_rfl, by kernel_rfl⟩
theorem hf23 : HasF Try.prog (num 23) (C23 num) := ⟨Try.f23, Try.func23, by kernel_rfl, by kernel_rfl, by kernel_rfl⟩
theorem hf25 : HasF Try.prog (num 25) (C25 num) := ⟨Try.f25, Try.func25, by kernel_rfl, by kernel_rfl, by kernel_rfl⟩
theorem hf94 : HasF Try.prog (num 94) (C94 num) := ⟨Try.f94, Try.func94, by kernel_rfl, by kernel_rfl, by kernel_rfl⟩
theorem hf27 : HasF Try.prog (num 27) (C27 num) := ⟨Try.f27, Try.func27, by kernel_rfl, by kernel_rfl, by kernel_rfl⟩
theorem hf95 : HasF Try.prog (num 95) (C95 num) := ⟨Try.f95, Try.func95, by kernel_rfl, by kernel_rfl, by kernel_rfl⟩
theorem hf96 : HasF Try.prog (num 96) (C96 num) := ⟨Try.f96, Try.func96, by kernel_rfl, by kernel_rfl, by kernel_rfl⟩
theorem hf59 : HasF Try.prog (num 59) (C59 num) := ⟨Try.f59, Try.func59, by kernel_rfl, by kernel_rfl, by kernel_rfl⟩
theorem hf99 : HasF Try.prog (num 99) (C99 num) := ⟨Try.f99, Try.func99, by kernel_rfl, by kernel_rfl, by kernel_rfl⟩
theorem hf112 : HasF Try.prog (num 112) (C112 num) := ⟨Try.f112, Try.func112, by kernel_rfl, by kernel_rfl, by kernel_rfl⟩
theorem hf65 : HasF Try.prog (num 65) (C65 num) := ⟨Try.f65, Try.func65, by kernel_rfl, by kernel_rfl, by kernel_rfl⟩
theorem hf56 : HasF Try.prog (num 56) (C56 num) := ⟨Try.f56, Try.func56, by kernel_rfl, by kernel_rfl, by kernel_rfl⟩
theorem hf30 : HasF Try.prog (num 30) (C30 num) := ⟨Try.f30, Try.func30, by kernel_rfl, by kernel_rfl, by kernel_rfl⟩
theorem hf84 : HasF Try.prog (num 84) (C84 num) := ⟨Try.f84, Try.func84, by kernel_rfl, by kernel_rfl, by kernel_rfl⟩
theorem hf85 : HasF Try.prog (num 85) (C85 num) := ⟨Try.f85, Try.func85, by kernel_rfl, by kernel_rfl, by kernel_rfl⟩
theorem hf39 : HasF Try.prog (num 39) (C39 num) := ⟨Try.f39, Try.func39, by kernel_rfl, by kernel_rfl, by kernel_rfl⟩
theorem hf88 : HasF Try.prog (num 88) (C88 num) := ⟨Try.f88, Try.func88, by kernel_rfl, by kernel_rfl, by kernel_rfl⟩
theorem hf40 : HasF Try.prog (num 40) (C40 num) := ⟨Try.f40, Try.func40, by kernel_rfl, by kernel_rfl, by kernel_rfl⟩
theorem hf92 : HasF Try.prog (num 92) (C92 num) := ⟨Try.f92, Try.func92, by kernel_rfl, by kernel_rfl, by kernel_rfl⟩
theorem hf32 : HasF Try.prog (num 32) (C32 num) := ⟨Try.f32, Try.func32, by kernel_rfl, by kernel_rfl, by kernel_rfl⟩
theorem hf41 : HasF Try.prog (num 41) (C41 num) := ⟨Try.f41, Try.func41, by kernel_rfl, by kernel_rfl, by kernel_rfl⟩
theorem hf31 : HasF Try.prog (num 31) (C31 num) := ⟨Try.f31, Try.func31, by kernel_rfl, by kernel_rfl, by kernel_rfl⟩
theorem hf93 : HasF Try.prog (num 93) (C93 num) := ⟨Try.f93, Try.func93, by kernel_rfl, by kernel_rfl, by kernel_rfl⟩
theorem hf42 : HasF Try.prog (num 42) (C42 num) := ⟨Try.f42, Try.func42, by kernel_rfl, by kernel_rfl, by kernel_rfl⟩
theorem hf43 : HasF Try.prog (num 43) (C43 num) := ⟨Try.f43, Try.func43, by kernel_rfl, by kernel_rfl, by kernel_rfl⟩
theorem hf57 : HasF Try.prog (num 57) (C57 num) := ⟨Try.f57, Try.func57, by kernel_rfl, by kernel_rfl, by kernel_rfl⟩
theorem hf98 : HasF Try.prog (num 98) (C98 num) := ⟨Try.f98, Try.func98, by kernel_rfl, by kernel_rfl, by kernel_rfl⟩
theorem hf63 : HasF Try.prog (num 63) (C63 num) := ⟨Try.f63, Try.func63, by kernel_rfl, by kernel_rfl, by kernel_rfl⟩
theorem hf22 : HasF Try.prog (num 22) (C22 num) := ⟨Try.f22, Try.func22, by kernel_rfl, by kernel_rfl, by kernel_rfl⟩
theorem hf61 : HasF Try.prog (num 61) (C61 num) := ⟨Try.f61, Try.func61, by kernel_rfl, by kernel_rfl, by kernel_rfl⟩
theorem hf38 : HasF Try.prog (num 38) (C38 num) := ⟨Try.f38, Try.func38, by kernel_rfl, by kernel_rfl, by kernel_rfl⟩
theorem hf68 : HasF Try.prog (num 68) (C68 num) := ⟨Try.f68, Try.func68, by kernel_rfl, by kernel_rfl, by kernel_rfl⟩
theorem hf67 : HasF Try.prog (num 67) (C67 num) := ⟨Try.f67, Try.func67, by kernel_rfl, by kernel_rfl, by kernel_rfl⟩
theorem hf17 : HasF Try.prog (num 17) (C17 num) := ⟨Try.f17, Try.func17, by kernel_rfl, by kernel_rfl, by kernel_rfl⟩
theorem hc82 : HC82 Try.prog num := hf82
theorem hc23 : HC23 Try.prog num := hf23
theorem hc25 : HC25 Try.prog num := ⟨hf25, hc82, hc23⟩
theorem hc94 : HC94 Try.prog num := ⟨hf94, hc25⟩
theorem hc27 : HC27 Try.prog num := ⟨hf27, hc25⟩
theorem hc95 : HC95 Try.prog num := ⟨hf95, hc27⟩
theorem hc94v2 : HC94v2 Try.prog num := ⟨hf94, hc25⟩
theorem hc96 : HC96 Try.prog num := ⟨hf96, hc23⟩
theorem hc59 : HC59 Try.prog num := ⟨hf59, hc94, hc95, hc94v2, hc96⟩
theorem hc99 : HC99 Try.prog num := hf99
theorem hcb65_51 : HCb65_51 Try.prog num := ⟨trivial, hc96, hc94v2, hc95⟩
theorem hc112 : HC112 Try.prog num := ⟨hf112, hcb65_51⟩
theorem hc65 : HC65 Try.prog num := ⟨hf65, hc94, hc96, hc95, hc94v2, hc99, hc112⟩
theorem hc56 : HC56 Try.prog num := ⟨hf56, hc59, hc65⟩
theorem hc30 : HC30 Try.prog num := hf30
theorem hc84 : HC84 Try.prog num := hf84
theorem hc85 : HC85 Try.prog num := hf85
theorem hc39 : HC39 Try.prog num := ⟨hf39, hc84, hc85⟩
theorem hc88 : HC88 Try.prog num := hf88
theorem hc40 : HC40 Try.prog num := ⟨hf40, hc39, hc88⟩
theorem hc92 : HC92 Try.prog num := ⟨hf92, hc40⟩
theorem hc32 : HC32 Try.prog num := hf32
theorem hc41 : HC41 Try.prog num := ⟨hf41, hc84, hc32, hc85⟩
theorem hc31 : HC31 Try.prog num := ⟨hf31, hc84, hc40, hc85, hc41⟩
theorem hc93 : HC93 Try.prog num := ⟨hf93, hc31⟩
theorem hc42 : HC42 Try.prog num := hf42
theorem hc43 : HC43 Try.prog num := ⟨hf43, hc42, hc32⟩
theorem hc57 : HC57 Try.prog num := ⟨hf57, hc30, hc92, hc93, hc39, hc31, hc43⟩
theorem hc98 : HC98 Try.prog num := ⟨hf98, hc39, hc92, hc31⟩
theorem hc63 : HC63 Try.prog num := ⟨hf63, hc30, hc92, hc39, hc93, hc42, hc98, hc43⟩
theorem hc22 : HC22 Try.prog num := hf22
theorem hc61 : HC61 Try.prog num := ⟨hf61, hc22⟩
theorem hc38 : HC38 Try.prog num := ⟨hf38, hc22⟩
theorem hc68 : HC68 Try.prog num := ⟨hf68, hc38⟩
theorem hc67 : HC67 Try.prog num := ⟨hf67, hc68⟩
theorem hc17 : HC17 Try.prog num := ⟨hf17, hc56, hc59, hc57, hc65, hc63, hc61, hc67, hc22⟩
theorem rdTRequest : Rd Try.prog 71 TRequest.enc TRequest.wf TRequest.sz := rd_struct Try.underlying71 (fun (b : (Int × ((List UInt8) × ((List UInt8) × ((List UInt8) × (Int × (Int × (Int × (Int × (Int × (Int × ((List UInt8) × Unit)))))))))))) => TRequest.mk b.1 b.2.1 b.2.2.1 b.2.2.2.1 b.2.2.2.2.1 b.2.2.2.2.2.1 b.2.2.2.2.2.2.1 b.2.2.2.2.2.2.2.1 b.2.2.2.2.2.2.2.2.1 b.2.2.2.2.2.2.2.2.2.1 b.2.2.2.2.2.2.2.2.2.2.1) (fun _ => rfl) (fun b => (show _ = 11 from rfl).trans (show 11 = Try.prog.cellsOf 71 by kernel_rfl)) (fun _ h => h) (fun _ => Nat.le_refl _) (rdf_cons rfl (int_ok _) (rd_i64 Try.underlying3) (rdf_cons rfl str_ok (rd_str Try.underlying9) (rdf_cons rfl str_ok (rd_str Try.underlying9) (rdf_cons rfl str_ok (rd_str Try.underlying9) (rdf_cons rfl (int_ok _) (rd_i64 Try.underlying3) (rdf_cons rfl (int_ok _) (rd_i64 Try.underlying3) (rdf_cons rfl (int_ok _) (rd_u64 Try.underlying22) (rdf_cons rfl (int_ok _) (rd_u64 Try.underlying22) (rdf_cons rfl (int_ok _) (rd_u64 Try.underlying22) (rdf_cons rfl (int_ok _) (rd_i64 Try.underlying3) (rdf_cons rfl slE_ok (rd_slice Try.underlying23 byteD_ok (by decide) (by kernel_rfl) (rd_byte Try.underlying5)) rdf_nil)))))))))))
theorem rdTMessage : Rd Try.prog 41 TMessage.enc TMessage.wf TMessage.sz := rd_struct Try.underlying41 (fun (b : (Int × (Int × (Int × (Int × ((List UInt8) × Unit)))))) => TMessage.mk b.1 b.2.1 b.2.2.1 b.2.2.2.1 b.2.2.2.2.1) (fun _ => rfl) (fun b => (show _ = 5 from rfl).trans (show 5 = Try.prog.cellsOf 41 by kernel_rfl)) (fun _ h => h) (fun _ => Nat.le_refl _) (rdf_cons rfl (int_ok _) (rd_u64 Try.underlying22) (rdf_cons rfl (int_ok _) (rd_u64 Try.underlying22) (rdf_cons rfl (int_ok _) (rd_u64 Try.underlying22) (rdf_cons rfl (int_ok _) (rd_i64 Try.underlying3) (rdf_cons rfl slE_ok (rd_slice Try.underlying23 byteD_ok (by decide) (by kernel_rfl) (rd_byte Try.underlying5)) rdf_nil)))))
theorem rdTReply : Rd Try.prog 78 TReply.enc TReply.wf TReply.sz := rd_struct Try.underlying78 (fun (b : (Int × (Int × (Int × (Int × ((List UInt8) × ((List TMessage) × Unit))))))) => TReply.mk b.1 b.2.1 b.2.2.1 b.2.2.2.1 b.2.2.2.2.1 b.2.2.2.2.2.1) (fun _ => rfl) (fun b => (show _ = 6 from rfl).trans (show 6 = Try.prog.cellsOf 78 by kernel_rfl)) (fun _ h => h) (fun _ => Nat.le_refl _) (rdf_cons rfl (int_ok _) (rd_i64 Try.underlying42) (rdf_cons rfl (int_ok _) (rd_i64 Try.underlying3) (rdf_cons rfl (int_ok _) (rd_i64 Try.underlying3) (rdf_cons rfl (int_ok _) (rd_u64 Try.underlying22) (rdf_cons rfl str_ok (rd_str Try.underlying9) (rdf_cons rfl slE_ok (rd_slice Try.underlying39 TMessage.ok (by decide) (by kernel_rfl) rdTMessage) rdf_nil))))))
mutual
theorem bulk_eq {H : Type} : ∀ d : DataW H, Rows.uptoBulk d = bulk d
  | .lit l => by cases l <;> simp only [Rows.uptoBulk, bulk]
  | .nil => by simp only [Rows.uptoBulk, bulk]
  | .ptr d => by simp only [Rows.uptoBulk, bulk, bulk_eq d]
  | .slice es sp => by simp only [Rows.uptoBulk, bulk, bulkAll_eq es, bulkAll_eq sp]
  | .agg ps => by simp only [Rows.uptoBulk, bulk, bulkAll_eq ps]
  | .iface _ d => by simp only [Rows.uptoBulk, bulk, bulk_eq d]
  | .map es => by simp only [Rows.uptoBulk, bulk, bulkEntries_eq es]
  | .held _ => by simp only [Rows.uptoBulk, bulk]
theorem bulkAll_eq {H : Type} : ∀ ds : List (DataW H), Rows.uptoBulkAll ds = bulkAll ds
  | [] => by simp only [Rows.uptoBulkAll, bulkAll]
  | d :: r => by simp only [Rows.uptoBulkAll, bulkAll, bulk_eq d, bulkAll_eq r]
theorem bulkEntries_eq {H : Type} : ∀ es : List (Lit × DataW H), Rows.uptoBulkEntries es = bulkEntries es
  | [] => by simp only [Rows.uptoBulkEntries, bulkEntries]
  | x :: r => by simp only [Rows.uptoBulkEntries, bulkEntries, bulkEntry_eq x, bulkEntries_eq r]
theorem bulkEntry_eq {H : Type} : ∀ x : Lit × DataW H, Rows.uptoBulkEntry x = bulkEntry x
  | (l, d) => by cases l <;> simp only [Rows.uptoBulkEntry, bulkEntry, bulk_eq d]
end
theorem contract (H : Type) (enc : TypeId × Value → H) (W : World) (base : Nat) (args : Array Value) (ds gs : List (DataW H)) (before : List MemPlace)
    (hval0 : ∀ (j : Nat) t v, Try.f17.params[j]? = some t → args[j]? = some v → Value.okWide Try.prog W .any base t v)
    (hW : DataW.Whole enc Try.prog Try.f17.params.toList Rows.requestBackSpec.vars false W args.toList ds gs before) (hk : Rows.uptoSmall H (ds ++ gs) = true) :
    Calls Try.prog 17 args W fun e W' => ∃ v, e = .returned v ∧ Rows.requestBackSpec.post enc Try.prog Try.f17 false true false false W args v W' := by
  have hval : ∀ (j : Nat) t v, Try.f17.params[j]? = some t → args[j]? = some v → Value.okWide Try.prog W .any base t v := hval0
  have hW' := hW
  obtain ⟨p, q, hA0, hV, rfl, hfz, hnd⟩ := hW
  have hA : DataW.TrodAll enc Try.prog W 0 (fun _ => true) true Try.f17.params.toList args.toList ds p := hA0
  rw [Try.params17] at hA hval
  obtain ⟨v0, vs0, d0, ds0, p0, q0, hargs, rfl, rfl, h0, r0⟩ := trodAll_cons hA
  obtain ⟨v1, vs1, d1, ds1, p1, q1, rfl, rfl, rfl, h1, r1⟩ := trodAll_cons r0
  obtain ⟨v2, vs2, d2, ds2, p2, q2, rfl, rfl, rfl, h2, r2⟩ := trodAll_cons r1
  obtain ⟨v3, vs3, d3, ds3, p3, q3, rfl, rfl, rfl, h3, r3⟩ := trodAll_cons r2
  obtain ⟨rfl, rfl, rfl⟩ := trodAll_nil r3
  obtain rfl : args = #[v0, v1, v2, v3] := by cases args; simp_all
  obtain ⟨rfl, rfl⟩ := trodVars_none hV
  have hb : Rows.uptoBulkAll [d0, d1, d2, d3] ≤ 1048576 := of_decide_eq_true (show Rows.uptoSmall H [d0, d1, d2, d3] = true by rw [List.append_nil] at hk; exact hk)
  simp only [Rows.uptoBulkAll, bulk_eq] at hb
  have lt0 : ∀ x ∈ p0, x.block < W.heap.size := by obtain ⟨m, hm⟩ := h0; exact fun x hx => DataW.trod_lt m _ _ _ hm x hx
  obtain ⟨a0, w0, s0, e0⟩ := Rd.arg rdTRequest TRequest.ok Try.underlying71 rfl (hval 0 71 v0 rfl rfl) h0
  have lt1 : ∀ x ∈ p1, x.block < W.heap.size := by obtain ⟨m, hm⟩ := h1; exact fun x hx => DataW.trod_lt m _ _ _ hm x hx
  obtain ⟨a1, w1, s1, e1⟩ := Rd.arg rdTReply TReply.ok Try.underlying78 rfl (hval 1 78 v1 rfl rfl) h1
  have lt2 : ∀ x ∈ p2, x.block < W.heap.size := by obtain ⟨m, hm⟩ := h2; exact fun x hx => DataW.trod_lt m _ _ _ hm x hx
  obtain ⟨a2, w2, s2, e2⟩ := Rd.arg (rd_slice Try.underlying23 byteD_ok (by decide) (by kernel_rfl) (rd_byte Try.underlying5)) slE_ok Try.underlying23 rfl (hval 2 23 v2 rfl rfl) h2
  have lt3 : ∀ x ∈ p3, x.block < W.heap.size := by obtain ⟨m, hm⟩ := h3; exact fun x hx => DataW.trod_lt m _ _ _ hm x hx
  obtain ⟨a3, w3, s3, e3⟩ := Rd.arg (rd_byte Try.underlying5) byteD_ok Try.underlying5 rfl (hval 3 5 v3 rfl rfl) h3
  obtain ⟨k, hk2⟩ := law_RequestBack a0 a1 a2 a3 w0 w1 w2 w3 (by simp only [] at *; omega)
  have hc := F17 (N := num) hmix hc17 hk2
  clear hA0 hval0
  refine (law_calls hc (vs := [v0, v1, v2, v3]) W rfl fun j g1 g2 => ?_).mono fun e W' ⟨he, bel⟩ => ?_
  · match j with
    | 0 => exact .d e0
    | 1 => exact .d e1
    | 2 => exact .d e2
    | 3 => exact .d e3
  subst he
  exact ⟨_, rfl, _, _, _, [], _, [], hW', trodAll_mk1 (shut_bool Try.underlying4 _), (trodAll_cons_mk (Below.trod laidOut (by kernel_rfl) (of_decide_eq_true (by kernel_rfl)) h0 bel lt0) (trodAll_cons_mk (Below.trod laidOut (by kernel_rfl) (of_decide_eq_true (by kernel_rfl)) h1 bel lt1) (trodAll_cons_mk (Below.trod laidOut (by kernel_rfl) (of_decide_eq_true (by kernel_rfl)) h2 bel lt2) (trodAll_cons_mk (Below.trod laidOut (by kernel_rfl) (of_decide_eq_true (by kernel_rfl)) h3 bel lt3) trodAll_mk0)))), rfl, bel.frame _, fun h => by cases h⟩
set_option maxRecDepth 100000 in
theorem lifted (os : Os) (started : os.Started) (H : Type) (enc : TypeId × Value → H) (F : Stop.Interp) :
    ReturnsInHanded {} Try.checked os 17 .any ((Rows.OpenSpec.upto Rows.requestBackSpec).pre6 enc Try.prog Try.f17 Rows.requestBackUptoRow.domain false) (((Rows.OpenSpec.upto Rows.requestBackSpec).at F).post enc Try.prog Try.f17 false true false false) := by
  refine returnsInHanded_of_cond (C := Try.checked) (s := Rows.OpenSpec.upto Rows.requestBackSpec) (k := Rows.uptoSmall) rfl own started (by kernel_rfl) Try.func17
    (OpenSpec.witness (enc := enc) (C := Try.checked) (s := Rows.OpenSpec.upto Rows.requestBackSpec) (k := Rows.uptoSmall) rfl false ⟨#[], #[.agg #[.int .i64 0, .string ⟨#[]⟩, .string ⟨#[]⟩, .string ⟨#[]⟩, .int .i64 0, .int .i64 0, .int .u64 0, .int .u64 0, .int .u64 0, .int .i64 0, .slice none 0 0], .agg #[.int .i64 0, .int .i64 0, .int .i64 0, .int .u64 0, .string ⟨#[]⟩, .slice none 0 0], .slice none 0 0, .int .u8 0], []⟩ 8 (by kernel_rfl) (by kernel_rfl) (by kernel_rfl)
      (x := ([.agg [.lit (.int .i64 0), .lit (.string []), .lit (.string []), .lit (.string []), .lit (.int .i64 0), .lit (.int .i64 0), .lit (.int .u64 0), .lit (.int .u64 0), .lit (.int .u64 0), .lit (.int .i64 0), .nil], .agg [.lit (.int .i64 0), .lit (.int .i64 0), .lit (.int .i64 0), .lit (.int .u64 0), .lit (.string []), .nil], .nil, .lit (.int .u8 0)], [], [])) (by kernel_rfl) rfl (by kernel_rfl)) ?_
  intro W base args ds gs before hval hW _ hk _
  exact contract H enc W base args ds gs before hval hW hk
theorem over : Rows.requestBackUptoRow.holds Try.pinned (Rows.OpenSpec.upto Rows.requestBackSpec) :=
  OpenClaim.holds_of_cond 17 Try.f17 rfl rfl rfl rfl rfl rfl rfl ⟨rfl, rfl, rfl, rfl, rfl⟩ rfl rfl rfl rfl rfl (by kernel_rfl) Try.func17 (by kernel_rfl)
    (of_decide_eq_true (by kernel_rfl)) (by unfold Func.isWrapper; first | (rw [if_pos (by decide +kernel)]; kernel_rfl) | (rw [if_neg (by decide +kernel)]; exact ⟨rfl, rfl⟩))
    (fun os started H enc _ F => lifted os started H enc F)
end Go.Proofs.Ytojmpoboidomeaa.requestBack
namespace Go.Proofs.Ytojmpoboidomeaa
/-- The row, under a short name, for the claim. -/
theorem requestBack_holds : Rows.RequestBackUptoSaid := requestBack.over
#print axioms requestBack_holds
end Go.Proofs.Ytojmpoboidomeaa
