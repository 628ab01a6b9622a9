/- The law KeyedBytes of courantlaw22 says true for every input of a bounded bulk. -/
import Derived.Test.YtojmpoboidomeaaRows
import Derived.Test.YtojmpoboidomeaaGLkbyc
import Derived.Test.YtojmpoboidomeaaPKby
import Derived.Test.YtojmpoboidomeaaPDel
import Derived.WalkKit
import Derived.ProofKit
import Derived.OpenShut
import Derived.JoinedCond
import Derived.ChangeOld
import Derived.Below
import Derived.Carry
set_option linter.unusedSimpArgs false
namespace Go.Proofs.Ytojmpoboidomeaa.keyedBytes
open Go.ChangeShapes Go.WideShapes Go.ChangeAt Go.RowKit
open Go.Proofs.Abs
set_option linter.unusedVariables false
set_option maxRecDepth 100000
theorem own : ownKnob Try.prog.godebug = none := by kernel_rfl
theorem laidOut : laidOutB Try.prog = true := by kernel_rfl
theorem hmix : Try.prog.follows .mixedOrders = true := by kernel_rfl
def num : Nat → Nat
  | 18 => 18
  | 21 => 21
  | 22 => 22
  | 23 => 23
  | 24 => 24
  | 25 => 25
  | 26 => 26
  | 27 => 27
  | 28 => 28
  | 29 => 29
  | 30 => 30
  | 31 => 31
  | 32 => 32
  | 39 => 39
  | 40 => 40
  | 41 => 41
  | 42 => 42
  | 43 => 43
  | 44 => 44
  | 46 => 46
  | 47 => 47
  | 48 => 48
  | 49 => 49
  | 50 => 50
  | 69 => 69
  | 70 => 70
  | 71 => 71
  | 72 => 72
  | 76 => 76
  | 78 => 78
  | 79 => 79
  | 80 => 80
  | 81 => 81
  | 82 => 82
  | 83 => 83
  | 84 => 84
  | 85 => 85
  | 87 => 87
  | 88 => 88
  | 89 => 89
  | 90 => 90
  | 97 => 97
  | 100 => 100
  | 101 => 101
  | 102 => 102
  | 103 => 103
  | 105 => 105
  | 106 => 106
  | 107 => 107
  | 108 => 108
  | 109 => 109
  | 113 => 113
  | k => k
theorem hf70 : HasF Try.prog (num 70) (C70 num) := ⟨Try.f70, Try.func70, by kernel_rfl, by kernel_rfl, by kernel_rfl⟩
theorem hf87 : HasF Try.prog (num 87) (C87 num) := ⟨Try.f87, Try.func87, by kernel_rfl, by kernel_rfl, by kernel_rfl⟩
theorem hf100 : HasF Try.prog (num 100) (C100 num) := ⟨Try.f100, Try.func100, by kernel_rfl, by kernel_rfl, by kernel_rfl⟩
theorem hf101 : HasF Try.prog (num 101) (C101 num) := ⟨Try.f101, Try.func101, by kernel_rfl, by kernel_rfl, by kernel_rfl⟩
theorem hf113 : HasF Try.prog (num 113) (C113 num) := ⟨Try.f113, Try.func113, by kernel_rfl, by kernel_rfl, by kernel_rfl⟩
theorem hf72 : HasF Try.prog (num 72) (C72 num) := ⟨Try.f72, Try.func72, by kernel_rfl, by kernel_rfl, by kernel_rfl⟩
theorem hf69 : HasF Try.prog (num 69) (C69 num) := ⟨Try.f69, Try.func69, by kernel_rfl, by kernel_rfl, by kernel_rfl⟩
theorem hf97 : HasF Try.prog (num 97) (C97 num) := ⟨Try.f97, Try.func97, by kernel_rfl, by kernel_rfl, by kernel_rfl⟩
theorem hf71 : HasF Try.prog (num 71) (C71 num) := ⟨Try.f71, Try.func71, by kernel_rfl, by kernel_rfl, by kernel_rfl⟩
theorem hf21 : HasF Try.prog (num 21) (C21 num) := ⟨Try.f21, Try.func21, by kernel_rfl, by kernel_rfl, by kernel_rfl⟩
theorem hf30 : HasF Try.prog (num 30) (C30 num) := ⟨Try.f30, Try.func30, by kernel_rfl, by kernel_rfl, by kernel_rfl⟩
theorem hf84 : HasF Try.prog (num 84) (C84 num) := ⟨Try.f84, Try.func84, by kernel_rfl, by kernel_rfl, by kernel_rfl⟩
theorem hf85 : HasF Try.prog (num 85) (C85 num) := ⟨Try.f85, Try.func85, by kernel_rfl, by kernel_rfl, by kernel_rfl⟩
theorem hf39 : HasF Try.prog (num 39) (C39 num) := ⟨Try.f39, Try.func39, by kernel_rfl, by kernel_rfl, by kernel_rfl⟩
theorem hf88 : HasF Try.prog (num 88) (C88 num) := ⟨Try.f88, Try.func88, by kernel_rfl, by kernel_rfl, by kernel_rfl⟩
theorem hf40 : HasF Try.prog (num 40) (C40 num) := ⟨Try.f40, Try.func40, by kernel_rfl, by kernel_rfl, by kernel_rfl⟩
theorem hf42 : HasF Try.prog (num 42) (C42 num) := ⟨Try.f42, Try.func42, by kernel_rfl, by kernel_rfl, by kernel_rfl⟩
theorem hf32 : HasF Try.prog (num 32) (C32 num) := ⟨Try.f32, Try.func32, by kernel_rfl, by kernel_rfl, by kernel_rfl⟩
theorem hf41 : HasF Try.prog (num 41) (C41 num) := ⟨Try.f41, Try.func41, by kernel_rfl, by kernel_rfl, by kernel_rfl⟩
theorem hf31 : HasF Try.prog (num 31) (C31 num) := ⟨Try.f31, Try.func31, by kernel_rfl, by kernel_rfl, by kernel_rfl⟩
theorem hf107 : HasF Try.prog (num 107) (C107 num) := ⟨Try.f107, Try.func107, by kernel_rfl, by kernel_rfl, by kernel_rfl⟩
theorem hf43 : HasF Try.prog (num 43) (C43 num) := ⟨Try.f43, Try.func43, by kernel_rfl, by kernel_rfl, by kernel_rfl⟩
theorem hf78 : HasF Try.prog (num 78) (C78 num) := ⟨Try.f78, Try.func78, by kernel_rfl, by kernel_rfl, by kernel_rfl⟩
theorem hf44 : HasF Try.prog (num 44) (C44 num) := ⟨Try.f44, Try.func44, by kernel_rfl, by kernel_rfl, by kernel_rfl⟩
theorem hf89 : HasF Try.prog (num 89) (C89 num) := ⟨Try.f89, Try.func89, by kernel_rfl, by kernel_rfl, by kernel_rfl⟩
theorem hf46 : HasF Try.prog (num 46) (C46 num) := ⟨Try.f46, Try.func46, by kernel_rfl, by kernel_rfl, by kernel_rfl⟩
theorem hf90 : HasF Try.prog (num 90) (C90 num) := ⟨Try.f90, Try.func90, by kernel_rfl, by kernel_rfl, by kernel_rfl⟩
theorem hf47 : HasF Try.prog (num 47) (C47 num) := ⟨Try.f47, Try.func47, by kernel_rfl, by kernel_rfl, by kernel_rfl⟩
theorem hf48 : HasF Try.prog (num 48) (C48 num) := ⟨Try.f48, Try.func48, by kernel_rfl, by kernel_rfl, by kernel_rfl⟩
theorem hf49 : HasF Try.prog (num 49) (C49 num) := ⟨Try.f49, Try.func49, by kernel_rfl, by kernel_rfl, by kernel_rfl⟩
theorem hf50 : HasF Try.prog (num 50) (C50 num) := ⟨Try.f50, Try.func50, by kernel_rfl, by kernel_rfl, by kernel_rfl⟩
theorem hf79 : HasF Try.prog (num 79) (C79 num) := ⟨Try.f79, Try.func79, by kernel_rfl, by kernel_rfl, by kernel_rfl⟩
theorem hf82 : HasF Try.prog (num 82) (C82 num) := ⟨Try.f82, Try.func82, by kernel_rfl, by kernel_rfl, by kernel_rfl⟩
theorem hf23 : HasF Try.prog (num 23) (C23 num) := ⟨Try.f23, Try.func23, by kernel_rfl, by kernel_rfl, by kernel_rfl⟩
theorem hf25 : HasF Try.prog (num 25) (C25 num) := ⟨Try.f25, Try.func25, by kernel_rfl, by kernel_rfl, by kernel_rfl⟩
theorem hf27 : HasF Try.prog (num 27) (C27 num) := ⟨Try.f27, Try.func27, by kernel_rfl, by kernel_rfl, by kernel_rfl⟩
theorem hf80 : HasF Try.prog (num 80) (C80 num) := ⟨Try.f80, Try.func80, by kernel_rfl, by kernel_rfl, by kernel_rfl⟩
theorem hf24 : HasF Try.prog (num 24) (C24 num) := ⟨Try.f24, Try.func24, by kernel_rfl, by kernel_rfl, by kernel_rfl⟩
theorem hf26 : HasF Try.prog (num 26) (C26 num) := ⟨Try.f26, Try.func26, by kernel_rfl, by kernel_rfl, by kernel_rfl⟩
theorem hf28 : HasF Try.prog (num 28) (C28 num) := ⟨Try.f28, Try.func28, by kernel_rfl, by kernel_rfl, by kernel_rfl⟩
theorem hf81 : HasF Try.prog (num 81) (C81 num) := ⟨Try.f81, Try.func81, by kernel_rfl, by kernel_rfl, by kernel_rfl⟩
theorem hf22 : HasF Try.prog (num 22) (C22 num) := ⟨Try.f22, Try.func22, by kernel_rfl, by kernel_rfl, by kernel_rfl⟩
theorem hf106 : HasF Try.prog (num 106) (C106 num) := ⟨Try.f106, Try.func106, by kernel_rfl, by kernel_rfl, by kernel_rfl⟩
theorem hf105 : HasF Try.prog (num 105) (C105 num) := ⟨Try.f105, Try.func105, by kernel_rfl, by kernel_rfl, by kernel_rfl⟩
theorem hf76 : HasF Try.prog (num 76) (C76 num) := ⟨Try.f76, Try.func76, by kernel_rfl, by kernel_rfl, by kernel_rfl⟩
theorem hf109 : HasF Try.prog (num 109) (C109 num) := ⟨Try.f109, Try.func109, by kernel_rfl, by kernel_rfl, by kernel_rfl⟩
theorem hf108 : HasF Try.prog (num 108) (C108 num) := ⟨Try.f108, Try.func108, by kernel_rfl, by kernel_rfl, by kernel_rfl⟩
theorem hf83 : HasF Try.prog (num 83) (C83 num) := ⟨Try.f83, Try.func83, by kernel_rfl, by kernel_rfl, by kernel_rfl⟩
theorem hf29 : HasF Try.prog (num 29) (C29 num) := ⟨Try.f29, Try.func29, by kernel_rfl, by kernel_rfl, by kernel_rfl⟩
theorem hf18 : HasF Try.prog (num 18) (C18 num) := ⟨Try.f18, Try.func18, by kernel_rfl, by kernel_rfl, by kernel_rfl⟩
theorem hc70 : HC70 Try.prog num := hf70
theorem hc87 : HC87 Try.prog num := hf87
theorem hc100 : HC100 Try.prog num := hf100
theorem hc101 : HC101 Try.prog num := hf101
theorem hc102 : HC102 Try.prog num := delB
theorem hc103 : HC103 Try.prog num := insB
theorem hcb72_61 : HCb72_61 Try.prog num := ⟨trivial, hc101, hc87, hc102, hc103⟩
theorem hc113 : HC113 Try.prog num := ⟨hf113, hcb72_61⟩
theorem hc72 : HC72 Try.prog num := ⟨hf72, hc87, hc100, hc113⟩
theorem hc69 : HC69 Try.prog num := ⟨hf69, hc72⟩
theorem hc97 : HC97 Try.prog num := hf97
theorem hc71 : HC71 Try.prog num := ⟨hf71, hc97⟩
theorem hc21 : HC21 Try.prog num := hf21
theorem hc30 : HC30 Try.prog num := hf30
theorem hc84 : HC84 Try.prog num := hf84
theorem hc85 : HC85 Try.prog num := hf85
theorem hc39 : HC39 Try.prog num := ⟨hf39, hc84, hc85⟩
theorem hc88 : HC88 Try.prog num := hf88
theorem hc40 : HC40 Try.prog num := ⟨hf40, hc39, hc88⟩
theorem hc42 : HC42 Try.prog num := hf42
theorem hc32 : HC32 Try.prog num := hf32
theorem hc41 : HC41 Try.prog num := ⟨hf41, hc84, hc32, hc85⟩
theorem hc31 : HC31 Try.prog num := ⟨hf31, hc84, hc40, hc85, hc41⟩
theorem hc107 : HC107 Try.prog num := ⟨hf107, hc31, hc41, hc42⟩
theorem hc43 : HC43 Try.prog num := ⟨hf43, hc42, hc32⟩
theorem hc78 : HC78 Try.prog num := ⟨hf78, hc30, hc40, hc42, hc107, hc43⟩
theorem hc44 : HC44 Try.prog num := hf44
theorem hc89 : HC89 Try.prog num := hf89
theorem hc46 : HC46 Try.prog num := ⟨hf46, hc89⟩
theorem hc90 : HC90 Try.prog num := hf90
theorem hc47 : HC47 Try.prog num := ⟨hf47, hc46, hc90⟩
theorem hc48 : HC48 Try.prog num := ⟨hf48, hc89, hc90⟩
theorem hc49 : HC49 Try.prog num := hf49
theorem hc50 : HC50 Try.prog num := hf50
theorem hc79 : HC79 Try.prog num := ⟨hf79, hc44, hc47, hc48, hc49, hc50⟩
theorem hc82 : HC82 Try.prog num := hf82
theorem hc23 : HC23 Try.prog num := hf23
theorem hc25 : HC25 Try.prog num := ⟨hf25, hc82, hc23⟩
theorem hc27 : HC27 Try.prog num := ⟨hf27, hc25⟩
theorem hc80 : HC80 Try.prog num := ⟨hf80, hc25, hc27⟩
theorem hc24 : HC24 Try.prog num := hf24
theorem hc26 : HC26 Try.prog num := ⟨hf26, hc24⟩
theorem hc28 : HC28 Try.prog num := ⟨hf28, hc26⟩
theorem hc81 : HC81 Try.prog num := ⟨hf81, hc26, hc28⟩
theorem hc22 : HC22 Try.prog num := hf22
theorem hc106 : HC106 Try.prog num := ⟨hf106, hc22⟩
theorem hc105 : HC105 Try.prog num := ⟨hf105, hc106⟩
theorem hc76 : HC76 Try.prog num := ⟨hf76, hc105⟩
theorem hc109 : HC109 Try.prog num := hf109
theorem hc108 : HC108 Try.prog num := ⟨hf108, hc109⟩
theorem hc83 : HC83 Try.prog num := ⟨hf83, hc108⟩
theorem hc29 : HC29 Try.prog num := ⟨hf29, hc83⟩
theorem hc18 : HC18 Try.prog num := ⟨hf18, hc70, hc69, hc71, hc21, hc78, hc79, hc80, hc81, hc22, hc76, hc29⟩
theorem rdTPair : Rd Try.prog 95 TPair.enc TPair.wf TPair.sz := rd_struct Try.underlying95 (fun (b : ((List UInt8) × ((List UInt8) × (Bool × Unit)))) => TPair.mk b.1 b.2.1 b.2.2.1) (fun _ => rfl) (fun b => (show _ = 3 from rfl).trans (show 3 = Try.prog.cellsOf 95 by kernel_rfl)) (fun _ h => h) (fun _ => Nat.le_refl _) (rdf_cons rfl str_ok (rd_str Try.underlying9) (rdf_cons rfl slE_ok (rd_slice Try.underlying23 byteD_ok (by decide) (by kernel_rfl) (rd_byte Try.underlying5)) (rdf_cons rfl bool_ok (rd_bool Try.underlying4) rdf_nil)))
mutual
theorem bulk_eq {H : Type} : ∀ d : DataW H, Rows.uptoBulk d = bulk d
  | .lit l => by cases l <;> simp only [Rows.uptoBulk, bulk]
  | .nil => by simp only [Rows.uptoBulk, bulk]
  | .ptr d => by simp only [Rows.uptoBulk, bulk, bulk_eq d]
  | .slice es sp => by simp only [Rows.uptoBulk, bulk, bulkAll_eq es, bulkAll_eq sp]
  | .agg ps => by simp only [Rows.uptoBulk, bulk, bulkAll_eq ps]
  | .iface _ d => by simp only [Rows.uptoBulk, bulk, bulk_eq d]
  | .map es => by simp only [Rows.uptoBulk, bulk, bulkEntries_eq es]
  | .held _ => by simp only [Rows.uptoBulk, bulk]
theorem bulkAll_eq {H : Type} : ∀ ds : List (DataW H), Rows.uptoBulkAll ds = bulkAll ds
  | [] => by simp only [Rows.uptoBulkAll, bulkAll]
  | d :: r => by simp only [Rows.uptoBulkAll, bulkAll, bulk_eq d, bulkAll_eq r]
theorem bulkEntries_eq {H : Type} : ∀ es : List (Lit × DataW H), Rows.uptoBulkEntries es = bulkEntries es
  | [] => by simp only [Rows.uptoBulkEntries, bulkEntries]
  | x :: r => by simp only [Rows.uptoBulkEntries, bulkEntries, bulkEntry_eq x, bulkEntries_eq r]
theorem bulkEntry_eq {H : Type} : ∀ x : Lit × DataW H, Rows.uptoBulkEntry x = bulkEntry x
  | (l, d) => by cases l <;> simp only [Rows.uptoBulkEntry, bulkEntry, bulk_eq d]
end
theorem contract (H : Type) (enc : TypeId × Value → H) (W : World) (base : Nat) (args : Array Value) (ds gs : List (DataW H)) (before : List MemPlace)
    (hval0 : ∀ (j : Nat) t v, Try.f18.params[j]? = some t → args[j]? = some v → Value.okWide Try.prog W .any base t v)
    (hW : DataW.Whole enc Try.prog Try.f18.params.toList Rows.keyedBytesSpec.vars false W args.toList ds gs before) (hk : Rows.uptoSmall H (ds ++ gs) = true) :
    Calls Try.prog 18 args W fun e W' => ∃ v, e = .returned v ∧ Rows.keyedBytesSpec.post enc Try.prog Try.f18 false true false false W args v W' := by
  have hval : ∀ (j : Nat) t v, Try.f18.params[j]? = some t → args[j]? = some v → Value.okWide Try.prog W .any base t v := hval0
  have hW' := hW
  obtain ⟨p, q, hA0, hV, rfl, hfz, hnd⟩ := hW
  have hA : DataW.TrodAll enc Try.prog W 0 (fun _ => true) true Try.f18.params.toList args.toList ds p := hA0
  rw [Try.params18] at hA hval
  obtain ⟨v0, vs0, d0, ds0, p0, q0, hargs, rfl, rfl, h0, r0⟩ := trodAll_cons hA
  obtain ⟨v1, vs1, d1, ds1, p1, q1, rfl, rfl, rfl, h1, r1⟩ := trodAll_cons r0
  obtain ⟨rfl, rfl, rfl⟩ := trodAll_nil r1
  obtain rfl : args = #[v0, v1] := by cases args; simp_all
  obtain ⟨rfl, rfl⟩ := trodVars_none hV
  have hb : Rows.uptoBulkAll [d0, d1] ≤ 1048576 := of_decide_eq_true (show Rows.uptoSmall H [d0, d1] = true by rw [List.append_nil] at hk; exact hk)
  simp only [Rows.uptoBulkAll, bulk_eq] at hb
  have lt0 : ∀ x ∈ p0, x.block < W.heap.size := by obtain ⟨m, hm⟩ := h0; exact fun x hx => DataW.trod_lt m _ _ _ hm x hx
  obtain ⟨a0, w0, s0, e0⟩ := Rd.arg (rd_slice Try.underlying87 TPair.ok (by decide) (by kernel_rfl) rdTPair) slE_ok Try.underlying87 rfl (hval 0 87 v0 rfl rfl) h0
  have lt1 : ∀ x ∈ p1, x.block < W.heap.size := by obtain ⟨m, hm⟩ := h1; exact fun x hx => DataW.trod_lt m _ _ _ hm x hx
  obtain ⟨a1, w1, s1, e1⟩ := Rd.arg (rd_slice Try.underlying23 byteD_ok (by decide) (by kernel_rfl) (rd_byte Try.underlying5)) slE_ok Try.underlying23 rfl (hval 1 23 v1 rfl rfl) h1
  obtain ⟨k, hk2⟩ := law_KeyedBytes a0 a1 w0 w1 (by simp only [] at *; omega)
  have hc := F18 (N := num) hmix hc18 hk2
  clear hA0 hval0
  refine (law_calls hc (vs := [v0, v1]) W rfl fun j g1 g2 => ?_).mono fun e W' ⟨he, bel⟩ => ?_
  · match j with
    | 0 => exact .d e0
    | 1 => exact .d e1
  subst he
  exact ⟨_, rfl, _, _, _, [], _, [], hW', trodAll_mk1 (shut_bool Try.underlying4 _), (trodAll_cons_mk (Below.trod laidOut (by kernel_rfl) (of_decide_eq_true (by kernel_rfl)) h0 bel lt0) (trodAll_cons_mk (Below.trod laidOut (by kernel_rfl) (of_decide_eq_true (by kernel_rfl)) h1 bel lt1) trodAll_mk0)), rfl, bel.frame _, fun h => by cases h⟩
set_option maxRecDepth 100000 in
theorem lifted (os : Os) (started : os.Started) (H : Type) (enc : TypeId × Value → H) (F : Stop.Interp) :
    ReturnsInHanded {} Try.checked os 18 .any ((Rows.OpenSpec.upto Rows.keyedBytesSpec).pre6 enc Try.prog Try.f18 Rows.keyedBytesUptoRow.domain false) (((Rows.OpenSpec.upto Rows.keyedBytesSpec).at F).post enc Try.prog Try.f18 false true false false) := by
  refine returnsInHanded_of_cond (C := Try.checked) (s := Rows.OpenSpec.upto Rows.keyedBytesSpec) (k := Rows.uptoSmall) rfl own started (by kernel_rfl) Try.func18
    (OpenSpec.witness (enc := enc) (C := Try.checked) (s := Rows.OpenSpec.upto Rows.keyedBytesSpec) (k := Rows.uptoSmall) rfl false ⟨#[], #[.slice none 0 0, .slice none 0 0], []⟩ 8 (by kernel_rfl) (by kernel_rfl) (by kernel_rfl)
      (x := ([.nil, .nil], [], [])) (by kernel_rfl) rfl (by kernel_rfl)) ?_
  intro W base args ds gs before hval hW _ hk _
  exact contract H enc W base args ds gs before hval hW hk
theorem over : Rows.keyedBytesUptoRow.holds Try.pinned (Rows.OpenSpec.upto Rows.keyedBytesSpec) :=
  OpenClaim.holds_of_cond 18 Try.f18 rfl rfl rfl rfl rfl rfl rfl ⟨rfl, rfl, rfl, rfl, rfl⟩ rfl rfl rfl rfl rfl (by kernel_rfl) Try.func18 (by kernel_rfl)
    (of_decide_eq_true (by kernel_rfl)) (by unfold Func.isWrapper; first | (rw [if_pos (by decide +kernel)]; kernel_rfl) | (rw [if_neg (by decide +kernel)]; exact ⟨rfl, rfl⟩))
    (fun os started H enc _ F => lifted os started H enc F)
end Go.Proofs.Ytojmpoboidomeaa.keyedBytes
namespace Go.Proofs.Ytojmpoboidomeaa
/-- The row, under a short name, for the claim. -/
theorem keyedBytes_holds : Rows.KeyedBytesUptoSaid := keyedBytes.over
#print axioms keyedBytes_holds
end Go.Proofs.Ytojmpoboidomeaa
