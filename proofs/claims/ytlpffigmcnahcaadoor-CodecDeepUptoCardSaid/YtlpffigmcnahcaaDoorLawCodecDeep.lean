/- The law CodecDeep of courantlaw08 says true for every input of a bounded bulk. -/
import Derived.Test.YtlpffigmcnahcaaDoorCards
import Derived.Test.YtlpffigmcnahcaaDoorTie
import Derived.Deep.DeepHandedRow
import Derived.Lay
import Derived.LaidMore
import Derived.SevenTiedAt
import Derived.Test.YtlpffigmcnahcaaDoorRows
import Derived.Test.YtlpffigmcnahcaaDoorGCdc
import Derived.Test.YtlpffigmcnahcaaDoorPC8
import Derived.WalkKit
import Derived.ProofKit
import Derived.OpenShut
import Derived.JoinedCond
import Derived.ChangeOld
import Derived.Below
import Derived.Carry
set_option linter.unusedSimpArgs false
namespace Go.Proofs.YtlpffigmcnahcaaDoor.codecDeep
open Go.ChangeShapes Go.WideShapes Go.ChangeAt Go.RowKit
open Go.Proofs.Abs
set_option linter.unusedVariables false
set_option maxRecDepth 100000
theorem own : ownKnob Tryd.prog.godebug = none := by kernel_rfl
theorem laidOut : laidOutB Tryd.prog = true := by kernel_rfl
theorem hmix : Tryd.prog.follows .mixedOrders = true := by kernel_rfl
def num : Nat → Nat
  | 22 => 10
  | 23 => 42
  | 25 => 28
  | 27 => 30
  | 30 => 20
  | 31 => 57
  | 32 => 22
  | 39 => 55
  | 40 => 46
  | 41 => 56
  | 42 => 47
  | 82 => 43
  | 84 => 61
  | 85 => 62
  | 87 => 58
  | 88 => 54
  | 239 => 53
  | 240 => 60
  | 432 => 11
  | 433 => 18
  | 434 => 19
  | 435 => 31
  | 436 => 32
  | 442 => 59
  | 449 => 8
  | 450 => 14
  | 451 => 21
  | 452 => 33
  | 453 => 44
  | 454 => 34
  | 455 => 45
  | 456 => 49
  | 457 => 24
  | 459 => 6
  | 460 => 9
  | 461 => 15
  | 462 => 23
  | 463 => 36
  | 464 => 4
  | 465 => 35
  | 466 => 48
  | 467 => 25
  | 468 => 26
  | 469 => 16
  | 470 => 27
  | 471 => 40
  | 472 => 41
  | 473 => 52
  | 474 => 17
  | 475 => 29
  | k => k
theorem hf463 : HasF Tryd.prog (num 463) (C463 num) := ⟨Tryd.f36, Tryd.func36, by kernel_rfl, by kernel_rfl, by kernel_rfl⟩
theorem hf462 : HasF Tryd.prog (num 462) (C462 num) := ⟨Tryd.f23, Tryd.func23, by kernel_rfl, by kernel_rfl, by kernel_rfl⟩
theorem hf467 : HasF Tryd.prog (num 467) (C467 num) := ⟨Tryd.f25, Tryd.func25, by kernel_rfl, by kernel_rfl, by kernel_rfl⟩
theorem hf461 : HasF Tryd.prog (num 461) (C461 num) := ⟨Tryd.f15, Tryd.func15, by kernel_rfl, by kernel_rfl, by kernel_rfl⟩
theorem hf470 : HasF Tryd.prog (num 470) (C470 num) := ⟨Tryd.f27, Tryd.func27, by kernel_rfl, by kernel_rfl, by kernel_rfl⟩
theorem hf87 : HasF Tryd.prog (num 87) (C87 num) := ⟨Tryd.f58, Tryd.func58, by kernel_rfl, by kernel_rfl, by kernel_rfl⟩
theorem hf442 : HasF Tryd.prog (num 442) (C442 num) := ⟨Tryd.f59, Tryd.func59, by kernel_rfl, by kernel_rfl, by kernel_rfl⟩
theorem hf473 : HasF Tryd.prog (num 473) (C473 num) := ⟨Tryd.f52, Tryd.func52, by kernel_rfl, by kernel_rfl, by kernel_rfl⟩
theorem hf472 : HasF Tryd.prog (num 472) (C472 num) := ⟨Tryd.f41, Tryd.func41, by kernel_rfl, by kernel_rfl, by kernel_rfl⟩
theorem hf471 : HasF Tryd.prog (num 471) (C471 num) := ⟨Tryd.f40, Tryd.func40, by kernel_rfl, by kernel_rfl, by kernel_rfl⟩
theorem hf469 : HasF Tryd.prog (num 469) (C469 num) := ⟨Tryd.f16, Tryd.func16, by kernel_rfl, by kernel_rfl, by kernel_rfl⟩
theorem hf82 : HasF Tryd.prog (num 82) (C82 num) := ⟨Tryd.f43, Tryd.func43, by kernel_rfl, by kernel_rfl, by kernel_rfl⟩
theorem hf23 : HasF Tryd.prog (num 23) (C23 num) := ⟨Tryd.f42, Tryd.func42, by kernel_rfl, by kernel_rfl, by kernel_rfl⟩
theorem hf25 : HasF Tryd.prog (num 25) (C25 num) := ⟨Tryd.f28, Tryd.func28, by kernel_rfl, by kernel_rfl, by kernel_rfl⟩
theorem hf27 : HasF Tryd.prog (num 27) (C27 num) := ⟨Tryd.f30, Tryd.func30, by kernel_rfl, by kernel_rfl, by kernel_rfl⟩
theorem hf475 : HasF Tryd.prog (num 475) (C475 num) := ⟨Tryd.f29, Tryd.func29, by kernel_rfl, by kernel_rfl, by kernel_rfl⟩
theorem hf474 : HasF Tryd.prog (num 474) (C474 num) := ⟨Tryd.f17, Tryd.func17, by kernel_rfl, by kernel_rfl, by kernel_rfl⟩
theorem hf460 : HasF Tryd.prog (num 460) (C460 num) := ⟨Tryd.f9, Tryd.func9, by kernel_rfl, by kernel_rfl, by kernel_rfl⟩
theorem hf30 : HasF Tryd.prog (num 30) (C30 num) := ⟨Tryd.f20, Tryd.func20, by kernel_rfl, by kernel_rfl, by kernel_rfl⟩
theorem hf84 : HasF Tryd.prog (num 84) (C84 num) := ⟨Tryd.f61, Tryd.func61, by kernel_rfl, by kernel_rfl, by kernel_rfl⟩
theorem hf85 : HasF Tryd.prog (num 85) (C85 num) := ⟨Tryd.f62, Tryd.func62, by kernel_rfl, by kernel_rfl, by kernel_rfl⟩
theorem hf39 : HasF Tryd.prog (num 39) (C39 num) := ⟨Tryd.f55, Tryd.func55, by kernel_rfl, by kernel_rfl, by kernel_rfl⟩
theorem hf88 : HasF Tryd.prog (num 88) (C88 num) := ⟨Tryd.f54, Tryd.func54, by kernel_rfl, by kernel_rfl, by kernel_rfl⟩
theorem hf40 : HasF Tryd.prog (num 40) (C40 num) := ⟨Tryd.f46, Tryd.func46, by kernel_rfl, by kernel_rfl, by kernel_rfl⟩
theorem hf42 : HasF Tryd.prog (num 42) (C42 num) := ⟨Tryd.f47, Tryd.func47, by kernel_rfl, by kernel_rfl, by kernel_rfl⟩
theorem hf454 : HasF Tryd.prog (num 454) (C454 num) := ⟨Tryd.f34, Tryd.func34, by kernel_rfl, by kernel_rfl, by kernel_rfl⟩
theorem hf453 : HasF Tryd.prog (num 453) (C453 num) := ⟨Tryd.f44, Tryd.func44, by kernel_rfl, by kernel_rfl, by kernel_rfl⟩
theorem hf32 : HasF Tryd.prog (num 32) (C32 num) := ⟨Tryd.f22, Tryd.func22, by kernel_rfl, by kernel_rfl, by kernel_rfl⟩
theorem hf41 : HasF Tryd.prog (num 41) (C41 num) := ⟨Tryd.f56, Tryd.func56, by kernel_rfl, by kernel_rfl, by kernel_rfl⟩
theorem hf31 : HasF Tryd.prog (num 31) (C31 num) := ⟨Tryd.f57, Tryd.func57, by kernel_rfl, by kernel_rfl, by kernel_rfl⟩
theorem hf456 : HasF Tryd.prog (num 456) (C456 num) := ⟨Tryd.f49, Tryd.func49, by kernel_rfl, by kernel_rfl, by kernel_rfl⟩
theorem hf240 : HasF Tryd.prog (num 240) (C240 num) := ⟨Tryd.f60, Tryd.func60, by kernel_rfl, by kernel_rfl, by kernel_rfl⟩
theorem hf239 : HasF Tryd.prog (num 239) (C239 num) := ⟨Tryd.f53, Tryd.func53, by kernel_rfl, by kernel_rfl, by kernel_rfl⟩
theorem hf455 : HasF Tryd.prog (num 455) (C455 num) := ⟨Tryd.f45, Tryd.func45, by kernel_rfl, by kernel_rfl, by kernel_rfl⟩
theorem hf452 : HasF Tryd.prog (num 452) (C452 num) := ⟨Tryd.f33, Tryd.func33, by kernel_rfl, by kernel_rfl, by kernel_rfl⟩
theorem hf466 : HasF Tryd.prog (num 466) (C466 num) := ⟨Tryd.f48, Tryd.func48, by kernel_rfl, by kernel_rfl, by kernel_rfl⟩
theorem hf465 : HasF Tryd.prog (num 465) (C465 num) := ⟨Tryd.f35, Tryd.func35, by kernel_rfl, by kernel_rfl, by kernel_rfl⟩
theorem hf451 : HasF Tryd.prog (num 451) (C451 num) := ⟨Tryd.f21, Tryd.func21, by kernel_rfl, by kernel_rfl, by kernel_rfl⟩
theorem hf450 : HasF Tryd.prog (num 450) (C450 num) := ⟨Tryd.f14, Tryd.func14, by kernel_rfl, by kernel_rfl, by kernel_rfl⟩
theorem hf449 : HasF Tryd.prog (num 449) (C449 num) := ⟨Tryd.f8, Tryd.func8, by kernel_rfl, by kernel_rfl, by kernel_rfl⟩
theorem hf459 : HasF Tryd.prog (num 459) (C459 num) := ⟨Tryd.f6, Tryd.func6, by kernel_rfl, by kernel_rfl, by kernel_rfl⟩
theorem hf22 : HasF Tryd.prog (num 22) (C22 num) := ⟨Tryd.f10, Tryd.func10, by kernel_rfl, by kernel_rfl, by kernel_rfl⟩
theorem hf433 : HasF Tryd.prog (num 433) (C433 num) := ⟨Tryd.f18, Tryd.func18, by kernel_rfl, by kernel_rfl, by kernel_rfl⟩
theorem hf436 : HasF Tryd.prog (num 436) (C436 num) := ⟨Tryd.f32, Tryd.func32, by kernel_rfl, by kernel_rfl, by kernel_rfl⟩
theorem hf435 : HasF Tryd.prog (num 435) (C435 num) := ⟨Tryd.f31, Tryd.func31, by kernel_rfl, by kernel_rfl, by kernel_rfl⟩
theorem hf434 : HasF Tryd.prog (num 434) (C434 num) := ⟨Tryd.f19, Tryd.func19, by kernel_rfl, by kernel_rfl, by kernel_rfl⟩
theorem hf432 : HasF Tryd.prog (num 432) (C432 num) := ⟨Tryd.f11, Tryd.func11, by kernel_rfl, by kernel_rfl, by kernel_rfl⟩
theorem hf464 : HasF Tryd.prog (num 464) (C464 num) := ⟨Tryd.f4, Tryd.func4, by kernel_rfl, by kernel_rfl, by kernel_rfl⟩
theorem hc463 : HC463 Tryd.prog num := hf463
theorem hc462 : HC462 Tryd.prog num := ⟨hf462, hc463⟩
theorem hc467 : HC467 Tryd.prog num := hf467
theorem hc461 : HC461 Tryd.prog num := ⟨hf461, hc462, hc467⟩
theorem hc470 : HC470 Tryd.prog num := hf470
theorem hc87 : HC87 Tryd.prog num := hf87
theorem hc442 : HC442 Tryd.prog num := hf442
theorem hc473 : HC473 Tryd.prog num := ⟨hf473, hc87, hc442⟩
theorem hcb469_18 : HCb469_18 Tryd.prog num := trivial
theorem hc472 : HC472 Tryd.prog num := ⟨hf472, hc473, hcb469_18⟩
theorem hc471 : HC471 Tryd.prog num := ⟨hf471, hc472⟩
theorem hc469 : HC469 Tryd.prog num := ⟨hf469, hc470, hc471⟩
theorem hc82 : HC82 Tryd.prog num := hf82
theorem hc23 : HC23 Tryd.prog num := hf23
theorem hc25 : HC25 Tryd.prog num := ⟨hf25, hc82, hc23⟩
theorem hc27 : HC27 Tryd.prog num := ⟨hf27, hc25⟩
theorem hc475 : HC475 Tryd.prog num := ⟨hf475, hc25, hc27⟩
theorem hc474 : HC474 Tryd.prog num := ⟨hf474, hc25, hc475, hc27⟩
theorem hc460 : HC460 Tryd.prog num := ⟨hf460, hc461, hc469, hc474⟩
theorem hc30 : HC30 Tryd.prog num := hf30
theorem hc84 : HC84 Tryd.prog num := hf84
theorem hc85 : HC85 Tryd.prog num := hf85
theorem hc39 : HC39 Tryd.prog num := ⟨hf39, hc84, hc85⟩
theorem hc88 : HC88 Tryd.prog num := hf88
theorem hc40 : HC40 Tryd.prog num := ⟨hf40, hc39, hc88⟩
theorem hc42 : HC42 Tryd.prog num := hf42
theorem hc454 : HC454 Tryd.prog num := ⟨hf454, hc40, hc42⟩
theorem hc453 : HC453 Tryd.prog num := ⟨hf453, hc454⟩
theorem hc32 : HC32 Tryd.prog num := hf32
theorem hc41 : HC41 Tryd.prog num := ⟨hf41, hc84, hc32, hc85⟩
theorem hc31 : HC31 Tryd.prog num := ⟨hf31, hc84, hc40, hc85, hc41⟩
theorem hc456 : HC456 Tryd.prog num := ⟨hf456, hc31, hc42⟩
theorem hc240 : HC240 Tryd.prog num := hf240
theorem hc239 : HC239 Tryd.prog num := ⟨hf239, hc240⟩
theorem hc455 : HC455 Tryd.prog num := ⟨hf455, hc456, hc239⟩
theorem hc455v2 : HC455v2 Tryd.prog num := ⟨hf455, hc456, hc239⟩
theorem hc452 : HC452 Tryd.prog num := ⟨hf452, hc453, hc32, hc455, hc455v2⟩
theorem hc466 : HC466 Tryd.prog num := ⟨hf466, hc41, hc42⟩
theorem hc465 : HC465 Tryd.prog num := ⟨hf465, hc466, hc454, hc456⟩
theorem hc451 : HC451 Tryd.prog num := ⟨hf451, hc452, hc454, hc465⟩
theorem hc450 : HC450 Tryd.prog num := ⟨hf450, hc30, hc451, hc32⟩
theorem hc449 : HC449 Tryd.prog num := ⟨hf449, hc450⟩
theorem hc459 : HC459 Tryd.prog num := ⟨hf459, hc460⟩
theorem hc22 : HC22 Tryd.prog num := hf22
theorem hc433 : HC433 Tryd.prog num := hf433
theorem hc436 : HC436 Tryd.prog num := hf436
theorem hc435 : HC435 Tryd.prog num := ⟨hf435, hc436⟩
theorem hc434 : HC434 Tryd.prog num := ⟨hf434, hc435⟩
theorem hc432 : HC432 Tryd.prog num := ⟨hf432, hc22, hc433, hc434⟩
theorem hc464 : HC464 Tryd.prog num := ⟨hf464, hc460, hc449, hc459, hc22, hc432⟩
mutual
theorem bulk_eq {H : Type} : ∀ d : DataW H, Rows.uptoBulk d = bulk d
  | .lit l => by cases l <;> simp only [Rows.uptoBulk, bulk]
  | .nil => by simp only [Rows.uptoBulk, bulk]
  | .ptr d => by simp only [Rows.uptoBulk, bulk, bulk_eq d]
  | .slice es sp => by simp only [Rows.uptoBulk, bulk, bulkAll_eq es, bulkAll_eq sp]
  | .agg ps => by simp only [Rows.uptoBulk, bulk, bulkAll_eq ps]
  | .iface _ d => by simp only [Rows.uptoBulk, bulk, bulk_eq d]
  | .map es => by simp only [Rows.uptoBulk, bulk, bulkEntries_eq es]
  | .held _ => by simp only [Rows.uptoBulk, bulk]
theorem bulkAll_eq {H : Type} : ∀ ds : List (DataW H), Rows.uptoBulkAll ds = bulkAll ds
  | [] => by simp only [Rows.uptoBulkAll, bulkAll]
  | d :: r => by simp only [Rows.uptoBulkAll, bulkAll, bulk_eq d, bulkAll_eq r]
theorem bulkEntries_eq {H : Type} : ∀ es : List (Lit × DataW H), Rows.uptoBulkEntries es = bulkEntries es
  | [] => by simp only [Rows.uptoBulkEntries, bulkEntries]
  | x :: r => by simp only [Rows.uptoBulkEntries, bulkEntries, bulkEntry_eq x, bulkEntries_eq r]
theorem bulkEntry_eq {H : Type} : ∀ x : Lit × DataW H, Rows.uptoBulkEntry x = bulkEntry x
  | (l, d) => by cases l <;> simp only [Rows.uptoBulkEntry, bulkEntry, bulk_eq d]
end
theorem contract (H : Type) (enc : TypeId × Value → H) (W : World) (base : Nat) (args : Array Value) (ds gs : List (DataW H)) (before : List MemPlace)
    (hval0 : ∀ (j : Nat) t v, Tryd.f4.params[j]? = some t → args[j]? = some v → Value.okWide Tryd.prog W .any base t v)
    (hW : DataW.Whole enc Tryd.prog Tryd.f4.params.toList Rows.codecDeepSpec.vars false W args.toList ds gs before) (hk : Rows.uptoSmall H (ds ++ gs) = true) :
    Calls Tryd.prog 4 args W fun e W' => ∃ v, e = .returned v ∧ Rows.codecDeepSpec.post enc Tryd.prog Tryd.f4 false true false false W args v W' := by
  have hval : ∀ (j : Nat) t v, Tryd.f4.params[j]? = some t → args[j]? = some v → Value.okWide Tryd.prog W .any base t v := hval0
  have hW' := hW
  obtain ⟨p, q, hA0, hV, rfl, hfz, hnd⟩ := hW
  have hA : DataW.TrodAll enc Tryd.prog W 0 (fun _ => true) true Tryd.f4.params.toList args.toList ds p := hA0
  rw [Tryd.params4] at hA hval
  obtain ⟨v0, vs0, d0, ds0, p0, q0, hargs, rfl, rfl, h0, r0⟩ := trodAll_cons hA
  obtain ⟨rfl, rfl, rfl⟩ := trodAll_nil r0
  obtain rfl : args = #[v0] := by cases args; simp_all
  obtain ⟨rfl, rfl⟩ := trodVars_none hV
  have hb : Rows.uptoBulkAll [d0] ≤ 1048576 := of_decide_eq_true (show Rows.uptoSmall H [d0] = true by rw [List.append_nil] at hk; exact hk)
  simp only [Rows.uptoBulkAll, bulk_eq] at hb
  have lt0 : ∀ x ∈ p0, x.block < W.heap.size := by obtain ⟨m, hm⟩ := h0; exact fun x hx => DataW.trod_lt m _ _ _ hm x hx
  obtain ⟨a0, w0, s0, e0⟩ := Rd.arg (rd_i64 Tryd.underlying3) (int_ok _) Tryd.underlying3 rfl (hval 0 3 v0 rfl rfl) h0
  obtain ⟨k, hk2⟩ := law_CodecDeep a0 w0 (by simp only [] at *; omega)
  have hc := F464 (N := num) hmix hc464 hk2
  clear hA0 hval0
  refine (law_calls hc (vs := [v0]) W (fun a v h => by simp [gT, gOnT] at h) rfl fun j g1 g2 => ?_).mono fun e W' ⟨he, bel⟩ => ?_
  · match j with
    | 0 => exact .d e0
  subst he
  exact ⟨_, rfl, _, _, _, [], _, [], hW', trodAll_mk1 (shut_bool Tryd.underlying4 _), (trodAll_cons_mk (Below.trod laidOut (by kernel_rfl) (of_decide_eq_true (by kernel_rfl)) h0 bel lt0) trodAll_mk0), rfl, bel.frame _, fun h => by cases h⟩
theorem laid_met (os : Os) : laidMetH Tryd.prog Rows.codecDeepUptoRow.laid ((World.laidAll Tryd.prog os Rows.codecDeepUptoRow.laid).forCall (fun _ _ => 0) ⟨#[], #[.int .i64 0], []⟩).memory := by
  rw [MakeChecks.laidMetH_plain _ _ _ (by kernel_rfl)]
  exact laidMet_laidAll _ (by kernel_rfl) (by kernel_rfl)
theorem reads (os : Os) {H : Type} (enc : TypeId × Value → H) : ∃ places, DataW.whole enc Tryd.prog ((World.laidAll Tryd.prog os Rows.codecDeepUptoRow.laid).forCall (fun _ _ => 0) ⟨#[], #[.int .i64 0], []⟩).memory Tryd.f4.params.toList Rows.codecDeepSpec.vars false (#[.int .i64 0] : Array Value).toList 8 = some ([.lit (.int .i64 0)], [], places) :=
  ⟨[], by kernel_rfl⟩
set_option maxRecDepth 100000 in
theorem lifted (os : Os) (started : os.Started) (H : Type) (enc : TypeId × Value → H) (F : Stop.Interp) :
    ReturnsInHanded {} Tryd.checked os 4 .any ((Rows.OpenSpec.upto Rows.codecDeepSpec).preRow enc Tryd.prog Tryd.f4 Rows.codecDeepUptoRow.domain false Rows.codecDeepUptoRow.laid) (((Rows.OpenSpec.upto Rows.codecDeepSpec).at F).post enc Tryd.prog Tryd.f4 false true false false) := by
  obtain ⟨places, hx⟩ := reads os enc
  refine returnsInHanded_of_row (C := Tryd.checked) (s := Rows.OpenSpec.upto Rows.codecDeepSpec) own started (by kernel_rfl) Tryd.func4
    (witness_row_at (enc := enc) (C := Tryd.checked) false (World.laidAll Tryd.prog os Rows.codecDeepUptoRow.laid) #[.int .i64 0] (World.laidAll_os _ _ _) (by kernel_rfl) (by kernel_rfl) (by kernel_rfl)
      (OpenSpec.preRow_of_cond 8 hx (by kernel_rfl) (fun k hk => by cases hk; kernel_rfl) (by kernel_rfl) (laid_met os))) ?_
  intro W base args ds gs before hval hW _ hk _ _ _ _
  exact contract H enc W base args ds gs before hval hW (hk _ rfl)
theorem over : Rows.codecDeepUptoRow.holds Tryd.pinned (Rows.OpenSpec.upto Rows.codecDeepSpec) :=
  OpenClaim.holds_of_cond 4 Tryd.f4 rfl rfl rfl rfl rfl rfl rfl ⟨rfl, rfl, rfl, rfl, rfl⟩ rfl rfl rfl rfl rfl (by kernel_rfl) Tryd.func4 (by kernel_rfl)
    (of_decide_eq_true (by kernel_rfl)) (by unfold Func.isWrapper; first | (rw [if_pos (by decide +kernel)]; kernel_rfl) | (rw [if_neg (by decide +kernel)]; exact ⟨rfl, rfl⟩))
    (fun os started H enc _ F => by rw [OpenClaim.pre_eq_preRow]; exact lifted os started H enc F)
theorem plain (f : FuncId) (fn : Func) (hf : Tryd.pinned.checked.prog.funcNamed "courant/courantlaw08.CodecDeep" = some f) (hfn : Tryd.pinned.checked.prog.funcs[f]? = some fn) :
    false = Tryd.pinned.checked.prog.looks [] ∧ ∀ (j : Nat) t, fn.params[j]? = some t → Tryd.pinned.checked.prog.wantsStandIn t = false := by
  obtain rfl : f = 4 := Option.some.inj ((show Tryd.prog.funcNamed "courant/courantlaw08.CodecDeep" = some 4 by kernel_rfl).symm.trans hf) |>.symm
  obtain rfl : fn = Tryd.f4 := (Option.some.inj (Tryd.func4.symm.trans hfn)).symm
  refine ⟨by kernel_rfl, fun j t ht => ?_⟩
  rw [Tryd.params4] at ht
  have hm : t ∈ [3] := by have := Array.mem_of_getElem? ht; simpa using this
  have hall : ([3].all fun u => !Tryd.prog.wantsStandIn u) = true := by kernel_rfl
  exact (show Tryd.prog.wantsStandIn t = false by simpa using List.all_eq_true.1 hall t hm)
theorem card : Rows.CodecDeepUptoCardSaid :=
  Claim7.holds_tied_plain_at .later [] _ _ _ _ over (fun _ h => by cases h) (by kernel_rfl) (fun _ h => by cases h) codecDeepUpto_row_tie rfl ⟨rfl, rfl⟩ (by kernel_rfl) rfl plain (by kernel_rfl)
end Go.Proofs.YtlpffigmcnahcaaDoor.codecDeep
namespace Go.Proofs.YtlpffigmcnahcaaDoor
/-- The row, under a short name, for the claim. -/
theorem codecDeep_holds : Rows.CodecDeepUptoCardSaid := codecDeep.card
#print axioms codecDeep_holds
end Go.Proofs.YtlpffigmcnahcaaDoor
