/- The law JsonBack of courantlaw02 says true for every input of a bounded bulk. -/
import Derived.Test.YtnhjiioiejpbgaaDoorCards
import Derived.Test.YtnhjiioiejpbgaaDoorTie
import Derived.Deep.DeepHandedRow
import Derived.Lay
import Derived.LaidMore
import Derived.SevenTiedAt
import Derived.Test.YtnhjiioiejpbgaaDoorRows
import Derived.Test.YtnhjiioiejpbgaaDoorGJbc
import Derived.Test.YtnhjiioiejpbgaaDoorPB6
import Derived.WalkKit
import Derived.ProofKit
import Derived.OpenShut
import Derived.JoinedCond
import Derived.ChangeOld
import Derived.Below
import Derived.Carry
set_option linter.unusedSimpArgs false
namespace Go.Proofs.YtnhjiioiejpbgaaDoor.jsonBack
open Go.ChangeShapes Go.WideShapes Go.ChangeAt Go.RowKit
open Go.Proofs.Abs
set_option linter.unusedVariables false
set_option maxRecDepth 100000
theorem own : ownKnob Tryd.prog.godebug = none := by kernel_rfl
theorem laidOut : laidOutB Tryd.prog = true := by kernel_rfl
theorem hmix : Tryd.prog.follows .mixedOrders = true := by kernel_rfl
def num : Nat → Nat
  | 77 => 26
  | 239 => 82
  | 240 => 46
  | 298 => 39
  | 299 => 59
  | 336 => 72
  | 347 => 17
  | 348 => 42
  | 349 => 64
  | 350 => 62
  | 351 => 21
  | 354 => 19
  | 355 => 44
  | 356 => 22
  | 395 => 11
  | 396 => 12
  | 397 => 35
  | 398 => 36
  | 399 => 55
  | 400 => 56
  | 401 => 71
  | 402 => 73
  | 403 => 57
  | 404 => 74
  | 405 => 58
  | 406 => 66
  | 407 => 4
  | 408 => 15
  | 409 => 40
  | 416 => 79
  | 417 => 80
  | 418 => 81
  | 419 => 85
  | 420 => 84
  | 421 => 16
  | 422 => 18
  | 423 => 41
  | 424 => 63
  | 425 => 43
  | 426 => 65
  | 427 => 67
  | 428 => 69
  | 429 => 68
  | 430 => 77
  | 431 => 76
  | 434 => 28
  | 435 => 48
  | 436 => 49
  | 437 => 14
  | 438 => 33
  | k => k
theorem hf409 : HasF Tryd.prog (num 409) (C409 num) := ⟨Tryd.f40, Tryd.func40, by kernel_rfl, by kernel_rfl, by kernel_rfl⟩
theorem hf408 : HasF Tryd.prog (num 408) (C408 num) := ⟨Tryd.f15, Tryd.func15, by kernel_rfl, by kernel_rfl, by kernel_rfl⟩
theorem hf398 : HasF Tryd.prog (num 398) (C398 num) := ⟨Tryd.f36, Tryd.func36, by kernel_rfl, by kernel_rfl, by kernel_rfl⟩
theorem hf399 : HasF Tryd.prog (num 399) (C399 num) := ⟨Tryd.f55, Tryd.func55, by kernel_rfl, by kernel_rfl, by kernel_rfl⟩
theorem hf401 : HasF Tryd.prog (num 401) (C401 num) := ⟨Tryd.f71, Tryd.func71, by kernel_rfl, by kernel_rfl, by kernel_rfl⟩
theorem hf420 : HasF Tryd.prog (num 420) (C420 num) := ⟨Tryd.f84, Tryd.func84, by kernel_rfl, by kernel_rfl, by kernel_rfl⟩
theorem hf416 : HasF Tryd.prog (num 416) (C416 num) := ⟨Tryd.f79, Tryd.func79, by kernel_rfl, by kernel_rfl, by kernel_rfl⟩
theorem hf419 : HasF Tryd.prog (num 419) (C419 num) := ⟨Tryd.f85, Tryd.func85, by kernel_rfl, by kernel_rfl, by kernel_rfl⟩
theorem hf417 : HasF Tryd.prog (num 417) (C417 num) := ⟨Tryd.f80, Tryd.func80, by kernel_rfl, by kernel_rfl, by kernel_rfl⟩
theorem hf418 : HasF Tryd.prog (num 418) (C418 num) := ⟨Tryd.f81, Tryd.func81, by kernel_rfl, by kernel_rfl, by kernel_rfl⟩
theorem hf402 : HasF Tryd.prog (num 402) (C402 num) := ⟨Tryd.f73, Tryd.func73, by kernel_rfl, by kernel_rfl, by kernel_rfl⟩
theorem hf400 : HasF Tryd.prog (num 400) (C400 num) := ⟨Tryd.f56, Tryd.func56, by kernel_rfl, by kernel_rfl, by kernel_rfl⟩
theorem hf240 : HasF Tryd.prog (num 240) (C240 num) := ⟨Tryd.f46, Tryd.func46, by kernel_rfl, by kernel_rfl, by kernel_rfl⟩
theorem hf239 : HasF Tryd.prog (num 239) (C239 num) := ⟨Tryd.f82, Tryd.func82, by kernel_rfl, by kernel_rfl, by kernel_rfl⟩
theorem hf404 : HasF Tryd.prog (num 404) (C404 num) := ⟨Tryd.f74, Tryd.func74, by kernel_rfl, by kernel_rfl, by kernel_rfl⟩
theorem hf403 : HasF Tryd.prog (num 403) (C403 num) := ⟨Tryd.f57, Tryd.func57, by kernel_rfl, by kernel_rfl, by kernel_rfl⟩
theorem hf406 : HasF Tryd.prog (num 406) (C406 num) := ⟨Tryd.f66, Tryd.func66, by kernel_rfl, by kernel_rfl, by kernel_rfl⟩
theorem hf405 : HasF Tryd.prog (num 405) (C405 num) := ⟨Tryd.f58, Tryd.func58, by kernel_rfl, by kernel_rfl, by kernel_rfl⟩
theorem hf397 : HasF Tryd.prog (num 397) (C397 num) := ⟨Tryd.f35, Tryd.func35, by kernel_rfl, by kernel_rfl, by kernel_rfl⟩
theorem hf396 : HasF Tryd.prog (num 396) (C396 num) := ⟨Tryd.f12, Tryd.func12, by kernel_rfl, by kernel_rfl, by kernel_rfl⟩
theorem hf426 : HasF Tryd.prog (num 426) (C426 num) := ⟨Tryd.f65, Tryd.func65, by kernel_rfl, by kernel_rfl, by kernel_rfl⟩
theorem hf427 : HasF Tryd.prog (num 427) (C427 num) := ⟨Tryd.f67, Tryd.func67, by kernel_rfl, by kernel_rfl, by kernel_rfl⟩
theorem hf431 : HasF Tryd.prog (num 431) (C431 num) := ⟨Tryd.f76, Tryd.func76, by kernel_rfl, by kernel_rfl, by kernel_rfl⟩
theorem hf428 : HasF Tryd.prog (num 428) (C428 num) := ⟨Tryd.f69, Tryd.func69, by kernel_rfl, by kernel_rfl, by kernel_rfl⟩
theorem hf430 : HasF Tryd.prog (num 430) (C430 num) := ⟨Tryd.f77, Tryd.func77, by kernel_rfl, by kernel_rfl, by kernel_rfl⟩
theorem hf429 : HasF Tryd.prog (num 429) (C429 num) := ⟨Tryd.f68, Tryd.func68, by kernel_rfl, by kernel_rfl, by kernel_rfl⟩
theorem hf425 : HasF Tryd.prog (num 425) (C425 num) := ⟨Tryd.f43, Tryd.func43, by kernel_rfl, by kernel_rfl, by kernel_rfl⟩
theorem hf422 : HasF Tryd.prog (num 422) (C422 num) := ⟨Tryd.f18, Tryd.func18, by kernel_rfl, by kernel_rfl, by kernel_rfl⟩
theorem hf424 : HasF Tryd.prog (num 424) (C424 num) := ⟨Tryd.f63, Tryd.func63, by kernel_rfl, by kernel_rfl, by kernel_rfl⟩
theorem hf423 : HasF Tryd.prog (num 423) (C423 num) := ⟨Tryd.f41, Tryd.func41, by kernel_rfl, by kernel_rfl, by kernel_rfl⟩
theorem hf421 : HasF Tryd.prog (num 421) (C421 num) := ⟨Tryd.f16, Tryd.func16, by kernel_rfl, by kernel_rfl, by kernel_rfl⟩
theorem hf395 : HasF Tryd.prog (num 395) (C395 num) := ⟨Tryd.f11, Tryd.func11, by kernel_rfl, by kernel_rfl, by kernel_rfl⟩
theorem hf299 : HasF Tryd.prog (num 299) (C299 num) := ⟨Tryd.f59, Tryd.func59, by kernel_rfl, by kernel_rfl, by kernel_rfl⟩
theorem hf298 : HasF Tryd.prog (num 298) (C298 num) := ⟨Tryd.f39, Tryd.func39, by kernel_rfl, by kernel_rfl, by kernel_rfl⟩
theorem hf350 : HasF Tryd.prog (num 350) (C350 num) := ⟨Tryd.f62, Tryd.func62, by kernel_rfl, by kernel_rfl, by kernel_rfl⟩
theorem hf349 : HasF Tryd.prog (num 349) (C349 num) := ⟨Tryd.f64, Tryd.func64, by kernel_rfl, by kernel_rfl, by kernel_rfl⟩
theorem hf77 : HasF Tryd.prog (num 77) (C77 num) := ⟨Tryd.f26, Tryd.func26, by kernel_rfl, by kernel_rfl, by kernel_rfl⟩
theorem hf348 : HasF Tryd.prog (num 348) (C348 num) := ⟨Tryd.f42, Tryd.func42, by kernel_rfl, by kernel_rfl, by kernel_rfl⟩
theorem hf347 : HasF Tryd.prog (num 347) (C347 num) := ⟨Tryd.f17, Tryd.func17, by kernel_rfl, by kernel_rfl, by kernel_rfl⟩
theorem hf438 : HasF Tryd.prog (num 438) (C438 num) := ⟨Tryd.f33, Tryd.func33, by kernel_rfl, by kernel_rfl, by kernel_rfl⟩
theorem hf436 : HasF Tryd.prog (num 436) (C436 num) := ⟨Tryd.f49, Tryd.func49, by kernel_rfl, by kernel_rfl, by kernel_rfl⟩
theorem hf435 : HasF Tryd.prog (num 435) (C435 num) := ⟨Tryd.f48, Tryd.func48, by kernel_rfl, by kernel_rfl, by kernel_rfl⟩
theorem hf434 : HasF Tryd.prog (num 434) (C434 num) := ⟨Tryd.f28, Tryd.func28, by kernel_rfl, by kernel_rfl, by kernel_rfl⟩
theorem hf437 : HasF Tryd.prog (num 437) (C437 num) := ⟨Tryd.f14, Tryd.func14, by kernel_rfl, by kernel_rfl, by kernel_rfl⟩
theorem hf356 : HasF Tryd.prog (num 356) (C356 num) := ⟨Tryd.f22, Tryd.func22, by kernel_rfl, by kernel_rfl, by kernel_rfl⟩
theorem hf355 : HasF Tryd.prog (num 355) (C355 num) := ⟨Tryd.f44, Tryd.func44, by kernel_rfl, by kernel_rfl, by kernel_rfl⟩
theorem hf354 : HasF Tryd.prog (num 354) (C354 num) := ⟨Tryd.f19, Tryd.func19, by kernel_rfl, by kernel_rfl, by kernel_rfl⟩
theorem hf407 : HasF Tryd.prog (num 407) (C407 num) := ⟨Tryd.f4, Tryd.func4, by kernel_rfl, by kernel_rfl, by kernel_rfl⟩
theorem hc409 : HC409 Tryd.prog num := hf409
theorem hc408 : HC408 Tryd.prog num := ⟨hf408, hc409⟩
theorem hc398 : HC398 Tryd.prog num := hf398
theorem hc399 : HC399 Tryd.prog num := hf399
theorem hc401 : HC401 Tryd.prog num := hf401
theorem hc336 : HC336 Tryd.prog num := decJ
theorem hc420 : HC420 Tryd.prog num := hf420
theorem hc416 : HC416 Tryd.prog num := ⟨hf416, hc420, hc401⟩
theorem hc419 : HC419 Tryd.prog num := hf419
theorem hc417 : HC417 Tryd.prog num := ⟨hf417, hc419⟩
theorem hc418 : HC418 Tryd.prog num := hf418
theorem hc402 : HC402 Tryd.prog num := ⟨hf402, hc401, hc416, hc417, hc418⟩
theorem hc400 : HC400 Tryd.prog num := ⟨hf400, hc401, hc336, hc402⟩
theorem hc240 : HC240 Tryd.prog num := hf240
theorem hc239 : HC239 Tryd.prog num := ⟨hf239, hc240⟩
theorem hc404 : HC404 Tryd.prog num := ⟨hf404, hc398, hc400, hc239, hc401⟩
theorem hc404v2 : HC404v2 Tryd.prog num := ⟨hf404, hc398, hc400, hc239, hc401⟩
theorem hc403 : HC403 Tryd.prog num := ⟨hf403, hc398, hc401, hc404, hc404v2⟩
theorem hc406 : HC406 Tryd.prog num := hf406
theorem hc405 : HC405 Tryd.prog num := ⟨hf405, hc401, hc406⟩
theorem hc397 : HC397 Tryd.prog num := ⟨hf397, hc398, hc399, hc400, hc403, hc405⟩
theorem hc396 : HC396 Tryd.prog num := ⟨hf396, hc397, hc398⟩
theorem hc426 : HC426 Tryd.prog num := hf426
theorem hc351 : HC351 Tryd.prog num := valJ
theorem hc427 : HC427 Tryd.prog num := hf427
theorem hcb425_134 : HCb425_134 Tryd.prog num := ⟨trivial, hc351⟩
theorem hc431 : HC431 Tryd.prog num := ⟨hf431, hcb425_134⟩
theorem hc428 : HC428 Tryd.prog num := hf428
theorem hc430 : HC430 Tryd.prog num := ⟨hf430, hc428⟩
theorem hc429 : HC429 Tryd.prog num := ⟨hf429, hc430⟩
theorem hc425 : HC425 Tryd.prog num := ⟨hf425, hc426, hc406, hc351, hc427, hc431, hc429⟩
theorem hc422 : HC422 Tryd.prog num := ⟨hf422, hc425⟩
theorem hc424 : HC424 Tryd.prog num := hf424
theorem hc423 : HC423 Tryd.prog num := ⟨hf423, hc424⟩
theorem hc421 : HC421 Tryd.prog num := ⟨hf421, hc422, hc423⟩
theorem hc395 : HC395 Tryd.prog num := ⟨hf395, hc396, hc421⟩
theorem hc299 : HC299 Tryd.prog num := hf299
theorem hc298 : HC298 Tryd.prog num := hf298
theorem hc350 : HC350 Tryd.prog num := ⟨hf350, hc299, hc298⟩
theorem hc349 : HC349 Tryd.prog num := ⟨hf349, hc350⟩
theorem hc77 : HC77 Tryd.prog num := hf77
theorem hc348 : HC348 Tryd.prog num := ⟨hf348, hc349, hc351, hc77⟩
theorem hc347 : HC347 Tryd.prog num := ⟨hf347, hc348⟩
theorem hc438 : HC438 Tryd.prog num := hf438
theorem hc436 : HC436 Tryd.prog num := hf436
theorem hc435 : HC435 Tryd.prog num := ⟨hf435, hc436⟩
theorem hc434 : HC434 Tryd.prog num := ⟨hf434, hc435⟩
theorem hc437 : HC437 Tryd.prog num := ⟨hf437, hc438, hc434⟩
theorem hc356 : HC356 Tryd.prog num := hf356
theorem hc355 : HC355 Tryd.prog num := ⟨hf355, hc356⟩
theorem hc354 : HC354 Tryd.prog num := ⟨hf354, hc347, hc355⟩
theorem hc407 : HC407 Tryd.prog num := ⟨hf407, hc408, hc395, hc421, hc347, hc396, hc437, hc422, hc354⟩
mutual
theorem bulk_eq {H : Type} : ∀ d : DataW H, Rows.uptoBulk d = bulk d
  | .lit l => by cases l <;> simp only [Rows.uptoBulk, bulk]
  | .nil => by simp only [Rows.uptoBulk, bulk]
  | .ptr d => by simp only [Rows.uptoBulk, bulk, bulk_eq d]
  | .slice es sp => by simp only [Rows.uptoBulk, bulk, bulkAll_eq es, bulkAll_eq sp]
  | .agg ps => by simp only [Rows.uptoBulk, bulk, bulkAll_eq ps]
  | .iface _ d => by simp only [Rows.uptoBulk, bulk, bulk_eq d]
  | .map es => by simp only [Rows.uptoBulk, bulk, bulkEntries_eq es]
  | .held _ => by simp only [Rows.uptoBulk, bulk]
theorem bulkAll_eq {H : Type} : ∀ ds : List (DataW H), Rows.uptoBulkAll ds = bulkAll ds
  | [] => by simp only [Rows.uptoBulkAll, bulkAll]
  | d :: r => by simp only [Rows.uptoBulkAll, bulkAll, bulk_eq d, bulkAll_eq r]
theorem bulkEntries_eq {H : Type} : ∀ es : List (Lit × DataW H), Rows.uptoBulkEntries es = bulkEntries es
  | [] => by simp only [Rows.uptoBulkEntries, bulkEntries]
  | x :: r => by simp only [Rows.uptoBulkEntries, bulkEntries, bulkEntry_eq x, bulkEntries_eq r]
theorem bulkEntry_eq {H : Type} : ∀ x : Lit × DataW H, Rows.uptoBulkEntry x = bulkEntry x
  | (l, d) => by cases l <;> simp only [Rows.uptoBulkEntry, bulkEntry, bulk_eq d]
end
theorem contract (H : Type) (enc : TypeId × Value → H) (W : World) (base : Nat) (args : Array Value) (ds gs : List (DataW H)) (before : List MemPlace)
    (hval0 : ∀ (j : Nat) t v, Tryd.f4.params[j]? = some t → args[j]? = some v → Value.okWide Tryd.prog W .any base t v)
    (hT : ∀ a v, gT a = some v → W.cell? a = some v)
    (hW : DataW.Whole enc Tryd.prog Tryd.f4.params.toList Rows.jsonBackSpec.vars false W args.toList ds gs before) (hk : Rows.uptoSmall H (ds ++ gs) = true) :
    Calls Tryd.prog 4 args W fun e W' => ∃ v, e = .returned v ∧ Rows.jsonBackSpec.post enc Tryd.prog Tryd.f4 false true false false W args v W' := by
  have hval : ∀ (j : Nat) t v, Tryd.f4.params[j]? = some t → args[j]? = some v → Value.okWide Tryd.prog W .any base t v := hval0
  have hW' := hW
  obtain ⟨p, q, hA0, hV, rfl, hfz, hnd⟩ := hW
  have hA : DataW.TrodAll enc Tryd.prog W 0 (fun _ => true) true Tryd.f4.params.toList args.toList ds p := hA0
  rw [Tryd.params4] at hA hval
  obtain ⟨v0, vs0, d0, ds0, p0, q0, hargs, rfl, rfl, h0, r0⟩ := trodAll_cons hA
  obtain ⟨v1, vs1, d1, ds1, p1, q1, rfl, rfl, rfl, h1, r1⟩ := trodAll_cons r0
  obtain ⟨rfl, rfl, rfl⟩ := trodAll_nil r1
  obtain rfl : args = #[v0, v1] := by cases args; simp_all
  obtain ⟨rfl, rfl⟩ := trodVars_none hV
  have hb : Rows.uptoBulkAll [d0, d1] ≤ 1048576 := of_decide_eq_true (show Rows.uptoSmall H [d0, d1] = true by rw [List.append_nil] at hk; exact hk)
  simp only [Rows.uptoBulkAll, bulk_eq] at hb
  have lt0 : ∀ x ∈ p0, x.block < W.heap.size := by obtain ⟨m, hm⟩ := h0; exact fun x hx => DataW.trod_lt m _ _ _ hm x hx
  obtain ⟨a0, w0, s0, e0⟩ := Rd.arg (rd_json _ _ _ _ rfl Tryd.underlying26 (by kernel_rfl) rfl rfl rfl rfl Tryd.underlying3 Tryd.underlying9 Tryd.underlying23 Tryd.underlying24 Tryd.underlying9 (by kernel_rfl)) TJson.ok Tryd.underlying26 rfl (hval 0 26 v0 rfl rfl) h0
  have lt1 : ∀ x ∈ p1, x.block < W.heap.size := by obtain ⟨m, hm⟩ := h1; exact fun x hx => DataW.trod_lt m _ _ _ hm x hx
  obtain ⟨a1, w1, s1, e1⟩ := Rd.arg (rd_str Tryd.underlying9) str_ok Tryd.underlying9 rfl (hval 1 9 v1 rfl rfl) h1
  obtain ⟨k, hk2⟩ := law_JsonBack a0 a1 w0 w1 (by simp only [] at *; omega)
  have hc := F407 (N := num) hmix hc407 hk2
  clear hA0 hval0
  refine (law_calls hc (vs := [v0, v1]) W hT rfl fun j g1 g2 => ?_).mono fun e W' ⟨he, bel⟩ => ?_
  · match j with
    | 0 => exact .d e0
    | 1 => exact .d e1
  subst he
  exact ⟨_, rfl, _, _, _, [], _, [], hW', trodAll_mk1 (shut_bool Tryd.underlying4 _), (trodAll_cons_mk (Below.trod laidOut (by kernel_rfl) (of_decide_eq_true (by kernel_rfl)) h0 bel lt0) (trodAll_cons_mk (Below.trod laidOut (by kernel_rfl) (of_decide_eq_true (by kernel_rfl)) h1 bel lt1) trodAll_mk0)), rfl, bel.frame _, fun h => by cases h⟩
theorem laid_met (os : Os) : laidMetH Tryd.prog Rows.jsonBackUptoRow.laid ((World.laidAll Tryd.prog os Rows.jsonBackUptoRow.laid).forCall (fun _ _ => 0) ⟨#[], #[.agg #[.int .i64 0, .string ⟨#[]⟩, .slice none 0 0, .slice none 0 0], .string ⟨#[]⟩], []⟩).memory := by
  rw [MakeChecks.laidMetH_plain _ _ _ (by kernel_rfl)]
  exact laidMet_laidAll _ (by kernel_rfl) (by kernel_rfl)
theorem reads (os : Os) {H : Type} (enc : TypeId × Value → H) : ∃ places, DataW.whole enc Tryd.prog ((World.laidAll Tryd.prog os Rows.jsonBackUptoRow.laid).forCall (fun _ _ => 0) ⟨#[], #[.agg #[.int .i64 0, .string ⟨#[]⟩, .slice none 0 0, .slice none 0 0], .string ⟨#[]⟩], []⟩).memory Tryd.f4.params.toList Rows.jsonBackSpec.vars false (#[.agg #[.int .i64 0, .string ⟨#[]⟩, .slice none 0 0, .slice none 0 0], .string ⟨#[]⟩] : Array Value).toList 8 = some ([.agg [.lit (.int .i64 0), .lit (.string []), .nil, .nil], .lit (.string [])], [], places) :=
  ⟨[], by kernel_rfl⟩
set_option maxRecDepth 100000 in
theorem lifted (os : Os) (started : os.Started) (H : Type) (enc : TypeId × Value → H) (F : Stop.Interp) :
    ReturnsInHanded {} Tryd.checked os 4 .any ((Rows.OpenSpec.upto Rows.jsonBackSpec).preRow enc Tryd.prog Tryd.f4 Rows.jsonBackUptoRow.domain false Rows.jsonBackUptoRow.laid) (((Rows.OpenSpec.upto Rows.jsonBackSpec).at F).post enc Tryd.prog Tryd.f4 false true false false) := by
  obtain ⟨places, hx⟩ := reads os enc
  refine returnsInHanded_of_row (C := Tryd.checked) (s := Rows.OpenSpec.upto Rows.jsonBackSpec) own started (by kernel_rfl) Tryd.func4
    (witness_row_at (enc := enc) (C := Tryd.checked) false (World.laidAll Tryd.prog os Rows.jsonBackUptoRow.laid) #[.agg #[.int .i64 0, .string ⟨#[]⟩, .slice none 0 0, .slice none 0 0], .string ⟨#[]⟩] (World.laidAll_os _ _ _) (by kernel_rfl) (by kernel_rfl) (by kernel_rfl)
      (OpenSpec.preRow_of_cond 8 hx (by kernel_rfl) (fun k hk => by cases hk; kernel_rfl) (by kernel_rfl) (laid_met os))) ?_
  intro W base args ds gs before hval hW _ hk _ hL _ _
  rw [MakeChecks.laidMetH_plain _ _ _ (by kernel_rfl)] at hL
  exact contract H enc W base args ds gs before hval (tabs_row hL) hW (hk _ rfl)
theorem over : Rows.jsonBackUptoRow.holds Tryd.pinned (Rows.OpenSpec.upto Rows.jsonBackSpec) :=
  OpenClaim.holds_of_cond 4 Tryd.f4 rfl rfl rfl rfl rfl rfl rfl ⟨rfl, rfl, rfl, rfl, rfl⟩ rfl rfl rfl rfl rfl (by kernel_rfl) Tryd.func4 (by kernel_rfl)
    (of_decide_eq_true (by kernel_rfl)) (by unfold Func.isWrapper; first | (rw [if_pos (by decide +kernel)]; kernel_rfl) | (rw [if_neg (by decide +kernel)]; exact ⟨rfl, rfl⟩))
    (fun os started H enc _ F => by rw [OpenClaim.pre_eq_preRow]; exact lifted os started H enc F)
theorem plain (f : FuncId) (fn : Func) (hf : Tryd.pinned.checked.prog.funcNamed "courant/courantlaw02.JsonBack" = some f) (hfn : Tryd.pinned.checked.prog.funcs[f]? = some fn) :
    false = Tryd.pinned.checked.prog.looks [] ∧ ∀ (j : Nat) t, fn.params[j]? = some t → Tryd.pinned.checked.prog.wantsStandIn t = false := by
  obtain rfl : f = 4 := Option.some.inj ((show Tryd.prog.funcNamed "courant/courantlaw02.JsonBack" = some 4 by kernel_rfl).symm.trans hf) |>.symm
  obtain rfl : fn = Tryd.f4 := (Option.some.inj (Tryd.func4.symm.trans hfn)).symm
  refine ⟨by kernel_rfl, fun j t ht => ?_⟩
  rw [Tryd.params4] at ht
  have hm : t ∈ [26, 9] := by have := Array.mem_of_getElem? ht; simpa using this
  have hall : ([26, 9].all fun u => !Tryd.prog.wantsStandIn u) = true := by kernel_rfl
  exact (show Tryd.prog.wantsStandIn t = false by simpa using List.all_eq_true.1 hall t hm)
theorem card : Rows.JsonBackUptoCardSaid :=
  Claim7.holds_tied_plain_at .later [] _ _ _ _ over (fun _ h => by cases h) (by kernel_rfl) (fun _ h => by cases h) jsonBackUpto_row_tie rfl ⟨rfl, rfl⟩ (by kernel_rfl) rfl plain (by kernel_rfl)
end Go.Proofs.YtnhjiioiejpbgaaDoor.jsonBack
namespace Go.Proofs.YtnhjiioiejpbgaaDoor
/-- The row, under a short name, for the claim. -/
theorem jsonBack_holds : Rows.JsonBackUptoCardSaid := jsonBack.card
#print axioms jsonBack_holds
end Go.Proofs.YtnhjiioiejpbgaaDoor
