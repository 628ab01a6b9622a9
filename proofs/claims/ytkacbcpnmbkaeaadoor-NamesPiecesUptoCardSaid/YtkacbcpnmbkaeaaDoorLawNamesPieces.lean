/- The law NamesPieces of courantlaw03 says true for every input of a bounded bulk. -/
import Derived.Test.YtkacbcpnmbkaeaaDoorCards
import Derived.Test.YtkacbcpnmbkaeaaDoorTie
import Derived.Deep.DeepHandedRow
import Derived.Lay
import Derived.LaidMore
import Derived.SevenTiedAt
import Derived.Test.YtkacbcpnmbkaeaaDoorRows
import Derived.Test.YtkacbcpnmbkaeaaDoorGNamb
import Derived.Test.YtkacbcpnmbkaeaaDoorPNam
import Derived.WalkKit
import Derived.ProofKit
import Derived.OpenShut
import Derived.JoinedCond
import Derived.ChangeOld
import Derived.Below
import Derived.Carry
set_option linter.unusedSimpArgs false
namespace Go.Proofs.YtkacbcpnmbkaeaaDoor.namesPieces
open Go.ChangeShapes Go.WideShapes Go.ChangeAt Go.RowKit
open Go.Proofs.Abs
set_option linter.unusedVariables false
set_option maxRecDepth 100000
theorem own : ownKnob Tryd.prog.godebug = none := by kernel_rfl
theorem laidOut : laidOutB Tryd.prog = true := by kernel_rfl
theorem hmix : Tryd.prog.follows .mixedOrders = true := by kernel_rfl
def num : Nat → Nat
  | 235 => 12
  | 236 => 26
  | 237 => 30
  | 238 => 34
  | 316 => 7
  | 317 => 8
  | 318 => 22
  | 319 => 27
  | 320 => 10
  | 321 => 23
  | 322 => 28
  | 323 => 31
  | 324 => 35
  | 326 => 4
  | 329 => 36
  | 330 => 37
  | 331 => 38
  | 332 => 11
  | 333 => 25
  | 334 => 29
  | 335 => 32
  | 336 => 33
  | 337 => 18
  | 342 => 13
  | k => k
theorem hf319 : HasF Tryd.prog (num 319) (C319 num) := ⟨Tryd.f27, Tryd.func27, by kernel_rfl, by kernel_rfl, by kernel_rfl⟩
theorem hf318 : HasF Tryd.prog (num 318) (C318 num) := ⟨Tryd.f22, Tryd.func22, by kernel_rfl, by kernel_rfl, by kernel_rfl⟩
theorem hf320 : HasF Tryd.prog (num 320) (C320 num) := ⟨Tryd.f10, Tryd.func10, by kernel_rfl, by kernel_rfl, by kernel_rfl⟩
theorem hf323 : HasF Tryd.prog (num 323) (C323 num) := ⟨Tryd.f31, Tryd.func31, by kernel_rfl, by kernel_rfl, by kernel_rfl⟩
theorem hf322 : HasF Tryd.prog (num 322) (C322 num) := ⟨Tryd.f28, Tryd.func28, by kernel_rfl, by kernel_rfl, by kernel_rfl⟩
theorem hf321 : HasF Tryd.prog (num 321) (C321 num) := ⟨Tryd.f23, Tryd.func23, by kernel_rfl, by kernel_rfl, by kernel_rfl⟩
theorem hf334 : HasF Tryd.prog (num 334) (C334 num) := ⟨Tryd.f29, Tryd.func29, by kernel_rfl, by kernel_rfl, by kernel_rfl⟩
theorem hf333 : HasF Tryd.prog (num 333) (C333 num) := ⟨Tryd.f25, Tryd.func25, by kernel_rfl, by kernel_rfl, by kernel_rfl⟩
theorem hf335 : HasF Tryd.prog (num 335) (C335 num) := ⟨Tryd.f32, Tryd.func32, by kernel_rfl, by kernel_rfl, by kernel_rfl⟩
theorem hf332 : HasF Tryd.prog (num 332) (C332 num) := ⟨Tryd.f11, Tryd.func11, by kernel_rfl, by kernel_rfl, by kernel_rfl⟩
theorem hf337 : HasF Tryd.prog (num 337) (C337 num) := ⟨Tryd.f18, Tryd.func18, by kernel_rfl, by kernel_rfl, by kernel_rfl⟩
theorem hf317 : HasF Tryd.prog (num 317) (C317 num) := ⟨Tryd.f8, Tryd.func8, by kernel_rfl, by kernel_rfl, by kernel_rfl⟩
theorem hf316 : HasF Tryd.prog (num 316) (C316 num) := ⟨Tryd.f7, Tryd.func7, by kernel_rfl, by kernel_rfl, by kernel_rfl⟩
theorem hf238 : HasF Tryd.prog (num 238) (C238 num) := ⟨Tryd.f34, Tryd.func34, by kernel_rfl, by kernel_rfl, by kernel_rfl⟩
theorem hf237 : HasF Tryd.prog (num 237) (C237 num) := ⟨Tryd.f30, Tryd.func30, by kernel_rfl, by kernel_rfl, by kernel_rfl⟩
theorem hf236 : HasF Tryd.prog (num 236) (C236 num) := ⟨Tryd.f26, Tryd.func26, by kernel_rfl, by kernel_rfl, by kernel_rfl⟩
theorem hf235 : HasF Tryd.prog (num 235) (C235 num) := ⟨Tryd.f12, Tryd.func12, by kernel_rfl, by kernel_rfl, by kernel_rfl⟩
theorem hf342 : HasF Tryd.prog (num 342) (C342 num) := ⟨Tryd.f13, Tryd.func13, by kernel_rfl, by kernel_rfl, by kernel_rfl⟩
theorem hf326 : HasF Tryd.prog (num 326) (C326 num) := ⟨Tryd.f4, Tryd.func4, by kernel_rfl, by kernel_rfl, by kernel_rfl⟩
theorem hc319 : HC319 Tryd.prog num := hf319
theorem hc318 : HC318 Tryd.prog num := ⟨hf318, hc319⟩
theorem hc320 : HC320 Tryd.prog num := hf320
set_option maxHeartbeats 1000000 in
theorem idxcalls (s : ByteArray) (c : Int) (w : World) : Calls Tryd.prog 35 #[.string s, .int .u8 c] w fun e w' => e = .returned (.int .i64 (Lib.indexByte s.data.toList c.toNat.toUInt8)) ∧ w' = w := by
  go_enter Tryd.func35, Tryd.ntmps35
  go_wp2
  rw [run_callFunc_extern Tryd.func40 (by kernel_rfl) (by kernel_rfl) (by kernel_rfl) (e := Extern.BytealgIndexByte.indexByte) (by kernel_rfl), Lib.run_indexByteString]
  simp only [Result.andThen]
  rw [Oper.upon_value]
  go_wp2
  go_ret
  exact ⟨rfl, rfl⟩
theorem hc324 : HC324 Tryd.prog num := (show IdxB Tryd.prog 35 from ⟨⟨Tryd.f35, Tryd.func35, by kernel_rfl, by kernel_rfl⟩, idxcalls⟩)
theorem hc323 : HC323 Tryd.prog num := ⟨hf323, hc324⟩
theorem hc322 : HC322 Tryd.prog num := ⟨hf322, hc323⟩
theorem hc321 : HC321 Tryd.prog num := ⟨hf321, hc322⟩
theorem hc334 : HC334 Tryd.prog num := hf334
theorem hc333 : HC333 Tryd.prog num := ⟨hf333, hc334⟩
theorem hcb332_26 : HCb332_26 Tryd.prog num := ⟨trivial, hc320⟩
theorem hc335 : HC335 Tryd.prog num := ⟨hf335, hc322, hcb332_26⟩
theorem hc332 : HC332 Tryd.prog num := ⟨hf332, hc333, hc335⟩
theorem hc337 : HC337 Tryd.prog num := hf337
theorem hc317 : HC317 Tryd.prog num := ⟨hf317, hc318, hc320, hc321, hc332, hc337⟩
theorem hc316 : HC316 Tryd.prog num := ⟨hf316, hc317, hc320⟩
theorem hc238 : HC238 Tryd.prog num := hf238
theorem hc237 : HC237 Tryd.prog num := ⟨hf237, hc238⟩
theorem hc236 : HC236 Tryd.prog num := ⟨hf236, hc237⟩
theorem hc235 : HC235 Tryd.prog num := ⟨hf235, hc236⟩
theorem hc342 : HC342 Tryd.prog num := ⟨hf342, hc236⟩
theorem hc326 : HC326 Tryd.prog num := ⟨hf326, hc316, hc320, hc332, hc235, hc342⟩
mutual
theorem bulk_eq {H : Type} : ∀ d : DataW H, Rows.uptoBulk d = bulk d
  | .lit l => by cases l <;> simp only [Rows.uptoBulk, bulk]
  | .nil => by simp only [Rows.uptoBulk, bulk]
  | .ptr d => by simp only [Rows.uptoBulk, bulk, bulk_eq d]
  | .slice es sp => by simp only [Rows.uptoBulk, bulk, bulkAll_eq es, bulkAll_eq sp]
  | .agg ps => by simp only [Rows.uptoBulk, bulk, bulkAll_eq ps]
  | .iface _ d => by simp only [Rows.uptoBulk, bulk, bulk_eq d]
  | .map es => by simp only [Rows.uptoBulk, bulk, bulkEntries_eq es]
  | .held _ => by simp only [Rows.uptoBulk, bulk]
theorem bulkAll_eq {H : Type} : ∀ ds : List (DataW H), Rows.uptoBulkAll ds = bulkAll ds
  | [] => by simp only [Rows.uptoBulkAll, bulkAll]
  | d :: r => by simp only [Rows.uptoBulkAll, bulkAll, bulk_eq d, bulkAll_eq r]
theorem bulkEntries_eq {H : Type} : ∀ es : List (Lit × DataW H), Rows.uptoBulkEntries es = bulkEntries es
  | [] => by simp only [Rows.uptoBulkEntries, bulkEntries]
  | x :: r => by simp only [Rows.uptoBulkEntries, bulkEntries, bulkEntry_eq x, bulkEntries_eq r]
theorem bulkEntry_eq {H : Type} : ∀ x : Lit × DataW H, Rows.uptoBulkEntry x = bulkEntry x
  | (l, d) => by cases l <;> simp only [Rows.uptoBulkEntry, bulkEntry, bulk_eq d]
end
theorem contract (H : Type) (enc : TypeId × Value → H) (W : World) (base : Nat) (args : Array Value) (ds gs : List (DataW H)) (before : List MemPlace)
    (hval0 : ∀ (j : Nat) t v, Tryd.f4.params[j]? = some t → args[j]? = some v → Value.okWide Tryd.prog W .any base t v)
    (hW : DataW.Whole enc Tryd.prog Tryd.f4.params.toList Rows.namesPiecesSpec.vars false W args.toList ds gs before) (hk : Rows.uptoSmall H (ds ++ gs) = true) :
    Calls Tryd.prog 4 args W fun e W' => ∃ v, e = .returned v ∧ Rows.namesPiecesSpec.post enc Tryd.prog Tryd.f4 false true false false W args v W' := by
  have hval : ∀ (j : Nat) t v, Tryd.f4.params[j]? = some t → args[j]? = some v → Value.okWide Tryd.prog W .any base t v := hval0
  have hW' := hW
  obtain ⟨p, q, hA0, hV, rfl, hfz, hnd⟩ := hW
  have hA : DataW.TrodAll enc Tryd.prog W 0 (fun _ => true) true Tryd.f4.params.toList args.toList ds p := hA0
  rw [Tryd.params4] at hA hval
  obtain ⟨v0, vs0, d0, ds0, p0, q0, hargs, rfl, rfl, h0, r0⟩ := trodAll_cons hA
  obtain ⟨rfl, rfl, rfl⟩ := trodAll_nil r0
  obtain rfl : args = #[v0] := by cases args; simp_all
  obtain ⟨rfl, rfl⟩ := trodVars_none hV
  have hb : Rows.uptoBulkAll [d0] ≤ 1048576 := of_decide_eq_true (show Rows.uptoSmall H [d0] = true by rw [List.append_nil] at hk; exact hk)
  simp only [Rows.uptoBulkAll, bulk_eq] at hb
  have lt0 : ∀ x ∈ p0, x.block < W.heap.size := by obtain ⟨m, hm⟩ := h0; exact fun x hx => DataW.trod_lt m _ _ _ hm x hx
  obtain ⟨a0, w0, s0, e0⟩ := Rd.arg (rd_slice Tryd.underlying26 str_ok (by decide) (by kernel_rfl) (rd_str Tryd.underlying9)) slE_ok Tryd.underlying26 rfl (hval 0 26 v0 rfl rfl) h0
  obtain ⟨k, hk2⟩ := law_NamesPieces a0 w0 (by simp only [] at *; omega)
  have hc := F326 (N := num) hmix hc326 hk2
  clear hA0 hval0
  refine (law_calls hc (vs := [v0]) W rfl fun j g1 g2 => ?_).mono fun e W' ⟨he, bel⟩ => ?_
  · match j with
    | 0 => exact .d e0
  subst he
  exact ⟨_, rfl, _, _, _, [], _, [], hW', trodAll_mk1 (shut_bool Tryd.underlying4 _), (trodAll_cons_mk (Below.trod laidOut (by kernel_rfl) (of_decide_eq_true (by kernel_rfl)) h0 bel lt0) trodAll_mk0), rfl, bel.frame _, fun h => by cases h⟩
theorem laid_met (os : Os) : laidMetH Tryd.prog Rows.namesPiecesUptoRow.laid ((World.laidAll Tryd.prog os Rows.namesPiecesUptoRow.laid).forCall (fun _ _ => 0) ⟨#[], #[.slice none 0 0], []⟩).memory := by
  rw [MakeChecks.laidMetH_plain _ _ _ (by kernel_rfl)]
  exact laidMet_laidAll _ (by kernel_rfl) (by kernel_rfl)
theorem reads (os : Os) {H : Type} (enc : TypeId × Value → H) : ∃ places, DataW.whole enc Tryd.prog ((World.laidAll Tryd.prog os Rows.namesPiecesUptoRow.laid).forCall (fun _ _ => 0) ⟨#[], #[.slice none 0 0], []⟩).memory Tryd.f4.params.toList Rows.namesPiecesSpec.vars false (#[.slice none 0 0] : Array Value).toList 8 = some ([.nil], [], places) :=
  ⟨[], by kernel_rfl⟩
set_option maxRecDepth 100000 in
theorem lifted (os : Os) (started : os.Started) (H : Type) (enc : TypeId × Value → H) (F : Stop.Interp) :
    ReturnsInHanded {} Tryd.checked os 4 .any ((Rows.OpenSpec.upto Rows.namesPiecesSpec).preRow enc Tryd.prog Tryd.f4 Rows.namesPiecesUptoRow.domain false Rows.namesPiecesUptoRow.laid) (((Rows.OpenSpec.upto Rows.namesPiecesSpec).at F).post enc Tryd.prog Tryd.f4 false true false false) := by
  obtain ⟨places, hx⟩ := reads os enc
  refine returnsInHanded_of_row (C := Tryd.checked) (s := Rows.OpenSpec.upto Rows.namesPiecesSpec) own started (by kernel_rfl) Tryd.func4
    (witness_row_at (enc := enc) (C := Tryd.checked) false (World.laidAll Tryd.prog os Rows.namesPiecesUptoRow.laid) #[.slice none 0 0] (World.laidAll_os _ _ _) (by kernel_rfl) (by kernel_rfl) (by kernel_rfl)
      (OpenSpec.preRow_of_cond 8 hx (by kernel_rfl) (fun k hk => by cases hk; kernel_rfl) (by kernel_rfl) (laid_met os))) ?_
  intro W base args ds gs before hval hW _ hk _ _ _ _
  exact contract H enc W base args ds gs before hval hW (hk _ rfl)
theorem over : Rows.namesPiecesUptoRow.holds Tryd.pinned (Rows.OpenSpec.upto Rows.namesPiecesSpec) :=
  OpenClaim.holds_of_cond 4 Tryd.f4 rfl rfl rfl rfl rfl rfl rfl ⟨rfl, rfl, rfl, rfl, rfl⟩ rfl rfl rfl rfl rfl (by kernel_rfl) Tryd.func4 (by kernel_rfl)
    (of_decide_eq_true (by kernel_rfl)) (by unfold Func.isWrapper; first | (rw [if_pos (by decide +kernel)]; kernel_rfl) | (rw [if_neg (by decide +kernel)]; exact ⟨rfl, rfl⟩))
    (fun os started H enc _ F => by rw [OpenClaim.pre_eq_preRow]; exact lifted os started H enc F)
theorem plain (f : FuncId) (fn : Func) (hf : Tryd.pinned.checked.prog.funcNamed "courant/courantlaw03.NamesPieces" = some f) (hfn : Tryd.pinned.checked.prog.funcs[f]? = some fn) :
    false = Tryd.pinned.checked.prog.looks [] ∧ ∀ (j : Nat) t, fn.params[j]? = some t → Tryd.pinned.checked.prog.wantsStandIn t = false := by
  obtain rfl : f = 4 := Option.some.inj ((show Tryd.prog.funcNamed "courant/courantlaw03.NamesPieces" = some 4 by kernel_rfl).symm.trans hf) |>.symm
  obtain rfl : fn = Tryd.f4 := (Option.some.inj (Tryd.func4.symm.trans hfn)).symm
  refine ⟨by kernel_rfl, fun j t ht => ?_⟩
  rw [Tryd.params4] at ht
  have hm : t ∈ [26] := by have := Array.mem_of_getElem? ht; simpa using this
  have hall : ([26].all fun u => !Tryd.prog.wantsStandIn u) = true := by kernel_rfl
  exact (show Tryd.prog.wantsStandIn t = false by simpa using List.all_eq_true.1 hall t hm)
theorem card : Rows.NamesPiecesUptoCardSaid :=
  Claim7.holds_tied_plain_at .later [] _ _ _ _ over (fun _ h => by cases h) (by kernel_rfl) (fun _ h => by cases h) namesPiecesUpto_row_tie rfl ⟨rfl, rfl⟩ (by kernel_rfl) rfl plain (by kernel_rfl)
end Go.Proofs.YtkacbcpnmbkaeaaDoor.namesPieces
namespace Go.Proofs.YtkacbcpnmbkaeaaDoor
/-- The row, under a short name, for the claim. -/
theorem namesPieces_holds : Rows.NamesPiecesUptoCardSaid := namesPieces.card
#print axioms namesPieces_holds
end Go.Proofs.YtkacbcpnmbkaeaaDoor
