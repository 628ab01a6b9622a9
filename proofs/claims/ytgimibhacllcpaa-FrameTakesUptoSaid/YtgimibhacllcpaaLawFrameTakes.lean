/- The law FrameTakes of courantlaw18 says true for every input of a bounded bulk. -/
import Derived.Test.YtgimibhacllcpaaRows
import Derived.Test.YtgimibhacllcpaaGLfta
import Derived.Test.YtgimibhacllcpaaPFta
import Derived.WalkKit
import Derived.ProofKit
import Derived.OpenShut
import Derived.JoinedCond
import Derived.ChangeOld
import Derived.Below
import Derived.Carry
set_option linter.unusedSimpArgs false
namespace Go.Proofs.Ytgimibhacllcpaa.frameTakes
open Go.ChangeShapes Go.WideShapes Go.ChangeAt Go.RowKit
open Go.Proofs.Abs
set_option linter.unusedVariables false
set_option maxRecDepth 100000
theorem own : ownKnob Try.prog.godebug = none := by kernel_rfl
theorem laidOut : laidOutB Try.prog = true := by kernel_rfl
theorem hmix : Try.prog.follows .mixedOrders = true := by kernel_rfl
def num : Nat → Nat
  | 21 => 28
  | 22 => 42
  | 29 => 34
  | 45 => 62
  | 83 => 74
  | 87 => 90
  | 91 => 75
  | 108 => 101
  | 109 => 102
  | 111 => 103
  | 222 => 39
  | 223 => 40
  | 224 => 76
  | 225 => 104
  | 226 => 113
  | 252 => 18
  | 263 => 30
  | 264 => 32
  | 265 => 72
  | 266 => 73
  | 267 => 100
  | 268 => 31
  | 269 => 33
  | 274 => 63
  | 275 => 89
  | 279 => 64
  | 280 => 91
  | 287 => 59
  | k => k
theorem hf225 : HasF Try.prog (num 225) (C225 num) := ⟨Try.f104, Try.func104, by kernel_rfl, by kernel_rfl, by kernel_rfl⟩
theorem hf226 : HasF Try.prog (num 226) (C226 num) := ⟨Try.f113, Try.func113, by kernel_rfl, by kernel_rfl, by kernel_rfl⟩
theorem hf224 : HasF Try.prog (num 224) (C224 num) := ⟨Try.f76, Try.func76, by kernel_rfl, by kernel_rfl, by kernel_rfl⟩
theorem hf111 : HasF Try.prog (num 111) (C111 num) := ⟨Try.f103, Try.func103, by kernel_rfl, by kernel_rfl, by kernel_rfl⟩
theorem hf91 : HasF Try.prog (num 91) (C91 num) := ⟨Try.f75, Try.func75, by kernel_rfl, by kernel_rfl, by kernel_rfl⟩
theorem hf265 : HasF Try.prog (num 265) (C265 num) := ⟨Try.f72, Try.func72, by kernel_rfl, by kernel_rfl, by kernel_rfl⟩
theorem hf266 : HasF Try.prog (num 266) (C266 num) := ⟨Try.f73, Try.func73, by kernel_rfl, by kernel_rfl, by kernel_rfl⟩
theorem hf267 : HasF Try.prog (num 267) (C267 num) := ⟨Try.f100, Try.func100, by kernel_rfl, by kernel_rfl, by kernel_rfl⟩
theorem hf264 : HasF Try.prog (num 264) (C264 num) := ⟨Try.f32, Try.func32, by kernel_rfl, by kernel_rfl, by kernel_rfl⟩
theorem hf263 : HasF Try.prog (num 263) (C263 num) := ⟨Try.f30, Try.func30, by kernel_rfl, by kernel_rfl, by kernel_rfl⟩
theorem hf223 : HasF Try.prog (num 223) (C223 num) := ⟨Try.f40, Try.func40, by kernel_rfl, by kernel_rfl, by kernel_rfl⟩
theorem hf222 : HasF Try.prog (num 222) (C222 num) := ⟨Try.f39, Try.func39, by kernel_rfl, by kernel_rfl, by kernel_rfl⟩
theorem hf21 : HasF Try.prog (num 21) (C21 num) := ⟨Try.f28, Try.func28, by kernel_rfl, by kernel_rfl, by kernel_rfl⟩
theorem hf275 : HasF Try.prog (num 275) (C275 num) := ⟨Try.f89, Try.func89, by kernel_rfl, by kernel_rfl, by kernel_rfl⟩
theorem hf87 : HasF Try.prog (num 87) (C87 num) := ⟨Try.f90, Try.func90, by kernel_rfl, by kernel_rfl, by kernel_rfl⟩
theorem hf274 : HasF Try.prog (num 274) (C274 num) := ⟨Try.f63, Try.func63, by kernel_rfl, by kernel_rfl, by kernel_rfl⟩
theorem hf280 : HasF Try.prog (num 280) (C280 num) := ⟨Try.f91, Try.func91, by kernel_rfl, by kernel_rfl, by kernel_rfl⟩
theorem hf269 : HasF Try.prog (num 269) (C269 num) := ⟨Try.f33, Try.func33, by kernel_rfl, by kernel_rfl, by kernel_rfl⟩
theorem hf268 : HasF Try.prog (num 268) (C268 num) := ⟨Try.f31, Try.func31, by kernel_rfl, by kernel_rfl, by kernel_rfl⟩
theorem hf279 : HasF Try.prog (num 279) (C279 num) := ⟨Try.f64, Try.func64, by kernel_rfl, by kernel_rfl, by kernel_rfl⟩
theorem hf22 : HasF Try.prog (num 22) (C22 num) := ⟨Try.f42, Try.func42, by kernel_rfl, by kernel_rfl, by kernel_rfl⟩
theorem hf287 : HasF Try.prog (num 287) (C287 num) := ⟨Try.f59, Try.func59, by kernel_rfl, by kernel_rfl, by kernel_rfl⟩
theorem hf45 : HasF Try.prog (num 45) (C45 num) := ⟨Try.f62, Try.func62, by kernel_rfl, by kernel_rfl, by kernel_rfl⟩
theorem hf109 : HasF Try.prog (num 109) (C109 num) := ⟨Try.f102, Try.func102, by kernel_rfl, by kernel_rfl, by kernel_rfl⟩
theorem hf108 : HasF Try.prog (num 108) (C108 num) := ⟨Try.f101, Try.func101, by kernel_rfl, by kernel_rfl, by kernel_rfl⟩
theorem hf83 : HasF Try.prog (num 83) (C83 num) := ⟨Try.f74, Try.func74, by kernel_rfl, by kernel_rfl, by kernel_rfl⟩
theorem hf29 : HasF Try.prog (num 29) (C29 num) := ⟨Try.f34, Try.func34, by kernel_rfl, by kernel_rfl, by kernel_rfl⟩
theorem hf252 : HasF Try.prog (num 252) (C252 num) := ⟨Try.f18, Try.func18, by kernel_rfl, by kernel_rfl, by kernel_rfl⟩
theorem hc225 : HC225 Try.prog num := hf225
theorem hcb224_21 : HCb224_21 Try.prog num := trivial
theorem hc226 : HC226 Try.prog num := ⟨hf226, hcb224_21⟩
theorem hc224 : HC224 Try.prog num := ⟨hf224, hc225, hc226⟩
theorem hc111 : HC111 Try.prog num := hf111
theorem hc91 : HC91 Try.prog num := ⟨hf91, hc111⟩
theorem hc265 : HC265 Try.prog num := hf265
theorem hc266 : HC266 Try.prog num := hf266
theorem hcb264_25 : HCb264_25 Try.prog num := trivial
theorem hc267 : HC267 Try.prog num := ⟨hf267, hcb264_25⟩
theorem hc264 : HC264 Try.prog num := ⟨hf264, hc265, hc266, hc267⟩
theorem hc263 : HC263 Try.prog num := ⟨hf263, hc264⟩
theorem hc223 : HC223 Try.prog num := ⟨hf223, hc224, hc91, hc263⟩
theorem hc222 : HC222 Try.prog num := ⟨hf222, hc223⟩
theorem hc21 : HC21 Try.prog num := hf21
theorem hc275 : HC275 Try.prog num := hf275
theorem hc87r : HC87r Try.prog num := hf87
theorem hc274 : HC274 Try.prog num := ⟨hf274, hc275, hc263, hc87r⟩
theorem hc280 : HC280 Try.prog num := hf280
theorem hc269 : HC269 Try.prog num := hf269
theorem hc268 : HC268 Try.prog num := ⟨hf268, hc269⟩
theorem hc279 : HC279 Try.prog num := ⟨hf279, hc280, hc268⟩
theorem hc22 : HC22 Try.prog num := hf22
theorem hc287 : HC287 Try.prog num := ⟨hf287, hc22⟩
theorem hc45 : HC45 Try.prog num := hf45
theorem hc109 : HC109 Try.prog num := hf109
theorem hc108 : HC108 Try.prog num := ⟨hf108, hc109⟩
theorem hc83 : HC83 Try.prog num := ⟨hf83, hc108⟩
theorem hc29 : HC29 Try.prog num := ⟨hf29, hc83⟩
theorem hc252 : HC252 Try.prog num := ⟨hf252, hc222, hc21, hc274, hc279, hc287, hc45, hc29⟩
mutual
theorem bulk_eq {H : Type} : ∀ d : DataW H, Rows.uptoBulk d = bulk d
  | .lit l => by cases l <;> simp only [Rows.uptoBulk, bulk]
  | .nil => by simp only [Rows.uptoBulk, bulk]
  | .ptr d => by simp only [Rows.uptoBulk, bulk, bulk_eq d]
  | .slice es sp => by simp only [Rows.uptoBulk, bulk, bulkAll_eq es, bulkAll_eq sp]
  | .agg ps => by simp only [Rows.uptoBulk, bulk, bulkAll_eq ps]
  | .iface _ d => by simp only [Rows.uptoBulk, bulk, bulk_eq d]
  | .map es => by simp only [Rows.uptoBulk, bulk, bulkEntries_eq es]
  | .held _ => by simp only [Rows.uptoBulk, bulk]
theorem bulkAll_eq {H : Type} : ∀ ds : List (DataW H), Rows.uptoBulkAll ds = bulkAll ds
  | [] => by simp only [Rows.uptoBulkAll, bulkAll]
  | d :: r => by simp only [Rows.uptoBulkAll, bulkAll, bulk_eq d, bulkAll_eq r]
theorem bulkEntries_eq {H : Type} : ∀ es : List (Lit × DataW H), Rows.uptoBulkEntries es = bulkEntries es
  | [] => by simp only [Rows.uptoBulkEntries, bulkEntries]
  | x :: r => by simp only [Rows.uptoBulkEntries, bulkEntries, bulkEntry_eq x, bulkEntries_eq r]
theorem bulkEntry_eq {H : Type} : ∀ x : Lit × DataW H, Rows.uptoBulkEntry x = bulkEntry x
  | (l, d) => by cases l <;> simp only [Rows.uptoBulkEntry, bulkEntry, bulk_eq d]
end
theorem contract (H : Type) (enc : TypeId × Value → H) (W : World) (base : Nat) (args : Array Value) (ds gs : List (DataW H)) (before : List MemPlace)
    (hval0 : ∀ (j : Nat) t v, Try.f18.params[j]? = some t → args[j]? = some v → Value.okWide Try.prog W .any base t v)
    (hW : DataW.Whole enc Try.prog Try.f18.params.toList Rows.frameTakesSpec.vars false W args.toList ds gs before) (hk : Rows.uptoSmall H (ds ++ gs) = true) :
    Calls Try.prog 18 args W fun e W' => ∃ v, e = .returned v ∧ Rows.frameTakesSpec.post enc Try.prog Try.f18 false true false false W args v W' := by
  have hval : ∀ (j : Nat) t v, Try.f18.params[j]? = some t → args[j]? = some v → Value.okWide Try.prog W .any base t v := hval0
  have hW' := hW
  obtain ⟨p, q, hA0, hV, rfl, hfz, hnd⟩ := hW
  have hA : DataW.TrodAll enc Try.prog W 0 (fun _ => true) true Try.f18.params.toList args.toList ds p := hA0
  rw [Try.params18] at hA hval
  obtain ⟨v0, vs0, d0, ds0, p0, q0, hargs, rfl, rfl, h0, r0⟩ := trodAll_cons hA
  obtain ⟨rfl, rfl, rfl⟩ := trodAll_nil r0
  obtain rfl : args = #[v0] := by cases args; simp_all
  obtain ⟨rfl, rfl⟩ := trodVars_none hV
  have hb : Rows.uptoBulkAll [d0] ≤ 1048576 := of_decide_eq_true (show Rows.uptoSmall H [d0] = true by rw [List.append_nil] at hk; exact hk)
  simp only [Rows.uptoBulkAll, bulk_eq] at hb
  have lt0 : ∀ x ∈ p0, x.block < W.heap.size := by obtain ⟨m, hm⟩ := h0; exact fun x hx => DataW.trod_lt m _ _ _ hm x hx
  obtain ⟨a0, w0, s0, e0⟩ := Rd.arg (rd_slice Try.underlying32 byteD_ok (by decide) (by kernel_rfl) (rd_byte Try.underlying5)) slE_ok Try.underlying32 rfl (hval 0 32 v0 rfl rfl) h0
  obtain ⟨k, hk2⟩ := law_FrameTakes a0 w0 (by simp only [] at *; omega)
  have hc := F252 (N := num) hmix hc252 hk2
  clear hA0 hval0
  refine (law_calls hc (vs := [v0]) W rfl fun j g1 g2 => ?_).mono fun e W' ⟨he, bel⟩ => ?_
  · match j with
    | 0 => exact .d e0
  subst he
  exact ⟨_, rfl, _, _, _, [], _, [], hW', trodAll_mk1 (shut_bool Try.underlying4 _), (trodAll_cons_mk (Below.trod laidOut (by kernel_rfl) (of_decide_eq_true (by kernel_rfl)) h0 bel lt0) trodAll_mk0), rfl, bel.frame _, fun h => by cases h⟩
set_option maxRecDepth 100000 in
theorem lifted (os : Os) (started : os.Started) (H : Type) (enc : TypeId × Value → H) (F : Stop.Interp) :
    ReturnsInHanded {} Try.checked os 18 .any ((Rows.OpenSpec.upto Rows.frameTakesSpec).pre6 enc Try.prog Try.f18 Rows.frameTakesUptoRow.domain false) (((Rows.OpenSpec.upto Rows.frameTakesSpec).at F).post enc Try.prog Try.f18 false true false false) := by
  refine returnsInHanded_of_cond (C := Try.checked) (s := Rows.OpenSpec.upto Rows.frameTakesSpec) (k := Rows.uptoSmall) rfl own started (by kernel_rfl) Try.func18
    (OpenSpec.witness (enc := enc) (C := Try.checked) (s := Rows.OpenSpec.upto Rows.frameTakesSpec) (k := Rows.uptoSmall) rfl false ⟨#[], #[.slice none 0 0], []⟩ 8 (by kernel_rfl) (by kernel_rfl) (by kernel_rfl)
      (x := ([.nil], [], [])) (by kernel_rfl) rfl (by kernel_rfl)) ?_
  intro W base args ds gs before hval hW _ hk _
  exact contract H enc W base args ds gs before hval hW hk
theorem over : Rows.frameTakesUptoRow.holds Try.pinned (Rows.OpenSpec.upto Rows.frameTakesSpec) :=
  OpenClaim.holds_of_cond 18 Try.f18 rfl rfl rfl rfl rfl rfl rfl ⟨rfl, rfl, rfl, rfl, rfl⟩ rfl rfl rfl rfl rfl (by kernel_rfl) Try.func18 (by kernel_rfl)
    (of_decide_eq_true (by kernel_rfl)) (by unfold Func.isWrapper; first | (rw [if_pos (by decide +kernel)]; kernel_rfl) | (rw [if_neg (by decide +kernel)]; exact ⟨rfl, rfl⟩))
    (fun os started H enc _ F => lifted os started H enc F)
end Go.Proofs.Ytgimibhacllcpaa.frameTakes
namespace Go.Proofs.Ytgimibhacllcpaa
/-- The row, under a short name, for the claim. -/
theorem frameTakes_holds : Rows.FrameTakesUptoSaid := frameTakes.over
#print axioms frameTakes_holds
end Go.Proofs.Ytgimibhacllcpaa
