/- Values of json as they are handed in. -/
import Derived.Test.YtnhjiioiejpbgaaDoorGJbc
import Derived.Test.YtnhjiioiejpbgaaDoorAbsxh
set_option linter.unusedSimpArgs false
namespace Go.Proofs.Abs
open Go
set_option linter.unusedVariables false
/-- a value whose parts are values -/
inductive TJson.Wf : TJson → Prop
  | mk (v : TJson) (us : List TJson) (hk : -9223372036854775808 ≤ v.fKind ∧ v.fKind ≤ 9223372036854775807) (h : v.fL = us.map (RT.of TJson.ok)) (hw : ∀ u ∈ us, TJson.Wf u) : TJson.Wf v
theorem parts_of : ∀ l : List (RT 4), (∀ x ∈ l, ∃ u, x = RT.of TJson.ok u ∧ TJson.Wf u) → ∃ us : List TJson, l = us.map (RT.of TJson.ok) ∧ ∀ u ∈ us, TJson.Wf u
  | [], _ => ⟨[], rfl, fun u h => (List.not_mem_nil h).elim⟩
  | x :: r, h => by
    obtain ⟨u, h1, h2⟩ := h x (List.mem_cons_self ..)
    obtain ⟨us, g1, g2⟩ := parts_of r fun y hy => h y (List.mem_cons_of_mem _ hy)
    refine ⟨u :: us, by rw [h1, g1]; rfl, fun w hw => ?_⟩
    rcases List.mem_cons.1 hw with rfl | hw
    · exact h2
    · exact g2 w hw
theorem TJson.Wf.of {v : TJson} (hk : -9223372036854775808 ≤ v.fKind ∧ v.fKind ≤ 9223372036854775807) (h : ∀ x ∈ v.fL, ∃ u, x = RT.of TJson.ok u ∧ TJson.Wf u) : TJson.Wf v := by
  obtain ⟨us, h1, h2⟩ := parts_of v.fL h
  exact .mk v us hk h1 h2
theorem TJson.bk_eq (v : TJson) : D.bk (TJson.enc v) = 1 + ((v.fText.length + 1) + (((v.fL.map fun x => D.bk (rtE x)).sum + 1) + (((v.fKeys.map fun x => x.length + 1).sum + 1) + 0))) + 1 := by
  have e1 : List.map D.bk (List.map (rtE (z := 4)) v.fL) = v.fL.map fun x => D.bk (rtE x) := by rw [List.map_map]; rfl
  have e2 : List.map D.bk (List.map D.str v.fKeys) = v.fKeys.map fun x => x.length + 1 := by
    rw [List.map_map]
    rfl
  simp only [TJson.enc, D.bk, D.bk.bkL, bkL_sum, e1, e2]
theorem rd_json {P : Program} {t ts : TypeId} {fs : Array Field} (f0 f1 f2 f3 : Field) (hfs : fs.toList = [f0, f1, f2, f3]) (hu : P.underlying t = some (.struct fs)) (hc : P.cellsOf t = 4)
    (o0 : f0.offset = 0) (o1 : f1.offset = 1) (o2 : f2.offset = 2) (o3 : f3.offset = 3)
    (u0 : P.underlying f0.type = some (.int .i64)) (u1 : P.underlying f1.type = some .string) (u2 : P.underlying f2.type = some (.slice t)) (u3 : P.underlying f3.type = some (.slice ts)) (us : P.underlying ts = some .string) (hcs : P.cellsOf ts = 1) :
    Rd P t TJson.enc TJson.Wf (fun v => D.bk (TJson.enc v)) := rdU_rec fun N h => by
  have r := rdfU_cons (N := N + 1) o0 (int_ok _) ((rd_i64 u0).up (N + 1)) (rdfU_cons o1 str_ok ((rd_str u1).up (N + 1)) (rdfU_cons o2 slE_ok (rdU_slice u2 rtE_ok (by decide) hc N (RdU.rt TJson.ok h)) (rdfU_cons o3 slE_ok ((rd_slice u3 str_ok (by decide) hcs (rd_str us)).up (N + 1)) rdfU_nil)))
  rw [← hfs] at r
  exact (rdU_struct hu (fun b : Int × List UInt8 × List (RT 4) × List (List UInt8) × Unit => TJson.mk b.1 b.2.1 b.2.2.1 b.2.2.2.1) (fun _ => rfl) (fun b => by rw [hc]; rfl) (fun b hb => TJson.Wf.of hb.1 hb.2.2.1) (fun b => by rw [TJson.bk_eq]; exact Nat.le_refl _) r).lower (by omega)
end Go.Proofs.Abs
