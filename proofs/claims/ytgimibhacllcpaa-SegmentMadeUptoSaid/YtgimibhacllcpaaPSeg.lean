/- The law SegmentRecords over the Lean functions: the records from a place on. -/
import Derived.Test.YtgimibhacllcpaaPSca
set_option linter.unusedSimpArgs false
namespace Go.Proofs.Abs
open Go
set_option linter.unusedVariables false
set_option maxRecDepth 10000

theorem u64_nonneg (n : Int) : 0 ≤ IntKind.u64.wrap n := by
  simp only [IntKind.wrap, IntKind.signed, IntKind.bits]
  simp
  omega
theorem awake20 {k : Nat} (hk : 700 < k) : f245 k = some true := by
  have hl : (mkF 3 [120]).1.length = 17 := by decide +kernel
  simp only [f245]
  rw [make_ref (by simp) (by simp; omega)]
  simp only [Option.bind_some]
  rw [scan_lib (by omega) (by omega) (by omega)]
  simp only [Option.bind_some]
  decide +kernel
/-- what is asked for: the records from a place on -/
def fromL (o : Int) (l : List TRec) : List TRec := l.filter fun x => decide (x.fOffset ≥ o)
theorem fromL_cons {o : Int} {x : TRec} {l : List TRec} : fromL o (x :: l) = if x.fOffset ≥ o then x :: fromL o l else fromL o l := by
  unfold fromL
  by_cases h : x.fOffset ≥ o <;> simp [h]
theorem fromL_append {o : Int} {a b : List TRec} : fromL o (a ++ b) = fromL o a ++ fromL o b := by simp [fromL]
theorem rd_map {α β : Type} [Inhabited α] [Inhabited β] {f : α → β} {l : List α} {i : Int} (h : 0 ≤ i ∧ i < ((l.length : Nat) : Int)) : rd (l.map f) i = f (rd l i) := by
  have : i.toNat < l.length := by omega
  simp [rd, List.getD, this]
theorem scanS_data : ∀ (m : Nat) (R : List UInt8) (p nx : Int) (x : Tsegment_place), x ∈ (scanS m R p nx).1 → x.fr.fData.length ≤ R.length
  | 0, R, p, nx, x, h => by simp [scanS] at h
  | m + 1, R, p, nx, x, h => by
    unfold scanS at h
    by_cases c1 : (takeF R).2.1 = 0
    · obtain ⟨n, e1, h16, hnR, _, hd, hv⟩ := takeF_ok c1
      have hx : ((takeF R).2.2.2).length ≤ R.length := by rw [hd]; simp; omega
      rw [if_neg (by simp [c1])] at h
      by_cases c2 : (takeF R).2.2.1 = nx
      · rw [if_neg (by simp [c2]), e1] at h
        by_cases c3 : nx = 18446744073709551615
        · rw [if_pos c3] at h
          simp at h; subst h; exact hx
        · rw [if_neg c3, Int.toNat_natCast] at h
          rcases List.mem_cons.1 h with rfl | h
          · exact hx
          · have := scanS_data m _ _ _ x h
            simp at this; omega
      · rw [if_pos c2] at h; simp at h
    · rw [if_pos c1] at h; simp at h
end Go.Proofs.Abs
