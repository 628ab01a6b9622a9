/- How big a value is, is told. -/
import Derived.Test.YtnhjiioiejpbgaaDoorPJwf
import Derived.Test.YtnhjiioiejpbgaaDoorAbsxc
set_option linter.unusedSimpArgs false
namespace Go.Proofs.Abs
open Go
set_option linter.unusedVariables false
set_option maxRecDepth 100000
/-- how much there is of a value -/
def jbk (v : TJson) : Nat := D.bk (TJson.enc v)
theorem jbk_eq (v : TJson) (us : List TJson) (h : v.fL = us.map (RT.of TJson.ok)) : jbk v = 5 + v.fText.length + (us.map jbk).sum + (v.fKeys.map fun x => x.length + 1).sum := by
  have e : (v.fL.map fun x => D.bk (rtE x)) = us.map jbk := by
    rw [h, List.map_map]
    rfl
  show D.bk (TJson.enc v) = _
  rw [TJson.bk_eq, e]
  omega
theorem jbk_pos (v : TJson) : 5 ≤ jbk v := by
  unfold jbk
  rw [TJson.bk_eq]
  omega
theorem sum_ge : ∀ (us : List TJson), us.length ≤ (us.map jbk).sum ∧ ∀ u ∈ us, jbk u ≤ (us.map jbk).sum
  | [] => ⟨Nat.le_refl _, fun u h => (List.not_mem_nil h).elim⟩
  | x :: r => by
    obtain ⟨h1, h2⟩ := sum_ge r
    have := jbk_pos x
    simp only [List.map_cons, List.sum_cons, List.length_cons]
    refine ⟨by omega, fun u hu => ?_⟩
    rcases List.mem_cons.1 hu with rfl | hu
    · omega
    · have := h2 u hu
      omega
theorem keys_ge : ∀ (ks : List (List UInt8)), ks.length ≤ (ks.map fun x => x.length + 1).sum ∧ ∀ k ∈ ks, k.length ≤ (ks.map fun x => x.length + 1).sum
  | [] => ⟨Nat.le_refl _, fun u h => (List.not_mem_nil h).elim⟩
  | x :: r => by
    obtain ⟨h1, h2⟩ := keys_ge r
    simp only [List.map_cons, List.sum_cons, List.length_cons]
    refine ⟨by omega, fun u hu => ?_⟩
    rcases List.mem_cons.1 hu with rfl | hu
    · omega
    · have := h2 u hu
      omega
/-- an element of a value's row -/
theorem part_at (v : TJson) (pre rest : List TJson) (u : TJson) (h : v.fL = (pre ++ u :: rest).map (RT.of TJson.ok)) : TJson.dec (rtE (rd v.fL ((pre.length : Nat) : Int))) = some u := by
  have : rd v.fL ((pre.length : Nat) : Int) = RT.of TJson.ok u := by
    rw [h, List.map_append, List.map_cons]
    have := rd_mid (pre := pre.map (RT.of TJson.ok)) (x := RT.of TJson.ok u) (rest := rest.map (RT.of TJson.ok))
    rwa [List.length_map] at this
  rw [this, TJson.dec_of]
/-- texts of a bounded length -/
inductive Sm : TJson → Prop
  | mk (v : TJson) (us : List TJson) (h : v.fL = us.map (RT.of TJson.ok)) (ht : v.fText.length ≤ 120000) (hk : v.fKeys.length ≤ 30000) (hw : ∀ u ∈ us, Sm u) : Sm v
theorem small_def (v : TJson) (hw : TJson.Wf v) : ∀ (K : Nat) (a1 : Int), jbk v ≤ K → jbk v ≤ 1048576 → 0 ≤ a1 → a1 ≤ 2000 → ∃ b a2, f409 K v a1 = some (b, a2) ∧ (b = true → 0 ≤ a2 ∧ a2 ≤ a1 ∧ Sm v) := by
  induction hw with
  | mk v us hk h hw ih =>
    intro K a1 hK hv h0 h1
    have hb := jbk_eq v us h
    obtain ⟨s1, s2⟩ := sum_ge us
    obtain ⟨k1, _⟩ := keys_ge v.fKeys
    have hl : v.fL.length = us.length := by rw [h, List.length_map]
    obtain ⟨K, rfl⟩ : ∃ j, K = j + 1 := ⟨K - 1, by omega⟩
    have hd : Int.tdiv ((v.fText.length : Nat) : Int) (50 : Int) = ((v.fText.length / 50 : Nat) : Int) := by
      rw [Int.tdiv_eq_ediv_of_nonneg (by omega)]
      rfl
    rw [f409]
    unfold f409_s
    rw [hd, i64w (n := ((v.fText.length / 50 : Nat) : Int)) (by omega), i64w (n := a1 - 1) (by omega), i64w (n := a1 - 1 - ((v.fText.length / 50 : Nat) : Int)) (by omega), i64w (by omega)]
    obtain ⟨a, ha⟩ : ∃ a, a1 - 1 - ((v.fText.length / 50 : Nat) : Int) - ((v.fKeys.length : Nat) : Int) = a := ⟨_, rfl⟩
    rw [ha]
    by_cases hn : a < 0
    · rw [cdp hn]
      exact ⟨false, a, rfl, fun h => by cases h⟩
    · rw [cdn hn]
      have loop : ∀ (rest pre : List TJson) (J : Nat) (left : Int), us = pre ++ rest → rest.length + 1 ≤ J → 0 ≤ left → left ≤ a →
          ∃ z, f409_l45 v (f409 K) J ((pre.length : Nat) : Int) left = some z ∧ ((∃ l, z = .b0 l ∧ 0 ≤ l ∧ l ≤ a ∧ ∀ u ∈ rest, Sm u) ∨ ∃ l, z = .r (false, l)) := by
        intro rest
        induction rest with
        | nil =>
          intro pre J left e hJ l0 l1
          obtain ⟨J, rfl⟩ : ∃ j, J = j + 1 := ⟨J - 1, by omega⟩
          refine ⟨.b0 left, ?_, .inl ⟨left, rfl, l0, l1, fun u hu => (List.not_mem_nil hu).elim⟩⟩
          rw [f409_l45, hl, cdn (by rw [e]; simp)]
        | cons u t iht =>
          intro pre J left e hJ l0 l1
          rw [List.length_cons] at hJ
          obtain ⟨J, rfl⟩ : ∃ j, J = j + 1 := ⟨J - 1, by omega⟩
          have hlen : us.length = pre.length + (t.length + 1) := by rw [e]; simp
          have hu : u ∈ us := by rw [e]; simp
          have hs := s2 u hu
          obtain ⟨b, a2, g1, g2⟩ := ih u hu K left (by omega) (by omega) l0 (by omega)
          rw [f409_l45, hl, cdp (by omega), gdp (by omega), part_at v pre t u (by rw [h, e]), Option.bind_some, g1, Option.bind_some]
          cases b with
          | false => exact ⟨_, rfl, .inr ⟨a2, rfl⟩⟩
          | true =>
            obtain ⟨g3, g4, g5⟩ := g2 rfl
            show ∃ z, cond false _ (f409_l45 v (f409 K) J (IntKind.i64.wrap (((pre.length : Nat) : Int) + 1)) a2) = _ ∧ _
            rw [cond_false, i64w (by omega)]
            obtain ⟨z, q1, q2⟩ := iht (pre ++ [u]) J a2 (by rw [e]; simp) (by omega) g3 (by omega)
            rw [List.length_append] at q1
            refine ⟨z, q1, ?_⟩
            rcases q2 with ⟨l, q3, q4, q5, q6⟩ | q2
            · refine .inl ⟨l, q3, q4, q5, fun w hw => ?_⟩
              rcases List.mem_cons.1 hw with rfl | hw
              · exact g5
              · exact q6 w hw
            · exact .inr q2
      obtain ⟨z, g1, g2⟩ := loop us [] K a rfl (by omega) (by omega) (by omega)
      have g1 : f409_l45 v (f409 K) K 0 a = some z := g1
      rw [g1, Option.bind_some]
      rcases g2 with ⟨l, rfl, q1, q2, q3⟩ | ⟨l, rfl⟩
      · exact ⟨true, l, rfl, fun _ => ⟨q1, by omega, .mk v us h (by omega) (by omega) q3⟩⟩
      · exact ⟨false, l, rfl, fun h => by cases h⟩
end Go.Proofs.Abs
