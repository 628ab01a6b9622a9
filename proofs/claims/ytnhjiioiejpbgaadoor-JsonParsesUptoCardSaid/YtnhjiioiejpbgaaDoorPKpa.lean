/- JsonParses: what any text is, or why it is none. -/
import Derived.Test.YtnhjiioiejpbgaaDoorPKp9
set_option linter.unusedSimpArgs false
namespace Go.Proofs.Abs
open Go
set_option linter.unusedVariables false
set_option maxRecDepth 100000
theorem jsame_loop (rc : TJson → TJson → Option Bool) (L : List (RT 4)) (h : Nat) (hL : L.length ≤ 30000) (hLo : LOk h L) (hrc : ∀ u, JOk h u → rc u u = some true) : ∀ (rest pre : List (RT 4)) (K : Nat), L = pre ++ rest → rest.length + 1 ≤ K →
    f438_l26 L L rc K ((pre.length : Nat) : Int) = some (.b0 ()) := by
  intro rest
  induction rest with
  | nil =>
    intro pre K e hK
    obtain ⟨K, rfl⟩ : ∃ j, K = j + 1 := ⟨K - 1, by omega⟩
    rw [f438_l26, cdn (by rw [e]; simp)]
  | cons x t ih =>
    intro pre K e hK
    rw [List.length_cons] at hK
    obtain ⟨K, rfl⟩ : ∃ j, K = j + 1 := ⟨K - 1, by omega⟩
    have hl : L.length = pre.length + (t.length + 1) := by rw [e]; simp
    have hm : rd L ((pre.length : Nat) : Int) = x := by rw [e]; exact rd_mid
    obtain ⟨u, hu, hj⟩ := hLo x (by rw [e]; simp)
    rw [f438_l26, cdp (by omega), gdp (by omega), hm, hu, TJson.dec_of, Option.bind_some, gdp (by omega), Option.bind_some, hrc u hj, Option.bind_some]
    show cond false _ _ = _
    rw [cond_false, i64w (by omega)]
    have := ih (pre ++ [x]) K (by rw [e]; simp) (by omega)
    rw [List.length_append] at this
    exact this
theorem jsame : ∀ (h : Nat) (v : TJson) (K : Nat), JOk h v → h + 30010 ≤ K → f437 K v v = some true := by
  intro h
  induction h with
  | zero =>
    intro v K hv hK
    obtain ⟨K, rfl⟩ : ∃ j, K = j + 1 := ⟨K - 1, by omega⟩
    obtain ⟨h1, h2⟩ := hv
    rw [f437]
    unfold f437_s
    rw [cdp rfl, cdp rfl, h1, h2]
    have e1 : f438 (f437 K) K [] [] = some true := by
      obtain ⟨K, rfl⟩ : ∃ j, K = j + 1 := ⟨K - 1, by omega⟩
      rfl
    have e2 : f434 K [] [] = some true := by
      obtain ⟨K, rfl⟩ : ∃ j, K = j + 1 := ⟨K - 1, by omega⟩
      rfl
    rw [e1, Option.bind_some, cond_true, e2]
    rfl
  | succ h ih =>
    intro v K hv hK
    obtain ⟨K, rfl⟩ : ∃ j, K = j + 1 := ⟨K - 1, by omega⟩
    obtain ⟨h1, h2, h3⟩ := hv
    rw [f437]
    unfold f437_s
    rw [cdp rfl, cdp rfl]
    have e1 : f438 (f437 K) K v.fL v.fL = some true := by
      unfold f438
      rw [cdn (by simp)]
      have := jsame_loop (f437 K) v.fL h h1 h3 (fun u hu => ih u K hu (by omega)) v.fL [] K rfl (by omega)
      show Option.bind (f438_l26 v.fL v.fL (f437 K) K (((([] : List (RT 4)).length : Nat)) : Int)) _ = _
      rw [this]
      rfl
    rw [e1, Option.bind_some, cond_true, same_at K v.fKeys h2 (by omega)]
    rfl
theorem parse_eq (s : List UInt8) (K : Nat) (hK : 70000 ≤ K) : ∃ r : Int × Int × (List UInt8) × (List (RT 4)) × (List (List UInt8)), f396 K s = some r ∧ f295 K s = some r ∧ JOk 64 ⟨r.2.1, r.2.2.1, r.2.2.2.1, r.2.2.2.2⟩ := by
  by_cases hl : s.length > 20000
  · refine ⟨(5, 0, [], [], []), ?_, ?_, JOk.leaf 64 0 []⟩
    · unfold f396
      rw [cdp (by omega)]
    · unfold f295
      rw [cdp (by omega)]
  · have hb : s.length ≤ 20000 := by omega
    have hv := value_eq hb s.length s 0 64 K (Nat.le_refl _) (At.start s) (Nat.le_refl _) (by omega)
    have e0 : (64 : Int) - ((64 : Nat) : Int) = 0 := by omega
    rw [ValAt, e0] at hv
    unfold f396 f295
    rw [cdn (by omega), cdn (by omega)]
    rcases hv with ⟨v, n', R', g1, g2, g3, g4, g5⟩ | ⟨e, he, ⟨kd, tx, l, ks, n1, g1⟩, kd', tx', l', ks', n2, R2, g2, g3, g4⟩
    · obtain ⟨n1, R1, h1, h2, wp, w, _⟩ := whites hb K g3 (by omega)
      have hl1 := h1.len
      rw [g1, g2, Option.bind_some, Option.bind_some]
      show ∃ r, cond (decide ((0 : Int) ≠ 0)) _ (Option.bind (f398 K s n') _) = _ ∧ Option.bind (f297 K s n' 0) _ = _ ∧ _
      rw [cdn (by decide), wp, w 0, Option.bind_some, Option.bind_some]
      cases R1 with
      | nil =>
        rw [List.length_nil] at hl1
        rw [cdn (by omega), cdn (by omega)]
        exact ⟨(0, v.fKind, v.fText, v.fL, v.fKeys), rfl, rfl, g5⟩
      | cons c t =>
        rw [List.length_cons] at hl1
        rw [cdp (by omega), cdp (by omega)]
        exact ⟨(4, 0, [], [], []), rfl, rfl, JOk.leaf 64 0 []⟩
    · obtain ⟨n3, R3, h1, h2, _, w, _⟩ := whites hb K g3 (by omega)
      rw [g1, g2, Option.bind_some, Option.bind_some]
      refine ⟨(e, 0, [], [], []), ?_, ?_, JOk.leaf 64 0 []⟩
      · show cond (decide (e ≠ 0)) _ _ = _
        rw [cdp he]
      · show Option.bind (f297 K s n2 e) _ = _
        rw [w e, Option.bind_some]
        have hj : f295_j61 K (kd', tx', l', ks', n2, e) e = some (e, 0, [], [], []) := by
          unfold f295_j61
          rw [cdp he]
        by_cases h5 : n3 < ((s.length : Nat) : Int)
        · rw [cdp h5]
          show Option.bind (f298 K s n3 e 4) _ = _
          rw [failE K s n3 e 4 he, Option.bind_some, hj]
        · rw [cdn h5]
          exact hj
theorem awake_jp (k : Nat) : f395 (k + 20) = some true := by kernel_rfl
theorem law_JsonParses (a0 : List UInt8) (w0 : True) (hb : a0.length + 1 ≤ 1048576) : ∃ k, f394 k a0 = some true := by
  suffices h : ∀ K, 70020 ≤ K → f394 K a0 = some true from ⟨70020, h _ (Nat.le_refl _)⟩
  intro K hK
  have ha : f395 K = some true := by
    obtain ⟨j, rfl⟩ : ∃ j, K = j + 20 := ⟨K - 20, by omega⟩
    exact awake_jp j
  unfold f394
  rw [ha]
  by_cases h : ((a0.length : Nat) : Int) > 30000
  · rw [cdp h]
    rfl
  · rw [cdn h]
    obtain ⟨r, h1, h2, h3⟩ := parse_eq a0 K (by omega)
    rw [h1, h2, Option.bind_some, Option.bind_some, Option.bind_some, cond_true, jsame 64 _ K h3 (by omega), Option.bind_some, cond_true]
    simp
end Go.Proofs.Abs
