/- JsonWhite: white between what stands there plays no part. -/
import Derived.Test.YtnhjiioiejpbgaaDoorPJw7
set_option linter.unusedSimpArgs false
namespace Go.Proofs.Abs
open Go
set_option linter.unusedVariables false
set_option maxRecDepth 100000
theorem same_parts (us : List TJson) (rc : TJson → TJson → Option Bool) (l : List (RT 4)) (hl : l = us.map (RT.of TJson.ok)) (hn : us.length ≤ 1048576) (hrc : ∀ u ∈ us, rc u u = some true) : ∀ (rest pre : List TJson) (K : Nat), us = pre ++ rest → rest.length + 1 ≤ K →
    f438_l26 l l rc K ((pre.length : Nat) : Int) = some (.b0 ()) := by
  have hll : l.length = us.length := by rw [hl, List.length_map]
  intro rest
  induction rest with
  | nil =>
    intro pre K e hK
    obtain ⟨K, rfl⟩ : ∃ j, K = j + 1 := ⟨K - 1, by omega⟩
    rw [f438_l26, cdn (by rw [hll, e]; simp)]
  | cons x t ih =>
    intro pre K e hK
    rw [List.length_cons] at hK
    obtain ⟨K, rfl⟩ : ∃ j, K = j + 1 := ⟨K - 1, by omega⟩
    have hlen : us.length = pre.length + (t.length + 1) := by rw [e]; simp
    have hp := part_at ⟨0, [], l, []⟩ pre t x (by show l = _; rw [hl, e])
    have hp : TJson.dec (rtE (rd l ((pre.length : Nat) : Int))) = some x := hp
    rw [f438_l26, cdp (by omega), gdp (by omega), hp, Option.bind_some, gdp (by omega), Option.bind_some, hrc x (by rw [e]; simp), Option.bind_some]
    show cond false _ _ = _
    rw [cond_false, i64w (by omega)]
    have := ih (pre ++ [x]) K (by rw [e]; simp) (by omega)
    rw [List.length_append] at this
    exact this
theorem same_v (v : TJson) (hs : Sm v) : ∀ K, jbk v + 400 ≤ K → jbk v ≤ 1048576 → f437 K v v = some true := by
  induction hs with
  | mk v us h ht hk hw ih =>
    intro K hK hv
    obtain ⟨K, rfl⟩ : ∃ j, K = j + 1 := ⟨K - 1, by omega⟩
    have hb := jbk_eq v us h
    obtain ⟨s1, s2⟩ := sum_ge us
    rw [f437]
    unfold f437_s
    rw [cdp rfl, cdp rfl]
    have e1 : f438 (f437 K) K v.fL v.fL = some true := by
      unfold f438
      rw [cdn (by simp)]
      have := same_parts us (f437 K) v.fL h (by omega) (fun u hu => by have := s2 u hu; exact ih u hu K (by omega) (by omega)) us [] K rfl (by omega)
      show Option.bind (f438_l26 v.fL v.fL (f437 K) K (((([] : List TJson).length : Nat)) : Int)) _ = _
      rw [this]
      rfl
    rw [e1, Option.bind_some, cond_true, same_at K v.fKeys (by omega) (by omega)]
    rfl
theorem gap_loop (a : List UInt8) (ha : a.length ≤ 8) : ∀ (rest pre y : List UInt8) (K : Nat), a = pre ++ rest → rest.length + 1 ≤ K → whG y → y.length = pre.length → ∃ w, f410_l40 a K y ((pre.length : Nat) : Int) = some (.b0 w) ∧ whG w ∧ w.length = a.length := by
  intro rest
  induction rest with
  | nil =>
    intro pre y K e hK hy hl
    obtain ⟨K, rfl⟩ : ∃ j, K = j + 1 := ⟨K - 1, by omega⟩
    refine ⟨y, ?_, hy, by rw [hl, e]; simp⟩
    rw [f410_l40, cdn (by rw [e]; simp)]
  | cons c t ih =>
    intro pre y K e hK hy hl
    rw [List.length_cons] at hK
    obtain ⟨K, rfl⟩ : ∃ j, K = j + 1 := ⟨K - 1, by omega⟩
    have hlen : a.length = pre.length + (t.length + 1) := by rw [e]; simp
    have hm : rd a ((pre.length : Nat) : Int) = c := by rw [e]; exact rd_mid
    have ht : Int.tmod ((c.toNat : Nat) : Int) 4 = ((c.toNat % 4 : Nat) : Int) := rfl
    have go : ∀ x : UInt8, isW x → ∃ w, f410_l40 a K (y ++ [x]) (((pre ++ [c]).length : Nat) : Int) = some (.b0 w) ∧ whG w ∧ w.length = a.length := fun x hx =>
      ih (pre ++ [c]) (y ++ [x]) K (by rw [e]; simp) (by omega) (whG_app hy fun z hz => by rw [List.mem_singleton.1 hz]; exact hx) (by simp [hl])
    rw [f410_l40, cdp (by omega), gdp (by omega), hm, ht, i64w (by omega)]
    have h4 : c.toNat % 4 < 4 := Nat.mod_lt _ (by decide)
    generalize c.toNat % 4 = m at h4 ⊢
    have el : (((pre ++ [c]).length : Nat) : Int) = ((pre.length : Nat) : Int) + 1 := by simp
    rw [el] at go
    rw [gdp (by simp only [List.length_cons, List.length_nil]; omega)]
    match m, h4 with
    | 0, _ => rw [gdp (by show y.length + 1 ≤ _; omega)]; exact go 32 (by decide)
    | 1, _ => rw [gdp (by show y.length + 1 ≤ _; omega)]; exact go 9 (by decide)
    | 2, _ => rw [gdp (by show y.length + 1 ≤ _; omega)]; exact go 10 (by decide)
    | 3, _ => rw [gdp (by show y.length + 1 ≤ _; omega)]; exact go 13 (by decide)
theorem parse_sp (g : List UInt8) (hg : whG g) (v : TJson) (t : List UInt8) (K : Nat) (hs : Sp g 64 v t) (hb : t.length ≤ 20000) (hK : 50000 ≤ K) : f396 K t = some (0, v.fKind, v.fText, v.fL, v.fKeys) := by
  obtain ⟨c, b, e, hW, _, _, hr⟩ := sp_reads hg 64 v t hs
  have hA : At t 0 (g ++ (c :: (b ++ (g ++ [])))) := by rw [List.append_nil, ← e]; exact At.start t
  obtain ⟨m, m1, m2⟩ := hr g t [] 0 K hg hA (fun d u e => by cases e) hb (by omega) (by omega)
  have m1 : f397 K t 0 0 = some (0, v.fKind, v.fText, v.fL, v.fKeys, m) := m1
  have m3 := m2.skip
  have hl := m3.len
  have hl2 := m2.len
  simp only [List.length_append, List.length_nil] at hl hl2
  unfold f396
  rw [cdn (by omega), m1, Option.bind_some]
  show cond (decide ((0 : Int) ≠ 0)) _ (Option.bind (f398 K t m) _) = _
  rw [cdn (by decide), white_gap g [] m K hg m2 (fun d u e => by cases e) hb (by omega), Option.bind_some, cdn (by omega)]
theorem law_JsonWhite (a0 : TJson) (a1 : List UInt8) (w0 : TJson.Wf a0) (w1 : ∀ e0 ∈ a1, True) (hb : D.bk (TJson.enc a0) + ((a1.map (fun _ => 1)).sum + 1) ≤ 1048576) : ∃ k, f410 k a0 a1 = some true := by
  suffices h : ∀ K, 4000000 ≤ K → f410 K a0 a1 = some true from ⟨4000000, h _ (Nat.le_refl _)⟩
  intro K hK
  have hj : jbk a0 ≤ 1048576 := by unfold jbk; omega
  have ha : f395 K = some true := by
    obtain ⟨j, rfl⟩ : ∃ j, K = j + 20 := ⟨K - 20, by omega⟩
    exact awake_jk j
  unfold f410
  obtain ⟨b, a2, s1, s2⟩ := small_def a0 w0 K 300 (by omega) hj (by omega) (by omega)
  have e1 : f408 K a0 300 = some b := by
    unfold f408
    show Option.bind (f409 K a0 300) _ = _
    rw [s1]
    rfl
  show Option.bind (f408 K a0 300) _ = _
  rw [e1, ha, Option.bind_some]
  cases b with
  | false => rfl
  | true =>
    obtain ⟨_, _, sm⟩ := s2 rfl
    obtain ⟨b, r1, r2⟩ := right_def a0 w0 sm K 64 (by omega) hj (by omega)
    have e2 : f347 K a0 = some b := by
      unfold f347
      show Option.bind (f348 K a0 (64 - ((64 : Nat) : Int))) _ = _
      rw [r1]
      rfl
    show cond false _ (Option.bind (f347 K a0) _) = _
    rw [cond_false, e2, Option.bind_some]
    cases b with
    | false => rfl
    | true =>
      show cond false _ _ = _
      rw [cond_false]
      by_cases h8 : ((a1.length : Nat) : Int) > 8
      · rw [cdp h8]
        rfl
      · rw [cdn h8]
        obtain ⟨g, g1, g2, g3⟩ := gap_loop a1 (by omega) a1 [] [] K rfl (by omega) whG_nil rfl
        show Option.bind (f410_l40 a1 K [] (((([] : List UInt8).length : Nat)) : Int)) _ = _
        rw [g1, Option.bind_some]
        show f410_j73 K a0 g = _
        obtain ⟨t, t1, t2, t3⟩ := spaced (g := g) (by omega) 64 a0 (r2 rfl) sm K (by omega) hj
        unfold f410_j73
        show Option.bind (f439 K a0 g) _ = _
        rw [t1, Option.bind_some, ha]
        by_cases hl : ((t.length : Nat) : Int) > 20000
        · have e3 : f396 K t = some (5, 0, [], [], []) := by
            unfold f396
            rw [cdp hl]
          rw [e3, Option.bind_some, Option.bind_some, cond_true, cdp hl]
        · rw [parse_sp g g2 a0 t K t2 (by omega) (by omega), Option.bind_some, Option.bind_some, cond_true, cdn hl]
          show cond (decide ((0 : Int) = 0)) (Option.bind (f437 K a0 a0) _) _ = _
          rw [cdp rfl, same_v a0 sm K (by omega) hj]
          rfl
end Go.Proofs.Abs
