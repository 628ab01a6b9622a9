/- JsonBack: the law. -/
import Derived.Test.YtnhjiioiejpbgaaDoorPB5
set_option linter.unusedSimpArgs false
namespace Go.Proofs.Abs
open Go
set_option linter.unusedVariables false
set_option maxRecDepth 100000
theorem same_loop (a : List (List UInt8)) (hb : a.length ≤ 1000000) : ∀ (rest pre : List (List UInt8)) (K : Nat), a = pre ++ rest → rest.length + 1 ≤ K → f435_l26 a a K ((pre.length : Nat) : Int) = some (.b0 ()) := by
  intro rest
  induction rest with
  | nil =>
    intro pre K e hK
    obtain ⟨K, rfl⟩ : ∃ j, K = j + 1 := ⟨K - 1, by omega⟩
    rw [f435_l26, cdn (by rw [e]; simp)]
  | cons x t ih =>
    intro pre K e hK
    rw [List.length_cons] at hK
    obtain ⟨K, rfl⟩ : ∃ j, K = j + 1 := ⟨K - 1, by omega⟩
    have hl : a.length = pre.length + (t.length + 1) := by rw [e]; simp
    rw [f435_l26, cdp (by omega), gdp (by omega), gdp (by omega)]
    show Option.bind (some ()) _ = _
    rw [Option.bind_some, decide_eq_true rfl]
    show cond false _ _ = _
    rw [cond_false, i64w (by omega)]
    have := ih (pre ++ [x]) K (by rw [e]; simp) (by omega)
    simpa using this
theorem same_at (K : Nat) (a : List (List UInt8)) (hb : a.length ≤ 1000000) (hK : a.length + 1 ≤ K) : f434 K a a = some true := by
  unfold f434 f435
  rw [cdn (by simp)]
  have := same_loop a hb a [] K rfl hK
  show Option.bind (Option.bind (f435_l26 a a K (((([] : List (List UInt8)).length : Nat)) : Int)) _) _ = _
  rw [this]
  rfl
theorem same_parts (us : List TJson) (rc : TJson → TJson → Option Bool) (l : List (RT 4)) (hl : l = us.map (RT.of TJson.ok)) (hn : us.length ≤ 2000000) (hrc : ∀ u ∈ us, rc u u = some true) : ∀ (rest pre : List TJson) (K : Nat), us = pre ++ rest → rest.length + 1 ≤ K →
    f438_l26 l l rc K ((pre.length : Nat) : Int) = some (.b0 ()) := by
  have hll : l.length = us.length := by rw [hl, List.length_map]
  intro rest
  induction rest with
  | nil =>
    intro pre K e hK
    obtain ⟨K, rfl⟩ : ∃ j, K = j + 1 := ⟨K - 1, by omega⟩
    rw [f438_l26, cdn (by rw [hll, e]; simp)]
  | cons x t ih =>
    intro pre K e hK
    rw [List.length_cons] at hK
    obtain ⟨K, rfl⟩ : ∃ j, K = j + 1 := ⟨K - 1, by omega⟩
    have hlen : us.length = pre.length + (t.length + 1) := by rw [e]; simp
    have hp := part_at ⟨0, [], l, []⟩ pre t x (by show l = _; rw [hl, e])
    have hp : TJson.dec (rtE (rd l ((pre.length : Nat) : Int))) = some x := hp
    rw [f438_l26, cdp (by omega), gdp (by omega), hp, Option.bind_some, gdp (by omega), Option.bind_some, hrc x (by rw [e]; simp), Option.bind_some]
    show cond false _ _ = _
    rw [cond_false, i64w (by omega)]
    have := ih (pre ++ [x]) K (by rw [e]; simp) (by omega)
    rw [List.length_append] at this
    exact this
theorem same_v (v : TJson) (hs : Sm v) : ∀ K, jbk v + 33000 ≤ K → jbk v ≤ 2000000 → f437 K v v = some true := by
  induction hs with
  | mk v us h ht hk hw ih =>
    intro K hK hv
    obtain ⟨K, rfl⟩ : ∃ j, K = j + 1 := ⟨K - 1, by omega⟩
    have hb := jbk_eq v us h
    obtain ⟨s1, s2⟩ := sum_ge us
    rw [f437]
    unfold f437_s
    rw [cdp rfl, cdp rfl]
    have e1 : f438 (f437 K) K v.fL v.fL = some true := by
      unfold f438
      rw [cdn (by simp)]
      have := same_parts us (f437 K) v.fL h (by omega) (fun u hu => by have := s2 u hu; exact ih u hu K (by omega) (by omega)) us [] K rfl (by omega)
      show Option.bind (f438_l26 v.fL v.fL (f437 K) K (((([] : List TJson).length : Nat)) : Int)) _ = _
      rw [this]
      rfl
    rw [e1, Option.bind_some, cond_true, same_at K v.fKeys (by omega) (by omega)]
    rfl
theorem jr_wf (h : Nat) (v : TJson) (hr : JR h v) : TJson.Wf v := by
  induction hr with
  | lit h k hk => exact .mk _ [] (by show _ ≤ k ∧ k ≤ _; omega) rfl (by simp)
  | num h t ht => exact .mk _ [] (by dsimp only; omega) rfl (by simp)
  | str h t ht => exact .mk _ [] (by dsimp only; omega) rfl (by simp)
  | arr h us hu ih => exact .mk _ us (by dsimp only; omega) rfl ih
  | obj h us ks hl hn hv hu ih => exact .mk _ us (by dsimp only; omega) rfl ih
theorem sp_ne {h : Nat} {v : TJson} {t : List UInt8} (hs : Sp [] h v t) : t ≠ [] := by
  obtain ⟨c, b, e, _⟩ := sp_reads whG_nil h v t hs
  rw [e]
  simp
theorem awake_jb (k : Nat) : f395 (k + 40) = some true := by kernel_rfl
/-- printing: what is told -/
theorem printed_at (v : TJson) (hr : JR 64 v) (hs : Sm v) (K : Nat) (hK : 4000000 ≤ K) (hj : jbk v ≤ 1048576) : ∃ t, f421 K v = some t ∧ f354 K v = some t ∧ f422 K v = some true ∧ f347 K v = some true ∧ t ≠ [] ∧ (t.length ≤ 20000 → f396 K t = some (0, v.fKind, v.fText, v.fL, v.fKeys)) := by
  obtain ⟨b, r1, r2, r3⟩ := right_both v (jr_wf 64 v hr) hs K (by omega) hj
  have hb := r3.2 hr
  subst hb
  obtain ⟨t, t1, t2, _, t4⟩ := print_both 64 v hr hs K (by omega) hj
  have t4 := t4 [] (by simp; omega)
  rw [List.nil_append] at t4
  refine ⟨t, ?_, ?_, r1, r2, sp_ne t2, fun hl => parse_sp [] whG_nil v t K t2 hl (by omega)⟩
  · unfold f421
    show Option.bind (f422 K v) _ = _
    rw [r1, Option.bind_some]
    show cond false _ (Option.bind (f423 K [] v) _) = _
    rw [cond_false, t4]
    rfl
  · unfold f354
    show Option.bind (f347 K v) _ = _
    rw [r2, Option.bind_some]
    show cond false _ (Option.bind (f355 K v) _) = _
    rw [cond_false, t1]
    rfl
theorem back_at (a1 : List UInt8) (K : Nat) (hK : 4000000 ≤ K) : f407_j94 K a1 = some true := by
  obtain ⟨e, k, x, l, ks, e1, e2⟩ := parse_tot a1 K (by omega)
  unfold f407_j94
  rw [e1, Option.bind_some]
  dsimp only
  by_cases e0 : e = 0
  · obtain ⟨q1, q2, q3⟩ := e2 e0
    obtain ⟨v, hv⟩ : ∃ v : TJson, v = ⟨k, x, l, ks⟩ := ⟨_, rfl⟩
    rw [← hv] at q1 q2 q3 ⊢
    obtain ⟨t, p1, p2, p3, p4, p5, p6⟩ := printed_at v q1 q2 K hK (by omega)
    obtain ⟨e', k', x', l', ks', g1, _⟩ := parse_tot t K (by omega)
    rw [cdn (fun q => q e0), p1, Option.bind_some, g1, Option.bind_some, p3, Option.bind_some, cond_true]
    dsimp only
    by_cases hl : t.length ≤ 20000
    · have := p6 hl
      rw [g1] at this
      obtain ⟨rfl, rfl, rfl, rfl, rfl⟩ := by simpa only [Option.some.injEq, Prod.mk.injEq] using this
      rw [cdp rfl]
      show Option.bind (f437 K v v) _ = _
      rw [same_v v q2 K (by omega) (by omega), Option.bind_some, cond_true]
    · have hgt : ((t.length : Nat) : Int) > 20000 := by omega
      have fin : ((f354 K v).bind fun r145 => some (decide (((r145.length : Nat) : Int) > (20000 : Int)))) = some true := by
        rw [p2, Option.bind_some, decide_eq_true hgt]
      have h5 : e' = 5 := by
        unfold f396 at g1
        rw [cdp hgt] at g1
        simp only [Option.some.injEq, Prod.mk.injEq] at g1
        exact g1.1.symm
      rw [cdn (by omega)]
      exact fin
  · rw [cdp e0]
theorem law_JsonBack (a0 : TJson) (a1 : List UInt8) (w0 : TJson.Wf a0) (w1 : True) (hb : D.bk (TJson.enc a0) + (a1.length + 1) ≤ 1048576) : ∃ k, f407 k a0 a1 = some true := by
  suffices h : ∀ K, 4000000 ≤ K → f407 K a0 a1 = some true from ⟨4000000, h _ (Nat.le_refl _)⟩
  intro K hK
  have hj : jbk a0 ≤ 1048576 := by unfold jbk; omega
  have ha : f395 K = some true := by
    obtain ⟨j, rfl⟩ : ∃ j, K = j + 40 := ⟨K - 40, by omega⟩
    exact awake_jb j
  unfold f407
  obtain ⟨b, a2, s1, s2⟩ := small_def a0 w0 K 2000 (by omega) hj (by omega) (by omega)
  have e1 : f408 K a0 2000 = some b := by
    unfold f408
    show Option.bind (f409 K a0 2000) _ = _
    rw [s1]
    rfl
  show Option.bind (f408 K a0 2000) _ = _
  rw [e1, ha, Option.bind_some]
  cases b with
  | false => rfl
  | true =>
    obtain ⟨_, _, sm⟩ := s2 rfl
    rw [Bool.not_true, cond_false]
    by_cases hl : ((a1.length : Nat) : Int) > 30000
    · rw [cdp hl]
      rfl
    · rw [cdn hl]
      obtain ⟨rb, r1, r2, r3⟩ := right_both a0 w0 sm K (by omega) hj
      show Option.bind (f421 K a0) (fun r30 => Option.bind (some true) fun r36 => cond (!r36) (some false) (Option.bind (f347 K a0) fun r42 => cond ((decide (r30 = ([] : List UInt8))) == r42) (some false) (cond (decide (r30 ≠ ([] : List UInt8))) (f407_j63 K r30 a0 a1 (decide (((r30.length : Nat) : Int) ≤ (20000 : Int)))) (f407_j63 K r30 a0 a1 false)))) = _
      cases rb with
      | false =>
        have p1 : f421 K a0 = some [] := by
          unfold f421
          show Option.bind (f422 K a0) _ = _
          rw [r1]
          rfl
        rw [p1, Option.bind_some, Option.bind_some, Bool.not_true, cond_false, r2, Option.bind_some]
        show f407_j63 K [] a0 a1 false = _
        unfold f407_j63
        rw [cond_false]
        exact back_at a1 K hK
      | true =>
        obtain ⟨t, p1, p2, p3, p4, p5, p6⟩ := printed_at a0 (r3.1 rfl) sm K hK hj
        rw [p1, Option.bind_some, Option.bind_some, Bool.not_true, cond_false, r2, Option.bind_some, decide_eq_false p5]
        rw [show (false == true) = false from rfl, cond_false, cdp p5]
        unfold f407_j63
        by_cases hs : ((t.length : Nat) : Int) ≤ 20000
        · rw [decide_eq_true hs, cond_true, p6 (by omega), Option.bind_some]
          dsimp only
          rw [cdn (by decide)]
          show Option.bind (f437 K a0 a0) _ = _
          rw [same_v a0 sm K (by omega) (by omega), Option.bind_some, Bool.not_true, cond_false]
          exact back_at a1 K hK
        · rw [decide_eq_false hs, cond_false]
          exact back_at a1 K hK
end Go.Proofs.Abs
