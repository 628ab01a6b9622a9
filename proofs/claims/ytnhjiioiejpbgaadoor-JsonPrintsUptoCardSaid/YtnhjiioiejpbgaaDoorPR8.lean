/- JsonPrints: which values are right, what they are printed as, and what a key has. -/
import Derived.Test.YtnhjiioiejpbgaaDoorPR7
set_option linter.unusedSimpArgs false
namespace Go.Proofs.Abs
open Go
set_option linter.unusedVariables false
set_option maxRecDepth 100000
theorem same_loop (a : List (List UInt8)) (hb : a.length ≤ 1000000) : ∀ (rest pre : List (List UInt8)) (K : Nat), a = pre ++ rest → rest.length + 1 ≤ K → f435_l26 a a K ((pre.length : Nat) : Int) = some (.b0 ()) := by
  intro rest
  induction rest with
  | nil =>
    intro pre K e hK
    obtain ⟨K, rfl⟩ : ∃ j, K = j + 1 := ⟨K - 1, by omega⟩
    rw [f435_l26, cdn (by rw [e]; simp)]
  | cons x t ih =>
    intro pre K e hK
    rw [List.length_cons] at hK
    obtain ⟨K, rfl⟩ : ∃ j, K = j + 1 := ⟨K - 1, by omega⟩
    have hl : a.length = pre.length + (t.length + 1) := by rw [e]; simp
    rw [f435_l26, cdp (by omega), gdp (by omega), gdp (by omega)]
    show Option.bind (some ()) _ = _
    rw [Option.bind_some, decide_eq_true rfl]
    show cond false _ _ = _
    rw [cond_false, i64w (by omega)]
    have := ih (pre ++ [x]) K (by rw [e]; simp) (by omega)
    simpa using this
theorem same_at (K : Nat) (a : List (List UInt8)) (hb : a.length ≤ 1000000) (hK : a.length + 1 ≤ K) : f434 K a a = some true := by
  unfold f434 f435
  rw [cdn (by simp)]
  have := same_loop a hb a [] K rfl hK
  show Option.bind (Option.bind (f435_l26 a a K (((([] : List (List UInt8)).length : Nat)) : Int)) _) _ = _
  rw [this]
  rfl
theorem same_parts (us : List TJson) (rc : TJson → TJson → Option Bool) (l : List (RT 4)) (hl : l = us.map (RT.of TJson.ok)) (hn : us.length ≤ 2000000) (hrc : ∀ u ∈ us, rc u u = some true) : ∀ (rest pre : List TJson) (K : Nat), us = pre ++ rest → rest.length + 1 ≤ K →
    f438_l26 l l rc K ((pre.length : Nat) : Int) = some (.b0 ()) := by
  have hll : l.length = us.length := by rw [hl, List.length_map]
  intro rest
  induction rest with
  | nil =>
    intro pre K e hK
    obtain ⟨K, rfl⟩ : ∃ j, K = j + 1 := ⟨K - 1, by omega⟩
    rw [f438_l26, cdn (by rw [hll, e]; simp)]
  | cons x t ih =>
    intro pre K e hK
    rw [List.length_cons] at hK
    obtain ⟨K, rfl⟩ : ∃ j, K = j + 1 := ⟨K - 1, by omega⟩
    have hlen : us.length = pre.length + (t.length + 1) := by rw [e]; simp
    have hp := part_at ⟨0, [], l, []⟩ pre t x (by show l = _; rw [hl, e])
    have hp : TJson.dec (rtE (rd l ((pre.length : Nat) : Int))) = some x := hp
    rw [f438_l26, cdp (by omega), gdp (by omega), hp, Option.bind_some, gdp (by omega), Option.bind_some, hrc x (by rw [e]; simp), Option.bind_some]
    show cond false _ _ = _
    rw [cond_false, i64w (by omega)]
    have := ih (pre ++ [x]) K (by rw [e]; simp) (by omega)
    rw [List.length_append] at this
    exact this
theorem same_v (v : TJson) (hs : Sm v) : ∀ K, jbk v + 3000 ≤ K → jbk v ≤ 2000000 → f437 K v v = some true := by
  induction hs with
  | mk v us h ht hk hw ih =>
    intro K hK hv
    obtain ⟨K, rfl⟩ : ∃ j, K = j + 1 := ⟨K - 1, by omega⟩
    have hb := jbk_eq v us h
    obtain ⟨s1, s2⟩ := sum_ge us
    rw [f437]
    unfold f437_s
    rw [cdp rfl, cdp rfl]
    have e1 : f438 (f437 K) K v.fL v.fL = some true := by
      unfold f438
      rw [cdn (by simp)]
      have := same_parts us (f437 K) v.fL h (by omega) (fun u hu => by have := s2 u hu; exact ih u hu K (by omega) (by omega)) us [] K rfl (by omega)
      show Option.bind (f438_l26 v.fL v.fL (f437 K) K (((([] : List TJson).length : Nat)) : Int)) _ = _
      rw [this]
      rfl
    rw [e1, Option.bind_some, cond_true, same_at K v.fKeys (by omega) (by omega)]
    rfl
theorem own_v (v : TJson) (hw : TJson.Wf v) : ∀ K, jbk v + 10 ≤ K → jbk v ≤ 1048576 → f441 K v = some (v.fL, v.fKeys) := by
  induction hw with
  | mk v us hk hfl hw ih =>
    intro K hK hv
    obtain ⟨K, rfl⟩ : ∃ j, K = j + 1 := ⟨K - 1, by omega⟩
    have hb := jbk_eq v us hfl
    obtain ⟨s1, s2⟩ := sum_ge us
    obtain ⟨k1, k2⟩ := keys_ge v.fKeys
    have hl : v.fL.length = us.length := by rw [hfl, List.length_map]
    have loop : ∀ (rest pre : List TJson) (J : Nat), us = pre ++ rest → rest.length + 1 ≤ J → f441_l26 v (f441 K) J (pre.map (RT.of TJson.ok)) ((pre.length : Nat) : Int) = some (.b0 (us.map (RT.of TJson.ok))) := by
      intro rest
      induction rest with
      | nil =>
        intro pre J e hJ
        obtain ⟨J, rfl⟩ : ∃ j, J = j + 1 := ⟨J - 1, by omega⟩
        have e' : us = pre := by rw [e]; simp
        rw [f441_l26, cdn (by rw [hl, e']; omega), e']
      | cons u t iht =>
        intro pre J e hJ
        rw [List.length_cons] at hJ
        obtain ⟨J, rfl⟩ : ∃ j, J = j + 1 := ⟨J - 1, by omega⟩
        have hlen : us.length = pre.length + (t.length + 1) := by rw [e]; simp
        have hu : u ∈ us := by rw [e]; simp
        have hs := s2 u hu
        have hi := ih u hu K (by omega) (by omega)
        rw [f441_l26, cdp (by omega), gdp (by omega), part_at v pre t u (by rw [hfl, e]), Option.bind_some]
        show Option.bind (f441 K u) _ = _
        rw [hi, Option.bind_some, gdp (by simp; omega), i64w (by omega)]
        have := iht (pre ++ [u]) J (by rw [e]; simp) (by omega)
        rw [List.length_append, List.map_append] at this
        exact this
    have lp := loop us [] K rfl (by omega)
    have lp : f441_l26 v (f441 K) K [] 0 = some (.b0 (us.map (RT.of TJson.ok))) := lp
    have h42 : f442 K v.fKeys = some v.fKeys := by unfold f442; rw [gdp (by omega)]
    rw [f441]
    unfold f441_s
    rw [h42, Option.bind_some, lp, hfl]
    rfl
theorem skip_346 (v : TJson) (key : List UInt8) (hk : v.fKind = 7) : ∀ (r i J : Nat), i + r ≤ v.fKeys.length → i + r ≤ v.fL.length → (∀ j : Nat, j < i + r → rd v.fKeys (j : Int) ≠ key) → i + r ≤ 2000000 → f346_l12 v key (J + r) ((i : Nat) : Int) = f346_l12 v key J ((i + r : Nat) : Int)
  | 0, i, J, _, _, _, _ => rfl
  | r + 1, i, J, h1, h2, h3, h4 => by
    rw [show J + (r + 1) = (J + r) + 1 by omega, f346_l12, cdp hk, cdp (by omega), cdp (by omega), gdp (by omega), cdn (h3 i (by omega)), i64w (by omega)]
    have := skip_346 v key hk r (i + 1) J (by omega) (by omega) (fun j hj => h3 j (by omega)) (by omega)
    rw [show i + (r + 1) = i + 1 + r by omega]
    exact this
theorem rd_in (ks : List (List UInt8)) (j : Nat) (h : j < ks.length) : rd ks (j : Int) = ks[j] := by
  unfold rd
  rw [Int.toNat_natCast, List.getD_eq_getElem?_getD, List.getElem?_eq_getElem h]
  rfl
/-- what a key has, both say the same: nothing, or a part -/
theorem get_both (v : TJson) (hw : TJson.Wf v) (hs : Sm v) (key : List UInt8) (K : Nat) (hK : 2 * jbk v + 3000 ≤ K) (hv : jbk v ≤ 1048576) :
    ∃ (b : Bool) (u : TJson), f440 K v key = some (b, u.fKind, u.fText, u.fL, u.fKeys) ∧ f346 K v key = some (b, u.fKind, u.fText, u.fL, u.fKeys) ∧ Sm u ∧ jbk u ≤ jbk v + 5 := by
  cases hw with
  | mk _ us hkk hfl hww =>
  cases hs with
  | mk _ us2 hfl2 ht hk2 hsm =>
  have eu : us2 = us := rt_inj us2 us (hfl2.symm.trans hfl)
  rw [eu] at hsm
  have hb := jbk_eq v us hfl
  obtain ⟨s1, s2⟩ := sum_ge us
  obtain ⟨k1, k2⟩ := keys_ge v.fKeys
  have hl : v.fL.length = us.length := by rw [hfl, List.length_map]
  have hz : Sm ⟨0, [], [], []⟩ := .mk _ [] rfl (by simp) (by simp) (fun u hu => (List.not_mem_nil hu).elim)
  have hzb : jbk ⟨0, [], [], []⟩ ≤ jbk v + 5 := by
    have := jbk_eq ⟨0, [], [], []⟩ [] rfl
    have : jbk ⟨0, [], [], []⟩ = 5 := this
    omega
  have h240 : ∃ i : Int, f240 K v.fKeys key = some i ∧ ((key ∉ v.fKeys ∧ i = -1) ∨ ∃ a b, v.fKeys = a ++ key :: b ∧ key ∉ a ∧ i = (a.length : Int)) := by
    by_cases hin : key ∈ v.fKeys
    · obtain ⟨a, b, e, hna⟩ := first_mem key v.fKeys hin
      have hla : v.fKeys.length = a.length + (b.length + 1) := by rw [e]; simp
      have := index_at K a b key (by rw [← e]; omega) (by omega) hna
      rw [← e] at this
      exact ⟨_, this, .inr ⟨a, b, e, hna, rfl⟩⟩
    · have := idx_no key (ks := v.fKeys) (by omega) v.fKeys [] K rfl (by omega) hin
      have this : f240_l12 v.fKeys key K 0 = some (.b0 ()) := this
      refine ⟨-1, ?_, .inl ⟨hin, rfl⟩⟩
      unfold f240
      rw [this]
      rfl
  obtain ⟨i, i1, i2⟩ := h240
  unfold f440
  rw [i1, Option.bind_some]
  by_cases hk : v.fKind = 7
  · rw [cdn (fun q => q hk)]
    rcases i2 with ⟨hin, rfl⟩ | ⟨a, b, e, hna, rfl⟩
    · rw [cdp (by decide)]
      refine ⟨false, ⟨0, [], [], []⟩, rfl, ?_, hz, hzb⟩
      have hm : ∃ m, m = min v.fKeys.length v.fL.length := ⟨_, rfl⟩
      obtain ⟨m, hm⟩ := hm
      have h1 : m ≤ v.fKeys.length := by rw [hm]; exact Nat.min_le_left _ _
      have h2 : m ≤ v.fL.length := by rw [hm]; exact Nat.min_le_right _ _
      have h3 : m = v.fKeys.length ∨ m = v.fL.length := by rw [hm]; omega
      have sk := skip_346 v key hk m 0 (K - m) (by omega) (by omega) (fun j hj q => hin (by rw [← q, rd_in v.fKeys j (by omega)]; exact List.getElem_mem _)) (by omega)
      rw [show K - m + m = K by omega, Nat.zero_add] at sk
      have sk : f346_l12 v key K 0 = f346_l12 v key (K - m) ((m : Nat) : Int) := sk
      obtain ⟨J, hJ⟩ : ∃ J, K - m = J + 1 := ⟨K - m - 1, by omega⟩
      have he : f346_l12 v key (J + 1) ((m : Nat) : Int) = some (.b0 ()) := by
        rw [f346_l12, cdp hk]
        rcases h3 with h3 | h3
        · rw [cdn (by omega)]
        · by_cases h4 : ((m : Nat) : Int) < ((v.fKeys.length : Nat) : Int)
          · rw [cdp h4, cdn (by omega)]
          · rw [cdn h4]
      unfold f346
      rw [sk, hJ, he]
      rfl
    · have hla : v.fKeys.length = a.length + (b.length + 1) := by rw [e]; simp
      have hne : ∀ j : Nat, j < a.length → rd v.fKeys (j : Int) ≠ key := fun j hj q => by
        rw [rd_in v.fKeys j (by omega)] at q
        have : v.fKeys[j]'(by omega) = a[j] := by
          simp only [e]
          rw [List.getElem_append_left hj]
        rw [this] at q
        exact hna (by rw [← q]; exact List.getElem_mem _)
      rw [cdn (by omega)]
      by_cases hi : ((a.length : Nat) : Int) ≥ ((v.fL.length : Nat) : Int)
      · rw [decide_eq_true hi]
        refine ⟨false, ⟨0, [], [], []⟩, rfl, ?_, hz, hzb⟩
        have sk := skip_346 v key hk v.fL.length 0 (K - v.fL.length) (by omega) (by omega) (fun j hj => hne j (by omega)) (by omega)
        rw [show K - v.fL.length + v.fL.length = K by omega, Nat.zero_add] at sk
        have sk : f346_l12 v key K 0 = f346_l12 v key (K - v.fL.length) ((v.fL.length : Nat) : Int) := sk
        obtain ⟨J, hJ⟩ : ∃ J, K - v.fL.length = J + 1 := ⟨K - v.fL.length - 1, by omega⟩
        have he : f346_l12 v key (J + 1) ((v.fL.length : Nat) : Int) = some (.b0 ()) := by
          rw [f346_l12, cdp hk, cdp (by omega), cdn (by omega)]
        unfold f346
        rw [sk, hJ, he]
        rfl
      · rw [decide_eq_false hi]
        unfold f440_j33
        rw [cond_false, gdp (by omega)]
        obtain ⟨pre, u, post, eus, hpl⟩ : ∃ pre u post, us = pre ++ u :: post ∧ pre.length = a.length := by
          have hlt : a.length < us.length := by omega
          exact ⟨us.take a.length, us[a.length], us.drop (a.length + 1), by rw [← List.drop_eq_getElem_cons hlt, List.take_append_drop], by rw [List.length_take]; omega⟩
        have hu : u ∈ us := by rw [eus]; simp
        have hsu := s2 u hu
        have hpa := part_at v pre post u (by rw [hfl, eus])
        rw [hpl] at hpa
        rw [hpa, Option.bind_some]
        have ho := own_v u (hww u hu) K (by omega) (by omega)
        rw [ho, Option.bind_some]
        refine ⟨true, u, rfl, ?_, hsm u hu, by omega⟩
        have sk := skip_346 v key hk a.length 0 (K - a.length) (by omega) (by omega) (fun j hj => hne j (by omega)) (by omega)
        rw [show K - a.length + a.length = K by omega, Nat.zero_add] at sk
        have sk : f346_l12 v key K 0 = f346_l12 v key (K - a.length) ((a.length : Nat) : Int) := sk
        obtain ⟨J, hJ⟩ : ∃ J, K - a.length = J + 1 := ⟨K - a.length - 1, by omega⟩
        have hra : rd v.fKeys ((a.length : Nat) : Int) = key := by rw [e]; exact rd_mid
        have he : f346_l12 v key (J + 1) ((a.length : Nat) : Int) = some (.r (true, u.fKind, u.fText, u.fL, u.fKeys)) := by
          rw [f346_l12, cdp hk, cdp (by omega), cdp (by omega), gdp (by omega), hra, cdp rfl, gdp (by omega), hpa]
          rfl
        unfold f346
        rw [sk, hJ, he]
        rfl
  · rw [cdp hk]
    refine ⟨false, ⟨0, [], [], []⟩, rfl, ?_, hz, hzb⟩
    obtain ⟨J, rfl⟩ : ∃ J, K = J + 1 := ⟨K - 1, by omega⟩
    unfold f346
    rw [f346_l12, cdn hk]
    rfl
theorem awake_jr (k : Nat) : f395 (k + 40) = some true := by kernel_rfl
theorem law_JsonPrints (a0 : TJson) (a1 : List UInt8) (w0 : TJson.Wf a0) (w1 : True) (hb : D.bk (TJson.enc a0) + (a1.length + 1) ≤ 1048576) : ∃ k, f413 k a0 a1 = some true := by
  suffices h : ∀ K, 4000000 ≤ K → f413 K a0 a1 = some true from ⟨4000000, h _ (Nat.le_refl _)⟩
  intro K hK
  have hj : jbk a0 ≤ 1048576 := by unfold jbk; omega
  have ha : f395 K = some true := by
    obtain ⟨j, rfl⟩ : ∃ j, K = j + 40 := ⟨K - 40, by omega⟩
    exact awake_jr j
  unfold f413
  obtain ⟨b, a2, s1, s2⟩ := small_def a0 w0 K 2000 (by omega) hj (by omega) (by omega)
  have e1 : f408 K a0 2000 = some b := by
    unfold f408
    show Option.bind (f409 K a0 2000) _ = _
    rw [s1]
    rfl
  show Option.bind (f408 K a0 2000) _ = _
  rw [e1, ha, Option.bind_some]
  cases b with
  | false => rfl
  | true =>
    obtain ⟨_, _, sm⟩ := s2 rfl
    obtain ⟨gb, u, g1, g2, g3, g4⟩ := get_both a0 w0 sm a1 K (by omega) hj
    obtain ⟨rb, r1, r2, r3⟩ := right_both a0 w0 sm K (by omega) hj
    have hp : ∃ t, f421 K a0 = some t ∧ f354 K a0 = some t := by
      cases rb with
      | false =>
        refine ⟨[], ?_, ?_⟩
        · unfold f421
          show Option.bind (f422 K a0) _ = _
          rw [r1]
          rfl
        · unfold f354
          show Option.bind (f347 K a0) _ = _
          rw [r2]
          rfl
      | true =>
        obtain ⟨t, t1, _, _, t4⟩ := print_both 64 a0 (r3.1 rfl) sm K (by omega) hj
        have t4 := t4 [] (by simp; omega)
        rw [List.nil_append] at t4
        refine ⟨t, ?_, ?_⟩
        · unfold f421
          show Option.bind (f422 K a0) _ = _
          rw [r1, Option.bind_some]
          show cond false _ (Option.bind (f423 K [] a0) _) = _
          rw [cond_false, t4]
          rfl
        · unfold f354
          show Option.bind (f347 K a0) _ = _
          rw [r2, Option.bind_some]
          show cond false _ (Option.bind (f355 K a0) _) = _
          rw [cond_false, t1]
          rfl
    obtain ⟨t, p1, p2⟩ := hp
    show cond false _ (Option.bind (f440 K a0 a1) fun r26 => Option.bind (f346 K a0 a1) fun r38 => Option.bind (some true) fun r48 => cond r48 (Option.bind (f422 K a0) fun r51 => Option.bind (f347 K a0) fun r53 => cond (r51 == r53) (Option.bind (f421 K a0) fun r58 => Option.bind (f354 K a0) fun r60 => cond (decide (r58 = r60)) (Option.bind (f437 K (TJson.mk r26.2.1 r26.2.2.1 r26.2.2.2.1 r26.2.2.2.2) (TJson.mk r38.2.1 r38.2.2.1 r38.2.2.2.1 r38.2.2.2.2)) fun r66 => cond r66 (some (r26.1 == r38.1)) (some false)) (some false)) (some false)) (some false)) = _
    rw [cond_false, g1, Option.bind_some, g2, Option.bind_some, Option.bind_some, cond_true, r1, Option.bind_some, r2, Option.bind_some, beq_self_eq_true, cond_true, p1, Option.bind_some, p2, Option.bind_some, cdp rfl]
    show Option.bind (f437 K u u) _ = _
    rw [same_v u g3 K (by omega) (by omega), Option.bind_some, cond_true]
    simp
end Go.Proofs.Abs
