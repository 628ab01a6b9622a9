/- Which values are right: both say the same. -/
import Derived.Test.YtnhjiioiejpbgaaDoorPR5
set_option linter.unusedSimpArgs false
namespace Go.Proofs.Abs
open Go
set_option linter.unusedVariables false
set_option maxRecDepth 100000
theorem jr_inv {h : Nat} {v : TJson} (hr : JR h v) : ((v.fKind = 1 ∨ v.fKind = 2 ∨ v.fKind = 3) ∧ v.fText = [] ∧ v.fL = [] ∧ v.fKeys = []) ∨ (v.fKind = 4 ∧ NumT v.fText ∧ v.fL = [] ∧ v.fKeys = []) ∨ (v.fKind = 5 ∧ Lib.validD v.fText = true ∧ v.fL = [] ∧ v.fKeys = []) ∨
    (v.fKind = 6 ∧ v.fText = [] ∧ v.fKeys = [] ∧ ∃ (h' : Nat) (us : List TJson), h = h' + 1 ∧ v.fL = us.map (RT.of TJson.ok) ∧ ∀ u ∈ us, JR h' u) ∨
    (v.fKind = 7 ∧ v.fText = [] ∧ (v.fKeys.Nodup ∧ ∀ k ∈ v.fKeys, Lib.validD k = true) ∧ ∃ (h' : Nat) (us : List TJson), h = h' + 1 ∧ v.fL = us.map (RT.of TJson.ok) ∧ v.fKeys.length = us.length ∧ ∀ u ∈ us, JR h' u) := by
  cases hr with
  | lit h k hk => exact .inl ⟨hk, rfl, rfl, rfl⟩
  | num h t ht => exact .inr (.inl ⟨rfl, ht, rfl, rfl⟩)
  | str h t ht => exact .inr (.inr (.inl ⟨rfl, ht, rfl, rfl⟩))
  | arr h us hu => exact .inr (.inr (.inr (.inl ⟨rfl, rfl, rfl, _, us, rfl, rfl, hu⟩)))
  | obj h us ks hl hn hv hu => exact .inr (.inr (.inr (.inr ⟨rfl, rfl, ⟨hn, hv⟩, _, us, rfl, rfl, hl, hu⟩)))
theorem right_prog (v : TJson) (hsm : Sm v) : ∀ (K h : Nat), 2 * jbk v + 200000 ≤ K → jbk v ≤ 1048576 → h ≤ 64 → ∃ b, f425 K v (64 - (h : Int)) = some b ∧ (b = true ↔ JR h v) := by
  induction hsm with
  | mk v us hfl ht hk hw ih =>
    intro K h hK hv hh
    obtain ⟨K, rfl⟩ : ∃ j, K = j + 1 := ⟨K - 1, by omega⟩
    have hb := jbk_eq v us hfl
    obtain ⟨s1, s2⟩ := sum_ge us
    obtain ⟨k1, k2⟩ := keys_ge v.fKeys
    have hl : v.fL.length = us.length := by rw [hfl, List.length_map]
    have hrc : ∀ h', h = h' + 1 → ∀ u ∈ us, ∃ b, f425 K u (64 - (h' : Int)) = some b ∧ (b = true ↔ JR h' u) := fun h' e u hu => by
      have := s2 u hu
      exact ih u hu K h' (by omega) (by omega) (by omega)
    obtain ⟨t, t1, t2⟩ := tail_def v us hfl (by omega) K (f425 K) h hh (by omega) hrc
    have lits : (v.fKind = 1 ∨ v.fKind = 2 ∨ v.fKind = 3) → ∃ b, f425_j33 K v (64 - (h : Int)) (f425 K) true = some b ∧ (b = true ↔ JR h v) := by
      intro hk3
      obtain ⟨b, b1, b2⟩ := plain_def K v false
      unfold f425_j33
      rw [cond_true]
      show ∃ b, Option.bind (f426 K v false) _ = some b ∧ _
      rw [b1]
      refine ⟨b, rfl, b2.trans ⟨fun ⟨a1, a2, a3⟩ => ?_, fun q => ?_⟩⟩
      · have a3 : v.fText = [] := by rcases a3 with a3 | a3; cases a3; exact a3
        rw [eta rfl a3 a1 a2]
        exact .lit h v.fKind hk3
      · rcases jr_inv q with ⟨_, a, b, c⟩ | ⟨a, _⟩ | ⟨a, _⟩ | ⟨a, _⟩ | ⟨a, _⟩
        · exact ⟨b, c, .inr a⟩
        all_goals omega
    rw [f425]
    unfold f425_s
    by_cases c1 : v.fKind = 1
    · rw [cdp c1, decide_eq_true c1]
      exact lits (.inl c1)
    rw [cdn c1]
    by_cases c2 : v.fKind = 2
    · rw [cdp c2, decide_eq_true c2]
      exact lits (.inr (.inl c2))
    rw [cdn c2]
    by_cases c3 : v.fKind = 3
    · rw [decide_eq_true c3]
      exact lits (.inr (.inr c3))
    rw [decide_eq_false c3]
    unfold f425_j33
    rw [cond_false]
    by_cases c4 : v.fKind = 4
    · rw [cdp c4]
      obtain ⟨b, b1, b2⟩ := plain_def K v true
      show ∃ b, Option.bind (f426 K v true) _ = some b ∧ _
      rw [b1, Option.bind_some]
      cases b with
      | false =>
        refine ⟨false, rfl, fun q => (by cases q), fun q => ?_⟩
        rcases jr_inv q with ⟨a, _⟩ | ⟨_, _, a, b⟩ | ⟨a, _⟩ | ⟨a, _⟩ | ⟨a, _⟩
        · omega
        · exact b2.2 ⟨a, b, .inl rfl⟩
        all_goals omega
      | true =>
        obtain ⟨a1, a2, _⟩ := b2.1 rfl
        obtain ⟨c, d1, d2⟩ := number_def K v.fText (by omega) (by omega)
        rw [cond_true, d1]
        refine ⟨c, rfl, fun q => ?_, fun q => ?_⟩
        · rw [eta c4 rfl a1 a2]
          exact .num h v.fText (d2 q)
        · rcases jr_inv q with ⟨a, _⟩ | ⟨_, a, _⟩ | ⟨a, _⟩ | ⟨a, _⟩ | ⟨a, _⟩
          · omega
          · have := number_ok K v.fText a (by omega) (by omega)
            rw [d1] at this
            cases this
            rfl
          all_goals omega
    rw [cdn c4]
    by_cases c5 : v.fKind = 5
    · have g1 : f351 K v.fText = some (Lib.validD v.fText) := by unfold f351; rw [gdp (by omega)]
      rw [cdp c5]
      obtain ⟨b, b1, b2⟩ := plain_def K v true
      show ∃ b, Option.bind (f426 K v true) _ = some b ∧ _
      rw [b1, Option.bind_some]
      cases b with
      | false =>
        refine ⟨false, rfl, fun q => (by cases q), fun q => ?_⟩
        rcases jr_inv q with ⟨a, _⟩ | ⟨a, _⟩ | ⟨_, _, a, b⟩ | ⟨a, _⟩ | ⟨a, _⟩
        · omega
        · omega
        · exact b2.2 ⟨a, b, .inl rfl⟩
        all_goals omega
      | true =>
        obtain ⟨a1, a2, _⟩ := b2.1 rfl
        rw [cond_true, g1]
        refine ⟨_, rfl, fun q => ?_, fun q => ?_⟩
        · rw [eta c5 rfl a1 a2]
          exact .str h v.fText q
        · rcases jr_inv q with ⟨a, _⟩ | ⟨a, _⟩ | ⟨_, a, _⟩ | ⟨a, _⟩ | ⟨a, _⟩
          · omega
          · omega
          · exact a
          all_goals omega
    rw [cdn c5]
    by_cases c6 : v.fKind = 6
    · rw [cdp c6]
      by_cases h0 : ((v.fKeys.length : Nat) : Int) > 0
      · rw [cdp h0]
        refine ⟨false, rfl, fun q => (by cases q), fun q => ?_⟩
        rcases jr_inv q with ⟨a, _⟩ | ⟨a, _⟩ | ⟨a, _⟩ | ⟨_, _, a, _⟩ | ⟨a, _⟩
        · omega
        · omega
        · omega
        · rw [a] at h0; simp at h0
        · omega
      · rw [cdn h0]
        have hk0 : v.fKeys = [] := List.length_eq_zero_iff.1 (by omega)
        refine ⟨t, t1, t2.trans ⟨fun ⟨q1, h', e, q2⟩ => ?_, fun q => ?_⟩⟩
        · subst e
          rw [eta c6 q1 hfl hk0]
          exact .arr h' us q2
        · rcases jr_inv q with ⟨a, _⟩ | ⟨a, _⟩ | ⟨a, _⟩ | ⟨_, a, _, h', us2, e, e2, a2⟩ | ⟨a, _⟩
          · omega
          · omega
          · omega
          · have := rt_inj us us2 (hfl.symm.trans e2)
            subst this
            exact ⟨a, h', e, a2⟩
          · omega
    rw [cdn c6]
    by_cases c7 : v.fKind = 7
    · rw [cdp c7]
      by_cases h0 : ((v.fKeys.length : Nat) : Int) ≠ ((v.fL.length : Nat) : Int)
      · rw [cdp h0]
        refine ⟨false, rfl, fun q => (by cases q), fun q => ?_⟩
        rcases jr_inv q with ⟨a, _⟩ | ⟨a, _⟩ | ⟨a, _⟩ | ⟨a, _⟩ | ⟨_, _, _, h', us2, e, e2, a3, _⟩
        · omega
        · omega
        · omega
        · omega
        · rw [a3, e2, List.length_map] at h0; exact absurd rfl h0
      · rw [cdn h0]
        obtain ⟨z, z1, z2⟩ := keys_def v.fKeys (by omega) (fun k hk => by have := k2 k hk; omega) v.fKeys [] [] K rfl (by omega) rfl ⟨List.nodup_nil, fun k hk => (List.not_mem_nil hk).elim⟩
        have z1 : f431_l7 v.fKeys false K 0 [] = some z := z1
        show ∃ b, Option.bind (some ()) (fun _ => Option.bind (f431 K false [] v.fKeys) _) = some b ∧ _
        rw [Option.bind_some]
        unfold f431
        rw [z1, Option.bind_some]
        rcases z2 with ⟨m', rfl, ha⟩ | ⟨m', rfl, ha⟩
        · show ∃ b, f425_j183 K v (64 - (h : Int)) (f425 K) = some b ∧ _
          refine ⟨t, t1, t2.trans ⟨fun ⟨q1, h', e, q2⟩ => ?_, fun q => ?_⟩⟩
          · subst e
            rw [eta c7 q1 hfl rfl]
            exact .obj h' us v.fKeys (by omega) ha.1 ha.2 q2
          · rcases jr_inv q with ⟨a, _⟩ | ⟨a, _⟩ | ⟨a, _⟩ | ⟨a, _⟩ | ⟨_, a, _, h', us2, e, e2, _, a2⟩
            · omega
            · omega
            · omega
            · omega
            · have := rt_inj us us2 (hfl.symm.trans e2)
              subst this
              exact ⟨a, h', e, a2⟩
        · refine ⟨false, rfl, fun q => (by cases q), fun q => ?_⟩
          rcases jr_inv q with ⟨a, _⟩ | ⟨a, _⟩ | ⟨a, _⟩ | ⟨a, _⟩ | ⟨_, _, a, _⟩
          · omega
          · omega
          · omega
          · omega
          · exact absurd a ha
    · rw [cdn c7]
      refine ⟨false, rfl, fun q => (by cases q), fun q => ?_⟩
      rcases jr_inv q with ⟨a, _⟩ | ⟨a, _⟩ | ⟨a, _⟩ | ⟨a, _⟩ | ⟨a, _⟩
      all_goals omega
/-- both say the same -/
theorem right_both (v : TJson) (hw : TJson.Wf v) (hs : Sm v) (K : Nat) (hK : 2 * jbk v + 200000 ≤ K) (hv : jbk v ≤ 1048576) : ∃ b, f422 K v = some b ∧ f347 K v = some b ∧ (b = true ↔ JR 64 v) := by
  obtain ⟨b, b1, b2⟩ := right_prog v hs K 64 hK hv (by omega)
  obtain ⟨c, c1, c2⟩ := right_def v hw hs K 64 hK hv (by omega)
  have e : c = b := by
    cases b with
    | true =>
      have := right_ok 64 v (b2.1 rfl) hs K hK hv (by omega)
      rw [c1] at this
      cases this
      rfl
    | false =>
      cases c with
      | false => rfl
      | true => exact (b2.2 (c2 rfl)).symm
  refine ⟨b, ?_, ?_, b2⟩
  · unfold f422
    show Option.bind (f425 K v (64 - ((64 : Nat) : Int))) _ = _
    rw [b1]
    rfl
  · unfold f347
    show Option.bind (f348 K v (64 - ((64 : Nat) : Int))) _ = _
    rw [c1, e]
    rfl
end Go.Proofs.Abs
