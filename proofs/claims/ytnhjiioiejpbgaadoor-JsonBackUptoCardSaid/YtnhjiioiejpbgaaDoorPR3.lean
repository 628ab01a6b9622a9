/- What a right value is. -/
import Derived.Test.YtnhjiioiejpbgaaDoorPR2
set_option linter.unusedSimpArgs false
namespace Go.Proofs.Abs
open Go
set_option linter.unusedVariables false
set_option maxRecDepth 100000
/-- a right value, so high at most -/
inductive JR : Nat → TJson → Prop
  | lit (h : Nat) (k : Int) (hk : k = 1 ∨ k = 2 ∨ k = 3) : JR h ⟨k, [], [], []⟩
  | num (h : Nat) (t : List UInt8) (ht : NumT t) : JR h ⟨4, t, [], []⟩
  | str (h : Nat) (t : List UInt8) (ht : Lib.validD t = true) : JR h ⟨5, t, [], []⟩
  | arr (h : Nat) (us : List TJson) (hu : ∀ u ∈ us, JR h u) : JR (h + 1) ⟨6, [], us.map (RT.of TJson.ok), []⟩
  | obj (h : Nat) (us : List TJson) (ks : List (List UInt8)) (hl : ks.length = us.length) (hn : ks.Nodup) (hv : ∀ k ∈ ks, Lib.validD k = true) (hu : ∀ u ∈ us, JR h u) : JR (h + 1) ⟨7, [], us.map (RT.of TJson.ok), ks⟩
theorem len0 {α : Type} {l : List α} (h : ((l.length : Nat) : Int) = 0) : l = [] := List.length_eq_zero_iff.1 (by omega)
theorem eta {v : TJson} {k : Int} {t : List UInt8} {l : List (RT 4)} {ks : List (List UInt8)} (h1 : v.fKind = k) (h2 : v.fText = t) (h3 : v.fL = l) (h4 : v.fKeys = ks) : v = ⟨k, t, l, ks⟩ := by
  cases v
  simp only at h1 h2 h3 h4
  subst h1 h2 h3 h4
  rfl
/-- the end of a leaf's test -/
theorem leaf_end (v : TJson) (P : Prop) (h : v.fL = [] → v.fKeys = [] → P) : ∃ b, cond (decide (((v.fL.length : Nat) : Int) = (0 : Int))) (some (decide (((v.fKeys.length : Nat) : Int) = (0 : Int)))) (some false) = some b ∧ (b = true → P) := by
  by_cases h1 : ((v.fL.length : Nat) : Int) = 0
  · rw [cdp h1]
    exact ⟨_, rfl, fun hq => h (len0 h1) (len0 (of_decide_eq_true hq))⟩
  · rw [cdn h1]
    exact ⟨false, rfl, fun h => by cases h⟩
theorem rt_inj : ∀ a b : List TJson, a.map (RT.of TJson.ok) = b.map (RT.of TJson.ok) → a = b
  | [], [], _ => rfl
  | [], _ :: _, h => by cases h
  | _ :: _, [], h => by cases h
  | x :: a, y :: b, h => by
    rw [List.map_cons, List.map_cons] at h
    obtain ⟨h1, h2⟩ := List.cons.inj h
    have := congrArg (fun x => TJson.dec (rtE x)) h1
    simp only [TJson.dec_of, Option.some.injEq] at this
    rw [this, rt_inj a b h2]
theorem right_def (v : TJson) (hw : TJson.Wf v) (hsm : Sm v) : ∀ (K h : Nat), 2 * jbk v + 200000 ≤ K → jbk v ≤ 1048576 → h ≤ 64 → ∃ b, f348 K v (64 - (h : Int)) = some b ∧ (b = true → JR h v) := by
  induction hw with
  | mk v us hk hfl hw ih =>
    intro K h hK hv hh
    cases hsm with
    | mk _ us2 hfl2 ht hk300 hsm2 =>
    have hb := jbk_eq v us hfl
    obtain ⟨s1, s2⟩ := sum_ge us
    obtain ⟨k1, k2⟩ := keys_ge v.fKeys
    have hl : v.fL.length = us.length := by rw [hfl, List.length_map]
    obtain ⟨K, rfl⟩ : ∃ j, K = j + 1 := ⟨K - 1, by omega⟩
    have lits : ∀ k : Int, (k = 1 ∨ k = 2 ∨ k = 3) → v.fKind = k → ∃ b, f348_j32 K v (64 - (h : Int)) (f348 K) true = some b ∧ (b = true → JR h v) := by
      intro k hk3 hvk
      unfold f348_j32
      rw [cond_true]
      by_cases h1 : v.fText = []
      · rw [cdp h1]
        exact leaf_end v _ fun a b => by rw [eta hvk h1 a b]; exact .lit h k hk3
      · rw [cdn h1]
        exact ⟨false, rfl, fun h => by cases h⟩
    rw [f348]
    unfold f348_s
    by_cases c1 : v.fKind = 1
    · rw [cdp c1, decide_eq_true c1]
      exact lits 1 (.inl rfl) c1
    rw [cdn c1]
    by_cases c2 : v.fKind = 2
    · rw [cdp c2, decide_eq_true c2]
      exact lits 2 (.inr (.inl rfl)) c2
    rw [cdn c2]
    by_cases c3 : v.fKind = 3
    · rw [decide_eq_true c3]
      exact lits 3 (.inr (.inr rfl)) c3
    rw [decide_eq_false c3]
    unfold f348_j32
    rw [cond_false]
    by_cases c4 : v.fKind = 4
    · rw [cdp c4]
      obtain ⟨b, g1, g2⟩ := numeral_def K v.fText (by omega) (by omega)
      rw [g1, Option.bind_some]
      cases b with
      | false => exact ⟨false, rfl, fun h => by cases h⟩
      | true => exact leaf_end v _ fun a b => by rw [eta c4 rfl a b]; exact .num h v.fText (g2 rfl)
    rw [cdn c4]
    by_cases c5 : v.fKind = 5
    · have g1 : f351 K v.fText = some (Lib.validD v.fText) := by unfold f351; rw [gdp (by omega)]
      rw [cdp c5, g1, Option.bind_some]
      cases hvd : Lib.validD v.fText with
      | false => exact ⟨false, rfl, fun h => by cases h⟩
      | true => exact leaf_end v _ fun a b => by rw [eta c5 rfl a b]; exact .str h v.fText hvd
    rw [cdn c5]
    -- the parts
    have loop : ∀ (q : Bool) (h' : Nat), h' ≤ 63 → v.fKind = cond q 7 6 → (q = true → v.fKeys.length = us.length) → ∀ (rest pre : List TJson) (J : Nat), us = pre ++ rest → rest.length + us.length + 30010 ≤ J →
        ((q = true → (v.fKeys.take pre.length).Nodup ∧ ∀ k ∈ v.fKeys.take pre.length, Lib.validD k = true) ∧ ∀ u ∈ pre, JR h' u) →
        ∃ z, f348_l166 v (f348 K) (64 - ((h' + 1 : Nat) : Int)) J ((pre.length : Nat) : Int) = some z ∧ ((z = .b0 () ∧ (q = true → v.fKeys.Nodup ∧ ∀ k ∈ v.fKeys, Lib.validD k = true) ∧ ∀ u ∈ us, JR h' u) ∨ z = .r false) := by
      intro q h' hh' hvk hkl rest
      induction rest with
      | nil =>
        intro pre J e hJ hp
        obtain ⟨J, rfl⟩ : ∃ j, J = j + 1 := ⟨J - 1, by omega⟩
        have hpe : us = pre := by rw [e]; simp
        refine ⟨.b0 (), ?_, .inl ⟨rfl, fun hq => ?_, by rw [hpe]; exact hp.2⟩⟩
        · rw [f348_l166, hl, cdn (by rw [hpe]; omega)]
        · have := hp.1 hq
          rw [List.take_of_length_le (by rw [hkl hq, hpe]; exact Nat.le_refl _)] at this
          exact this
      | cons u t iht =>
        intro pre J e hJ hp
        rw [List.length_cons] at hJ
        obtain ⟨J, rfl⟩ : ∃ j, J = j + 1 := ⟨J - 1, by omega⟩
        have hlen : us.length = pre.length + (t.length + 1) := by rw [e]; simp
        have hu : u ∈ us := by rw [e]; simp
        have hs := s2 u hu
        have hsmu : Sm u := by
          have : us2 = us := rt_inj us2 us (hfl2.symm.trans hfl)
          rw [this] at hsm2
          exact hsm2 u hu
        obtain ⟨b, g1, g2⟩ := ih u hu hsmu K h' (by omega) (by omega) (by omega)
        have hD : IntKind.i64.wrap ((64 - ((h' + 1 : Nat) : Int)) + 1) = 64 - (h' : Int) := by rw [i64w (by omega)]; omega
        have hdec := part_at v pre t u (by rw [hfl, e])
        -- behind the key
        have tail : (q = true → (v.fKeys.take (pre.length + 1)).Nodup ∧ ∀ k ∈ v.fKeys.take (pre.length + 1), Lib.validD k = true) →
            ∃ z, gd (0 ≤ ((pre.length : Nat) : Int) ∧ ((pre.length : Nat) : Int) < ((v.fL.length : Nat) : Int)) ((TJson.dec (rtE (rd v.fL ((pre.length : Nat) : Int)))).bind fun rx213 => (f348 K rx213 (IntKind.i64.wrap ((64 - ((h' + 1 : Nat) : Int)) + (1 : Int)))).bind fun r217 => cond (!r217) (some (.r false)) (f348_l166 v (f348 K) (64 - ((h' + 1 : Nat) : Int)) J (IntKind.i64.wrap (((pre.length : Nat) : Int) + (1 : Int))))) = some z ∧ ((z = .b0 () ∧ (q = true → v.fKeys.Nodup ∧ ∀ k ∈ v.fKeys, Lib.validD k = true) ∧ ∀ u ∈ us, JR h' u) ∨ z = .r false) := by
          intro hkk
          rw [gdp (by omega), hdec, Option.bind_some, hD, g1, Option.bind_some]
          cases b with
          | false => exact ⟨_, rfl, .inr rfl⟩
          | true =>
            rw [i64w (n := ((pre.length : Nat) : Int) + 1) (by omega)]
            have := iht (pre ++ [u]) J (by rw [e]; simp) (by omega) ⟨fun hq => by rw [List.length_append]; exact hkk hq, fun w hw => by
              rcases List.mem_append.1 hw with hw | hw
              · exact hp.2 w hw
              · rw [List.mem_singleton.1 hw]; exact g2 rfl⟩
            rw [List.length_append] at this
            exact this
        rw [f348_l166, cdp (by omega)]
        cases q with
        | false =>
          rw [cdn (by rw [hvk]; decide)]
          exact tail (fun hq => by cases hq)
        | true =>
          have hkl := hkl rfl
          have hi : pre.length < v.fKeys.length := by omega
          have hrd : rd v.fKeys ((pre.length : Nat) : Int) = v.fKeys[pre.length] := by
            unfold rd
            rw [Int.toNat_natCast, List.getD_eq_getElem?_getD, List.getElem?_eq_getElem hi]
            rfl
          have hmem : v.fKeys[pre.length] ∈ v.fKeys := List.getElem_mem hi
          have hkb := k2 _ hmem
          have g3 : f351 J v.fKeys[pre.length] = some (Lib.validD v.fKeys[pre.length]) := by unfold f351; rw [gdp (by omega)]
          rw [cdp (by rw [hvk]; rfl), gdp (by omega), hrd, g3, Option.bind_some]
          cases hvd : Lib.validD v.fKeys[pre.length] with
          | false => exact ⟨_, rfl, .inr rfl⟩
          | true =>
            have hsl : Abs.sl v.fKeys (0 : Int) ((pre.length : Nat) : Int) = v.fKeys.take pre.length := by
              unfold Abs.sl
              rw [Int.toNat_natCast]
              rfl
            have hA := has_atL J (v.fKeys.take pre.length) v.fKeys[pre.length] (by rw [List.length_take]; omega) (by rw [List.length_take]; omega)
            rw [Bool.not_true, cond_false]
            rw [gdp (by omega), gdp (by omega), hsl, hA, Option.bind_some]
            obtain ⟨nd, va⟩ := hp.1 rfl
            by_cases hin : v.fKeys[pre.length] ∈ v.fKeys.take pre.length
            · rw [decide_eq_true hin]
              exact ⟨_, rfl, .inr rfl⟩
            · rw [decide_eq_false hin]
              refine tail fun _ => ?_
              have et : v.fKeys.take (pre.length + 1) = v.fKeys.take pre.length ++ [v.fKeys[pre.length]] := by
                rw [List.take_add_one, List.getElem?_eq_getElem hi]
                rfl
              rw [et]
              refine ⟨List.nodup_append.2 ⟨nd, by simp, fun a ha b hb' hab => ?_⟩, fun k hk' => ?_⟩
              · rw [List.mem_singleton.1 hb'] at hab
                rw [hab] at ha
                exact hin ha
              · rcases List.mem_append.1 hk' with hk' | hk'
                · exact va k hk'
                · rw [List.mem_singleton.1 hk']; exact hvd
    have many : ∀ q : Bool, v.fKind = cond q 7 6 → ∃ b, f348_j117 K v (64 - (h : Int)) (f348 K) true = some b ∧ (b = true → JR h v) := by
      intro q hvk
      unfold f348_j117
      rw [cond_true]
      by_cases ht0 : v.fText = []
      · rw [cdn (fun hq => hq ht0)]
        have deep : (q = true → v.fKeys.length = us.length) → (q = false → v.fKeys = []) → ∃ b, cond (decide ((64 - (h : Int)) ≥ (64 : Int))) (some false) (f348_j161 K v (f348 K) (64 - (h : Int))) = some b ∧ (b = true → JR h v) := by
          intro hkl hk0
          by_cases h64 : (64 - (h : Int)) ≥ 64
          · rw [cdp h64]
            exact ⟨false, rfl, fun h => by cases h⟩
          · rw [cdn h64]
            obtain ⟨h', rfl⟩ : ∃ h', h = h' + 1 := ⟨h - 1, by omega⟩
            obtain ⟨z, g1, g2⟩ := loop q h' (by omega) hvk hkl us [] K rfl (by omega) ⟨fun _ => ⟨by simp, by simp⟩, by simp⟩
            have g1 : f348_l166 v (f348 K) (64 - ((h' + 1 : Nat) : Int)) K 0 = some z := g1
            unfold f348_j161
            rw [g1, Option.bind_some]
            rcases g2 with ⟨rfl, g3, g4⟩ | rfl
            · refine ⟨true, rfl, fun _ => ?_⟩
              cases q with
              | true => rw [eta hvk ht0 hfl rfl]; exact .obj h' us v.fKeys (hkl rfl) (g3 rfl).1 (g3 rfl).2 g4
              | false => rw [eta hvk ht0 hfl (hk0 rfl)]; exact .arr h' us g4
            · exact ⟨false, rfl, fun h => by cases h⟩
        cases q with
        | false =>
          have hv6 : v.fKind = 6 := hvk
          rw [cdp hv6]
          by_cases h0 : ((v.fKeys.length : Nat) : Int) > 0
          · rw [cdp h0]
            exact ⟨false, rfl, fun h => by cases h⟩
          · rw [cdn h0, cdn (by rw [hvk]; decide)]
            exact deep (fun h => by cases h) (fun _ => List.length_eq_zero_iff.1 (by omega))
        | true =>
          have hv7 : v.fKind = 7 := hvk
          rw [cdn (by omega), cdp hv7]
          by_cases h0 : ((v.fKeys.length : Nat) : Int) ≠ ((v.fL.length : Nat) : Int)
          · rw [cdp h0]
            exact ⟨false, rfl, fun h => by cases h⟩
          · rw [cdn h0]
            exact deep (fun _ => by omega) (fun h => by cases h)
      · rw [cdp ht0]
        exact ⟨false, rfl, fun h => by cases h⟩
    by_cases c6 : v.fKind = 6
    · rw [cdp c6, decide_eq_true c6]
      exact many false c6
    rw [cdn c6]
    by_cases c7 : v.fKind = 7
    · rw [decide_eq_true c7]
      exact many true c7
    · rw [decide_eq_false c7]
      exact ⟨false, rfl, fun h => by cases h⟩
end Go.Proofs.Abs
