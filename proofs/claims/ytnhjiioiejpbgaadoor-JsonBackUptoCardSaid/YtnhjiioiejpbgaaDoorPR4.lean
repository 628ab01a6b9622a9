/- Which values are right: the reference's answer, where they are. -/
import Derived.Test.YtnhjiioiejpbgaaDoorPR3
set_option linter.unusedSimpArgs false
namespace Go.Proofs.Abs
open Go
set_option linter.unusedVariables false
set_option maxRecDepth 100000
theorem leaf_lit (K : Nat) (d k : Int) (hk : k = 1 ∨ k = 2 ∨ k = 3) : f348 (K + 1) ⟨k, [], [], []⟩ d = some true := by
  rcases hk with rfl | rfl | rfl <;> rfl
theorem leaf_num (K : Nat) (d : Int) (t : List UInt8) (ht : NumT t) (hb : t.length ≤ 2000000) (hK : t.length + 2 ≤ K) : f348 (K + 1) ⟨4, t, [], []⟩ d = some true := by
  rw [f348]
  unfold f348_s
  show cond (decide ((4 : Int) = 1)) _ (cond (decide ((4 : Int) = 2)) _ (f348_j32 K ⟨4, t, [], []⟩ d (f348 K) (decide ((4 : Int) = 3)))) = _
  rw [cdn (by decide), cdn (by decide), decide_eq_false (by decide)]
  unfold f348_j32
  rw [cond_false]
  show cond (decide ((4 : Int) = 4)) (Option.bind (f349 K t) _) _ = _
  rw [cdp rfl, numeral_true K t hb hK ht]
  rfl
theorem leaf_str (K : Nat) (d : Int) (t : List UInt8) (ht : Lib.validD t = true) (hb : t.length ≤ 2000000) : f348 (K + 1) ⟨5, t, [], []⟩ d = some true := by
  have g1 : f351 K t = some true := by unfold f351; rw [gdp (by omega), ht]
  rw [f348]
  unfold f348_s
  show cond (decide ((5 : Int) = 1)) _ (cond (decide ((5 : Int) = 2)) _ (f348_j32 K ⟨5, t, [], []⟩ d (f348 K) (decide ((5 : Int) = 3)))) = _
  rw [cdn (by decide), cdn (by decide), decide_eq_false (by decide)]
  unfold f348_j32
  rw [cond_false]
  show cond (decide ((5 : Int) = 4)) _ (cond (decide ((5 : Int) = 5)) (Option.bind (f351 K t) _) _) = _
  rw [cdn (by decide), cdp rfl, g1]
  rfl
theorem many_ok (v : TJson) (us : List TJson) (q : Bool) (h : Nat) (K : Nat) (hfl : v.fL = us.map (RT.of TJson.ok)) (hk : v.fKind = cond q 7 6) (ht : v.fText = []) (hh : h + 1 ≤ 64) (hkl : q = true → v.fKeys.length = us.length) (hk0 : q = false → v.fKeys = [])
    (hn : v.fKeys.Nodup) (hv : ∀ k ∈ v.fKeys, Lib.validD k = true) (hlen : us.length ≤ 2000000) (hkb : ∀ k ∈ v.fKeys, k.length ≤ 2000000) (hus : ∀ u ∈ us, f348 K u (64 - (h : Int)) = some true) (hK : us.length + us.length + 20 ≤ K) : f348 (K + 1) v (64 - ((h + 1 : Nat) : Int)) = some true := by
  have hl : v.fL.length = us.length := by rw [hfl, List.length_map]
  have hD : IntKind.i64.wrap ((64 - ((h + 1 : Nat) : Int)) + 1) = 64 - (h : Int) := by rw [i64w (by omega)]; omega
  have loop : ∀ (rest pre : List TJson) (J : Nat), us = pre ++ rest → rest.length + us.length + 10 ≤ J → f348_l166 v (f348 K) (64 - ((h + 1 : Nat) : Int)) J ((pre.length : Nat) : Int) = some (.b0 ()) := by
    intro rest
    induction rest with
    | nil =>
      intro pre J e hJ
      obtain ⟨J, rfl⟩ : ∃ j, J = j + 1 := ⟨J - 1, by omega⟩
      have : us.length = pre.length := by rw [e]; simp
      rw [f348_l166, cdn (by omega)]
    | cons u t ih =>
      intro pre J e hJ
      rw [List.length_cons] at hJ
      obtain ⟨J, rfl⟩ : ∃ j, J = j + 1 := ⟨J - 1, by omega⟩
      have hlen2 : us.length = pre.length + (t.length + 1) := by rw [e]; simp
      have hdec := part_at v pre t u (by rw [hfl, e])
      have hu := hus u (by rw [e]; simp)
      have nxt := ih (pre ++ [u]) J (by rw [e]; simp) (by omega)
      rw [List.length_append] at nxt
      rw [f348_l166, cdp (by omega), hk]
      cases q with
      | false =>
        rw [cdn (by decide), gdp (by omega), hdec, Option.bind_some, hD, hu, Option.bind_some, i64w (by omega)]
        exact nxt
      | true =>
        have hkl := hkl rfl
        have hi : pre.length < v.fKeys.length := by omega
        have hrd : rd v.fKeys ((pre.length : Nat) : Int) = v.fKeys[pre.length] := by
          unfold rd
          rw [Int.toNat_natCast, List.getD_eq_getElem?_getD, List.getElem?_eq_getElem hi]
          rfl
        have hmem : v.fKeys[pre.length] ∈ v.fKeys := List.getElem_mem hi
        have hb := hkb _ hmem
        have g3 : f351 J v.fKeys[pre.length] = some true := by unfold f351; rw [gdp (by omega), hv _ hmem]
        have hsl : Abs.sl v.fKeys (0 : Int) ((pre.length : Nat) : Int) = v.fKeys.take pre.length := by
          unfold Abs.sl
          rw [Int.toNat_natCast]
          rfl
        have hA := has_atL J (v.fKeys.take pre.length) v.fKeys[pre.length] (by rw [List.length_take]; omega) (by rw [List.length_take]; omega)
        have hin : v.fKeys[pre.length] ∉ v.fKeys.take pre.length := by
          intro hin
          have e := hn
          rw [← List.take_append_drop pre.length v.fKeys, List.drop_eq_getElem_cons hi] at e
          exact (List.nodup_append.1 e).2.2 _ hin _ (List.mem_cons_self ..) rfl
        rw [decide_eq_false hin] at hA
        rw [cdp (show cond true (7 : Int) 6 = 7 from rfl), gdp (by omega), hrd, g3, Option.bind_some, Bool.not_true, cond_false, gdp (by omega), gdp (by omega), hsl, hA, Option.bind_some, cond_false, gdp (by omega), hdec, Option.bind_some, hD, hu, Option.bind_some, i64w (by omega)]
        exact nxt
  have lp := loop us [] K rfl (by omega)
  have lp : f348_l166 v (f348 K) (64 - ((h + 1 : Nat) : Int)) K 0 = some (.b0 ()) := lp
  have j161 : f348_j161 K v (f348 K) (64 - ((h + 1 : Nat) : Int)) = some true := by
    unfold f348_j161
    rw [lp]
    rfl
  have j117 : f348_j117 K v (64 - ((h + 1 : Nat) : Int)) (f348 K) true = some true := by
    unfold f348_j117
    rw [cond_true, cdn (fun hq => hq ht)]
    cases q with
    | false =>
      have hk : v.fKind = 6 := hk
      have := hk0 rfl
      rw [cdp hk, cdn (by rw [this]; simp), cdn (by omega), cdn (by omega)]
      exact j161
    | true =>
      have hk : v.fKind = 7 := hk
      have := hkl rfl
      rw [cdn (by omega), cdp hk, cdn (by omega), cdn (by omega)]
      exact j161
  rw [f348]
  unfold f348_s
  have j32 : f348_j32 K v (64 - ((h + 1 : Nat) : Int)) (f348 K) false = some true := by
    unfold f348_j32
    rw [cond_false]
    cases q with
    | false =>
      have hk : v.fKind = 6 := hk
      rw [cdn (by omega), cdn (by omega), cdp hk, decide_eq_true hk]
      exact j117
    | true =>
      have hk : v.fKind = 7 := hk
      rw [cdn (by omega), cdn (by omega), cdn (by omega), decide_eq_true hk]
      exact j117
  have hk2 : v.fKind = 6 ∨ v.fKind = 7 := by rw [hk]; cases q; exact .inl rfl; exact .inr rfl
  rw [cdn (by omega), cdn (by omega), decide_eq_false (by omega)]
  exact j32
theorem right_ok (h : Nat) (v : TJson) (hr : JR h v) : Sm v → ∀ K, 2 * jbk v + 200000 ≤ K → jbk v ≤ 1048576 → h ≤ 64 → f348 K v (64 - (h : Int)) = some true := by
  induction hr with
  | lit h k hk =>
    intro _ K hK _ _
    obtain ⟨K, rfl⟩ : ∃ j, K = j + 1 := ⟨K - 1, by omega⟩
    exact leaf_lit K _ k hk
  | num h t ht =>
    intro hs K hK _ _
    obtain ⟨K, rfl⟩ : ∃ j, K = j + 1 := ⟨K - 1, by omega⟩
    have htl : t.length ≤ 120000 := by cases hs with | mk _ _ _ h _ _ => exact h
    exact leaf_num K _ t ht (by omega) (by omega)
  | str h t ht =>
    intro hs K hK _ _
    obtain ⟨K, rfl⟩ : ∃ j, K = j + 1 := ⟨K - 1, by omega⟩
    have htl : t.length ≤ 120000 := by cases hs with | mk _ _ _ h _ _ => exact h
    exact leaf_str K _ t ht (by omega)
  | arr h us hu ih =>
    intro hs K hK hv hh
    obtain ⟨K, rfl⟩ : ∃ j, K = j + 1 := ⟨K - 1, by omega⟩
    have hb := jbk_eq ⟨6, [], us.map (RT.of TJson.ok), []⟩ us rfl
    obtain ⟨s1, s2⟩ := sum_ge us
    have hsm : ∀ u ∈ us, Sm u := by cases hs with | mk _ us2 h2 _ _ hw => rw [rt_inj us us2 h2]; exact hw
    exact many_ok ⟨6, [], us.map (RT.of TJson.ok), []⟩ us false h K rfl rfl rfl hh (fun q => by cases q) (fun _ => rfl) List.nodup_nil (fun k hk => (List.not_mem_nil hk).elim) (by omega) (fun k hk => (List.not_mem_nil hk).elim) (fun u hu => by have := s2 u hu; exact ih u hu (hsm u hu) K (by omega) (by omega) (by omega)) (by omega)
  | obj h us ks hl hn hva hu ih =>
    intro hs K hK hv hh
    obtain ⟨K, rfl⟩ : ∃ j, K = j + 1 := ⟨K - 1, by omega⟩
    have hb := jbk_eq ⟨7, [], us.map (RT.of TJson.ok), ks⟩ us rfl
    obtain ⟨s1, s2⟩ := sum_ge us
    obtain ⟨k1, k2⟩ := keys_ge ks
    have hb : jbk ⟨7, [], us.map (RT.of TJson.ok), ks⟩ = 5 + 0 + (us.map jbk).sum + (ks.map fun x => x.length + 1).sum := hb
    have hsm : ∀ u ∈ us, Sm u := by cases hs with | mk _ us2 h2 _ _ hw => rw [rt_inj us us2 h2]; exact hw
    exact many_ok ⟨7, [], us.map (RT.of TJson.ok), ks⟩ us true h K rfl rfl rfl hh (fun _ => hl) (fun q => by cases q) hn hva (by omega) (fun k hk => by have := k2 k hk; omega) (fun u hu => by have := s2 u hu; exact ih u hu (hsm u hu) K (by omega) (by omega) (by omega)) (by omega)
end Go.Proofs.Abs
