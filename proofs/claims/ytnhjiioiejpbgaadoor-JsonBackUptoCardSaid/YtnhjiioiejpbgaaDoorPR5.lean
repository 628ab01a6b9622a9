/- Which values are right: the program's answer. -/
import Derived.Test.YtnhjiioiejpbgaaDoorPR4
set_option linter.unusedSimpArgs false
namespace Go.Proofs.Abs
open Go
set_option linter.unusedVariables false
set_option maxRecDepth 100000
/-! ### numbers -/
theorem digs_loop {D : List UInt8} (hb : D.length ≤ 2000000) : ∀ (R : List UInt8) (n : Int) (K : Nat), At D n R → R.length + 1 ≤ K → ∃ z, f406_l44 D K n = some z ∧ ((z = .b0 () ∧ ∀ c ∈ R, isD c) ∨ z = .r false) := by
  intro R
  induction R with
  | nil =>
    intro n K h hK
    obtain ⟨K, rfl⟩ : ∃ i, K = i + 1 := ⟨K - 1, by omega⟩
    have hl := h.len
    rw [List.length_nil] at hl
    exact ⟨LR2.b0 (), by rw [f406_l44, cdn (by omega)], .inl ⟨rfl, fun c hc => (List.not_mem_nil hc).elim⟩⟩
  | cons c t ih =>
    intro n K h hK
    rw [List.length_cons] at hK
    obtain ⟨K, rfl⟩ : ∃ i, K = i + 1 := ⟨K - 1, by omega⟩
    have hl := h.len
    rw [List.length_cons] at hl
    rw [f406_l44, cdp (by omega), gdp (by omega), h.get]
    by_cases h1 : ((c.toNat : Nat) : Int) < 48
    · rw [cdp h1]
      exact ⟨_, rfl, .inr rfl⟩
    · rw [cdn h1, gdp (by omega)]
      by_cases h2 : ((c.toNat : Nat) : Int) > 57
      · rw [cdp h2]
        exact ⟨_, rfl, .inr rfl⟩
      · rw [cdn h2, i64w (by omega)]
        obtain ⟨z, z1, z2⟩ := ih (n + 1) K h.next (by omega)
        refine ⟨z, z1, z2.imp (fun ⟨a, b⟩ => ⟨a, fun x hx => ?_⟩) id⟩
        rcases List.mem_cons.1 hx with rfl | hx
        · unfold isD; omega
        · exact b x hx
theorem j37_def (K : Nat) (D : List UInt8) (hb : D.length ≤ 2000000) (hK : D.length + 1 ≤ K) : ∃ b, f406_j37 K D = some b ∧ (b = true → (∀ c ∈ D, isD c) ∧ goodD D) := by
  obtain ⟨z, z1, z2⟩ := digs_loop hb D 0 K (At.start D) hK
  unfold f406_j37
  rw [z1, Option.bind_some]
  rcases z2 with ⟨rfl, hd⟩ | rfl
  · show ∃ b, f406_j85 K D = some b ∧ _
    unfold f406_j85
    by_cases h0 : D = [48]
    · rw [cdp h0]
      refine ⟨true, rfl, fun _ => ⟨hd, by rw [h0]; decide, by rw [h0]; decide, by rw [h0]; decide⟩⟩
    · rw [cdn h0]
      by_cases h1 : ((D.length : Nat) : Int) > 0
      · rw [cdp h1]
        by_cases h2 : ((D.length : Nat) : Int) ≤ 19
        · rw [cdp h2, gdp (by omega)]
          refine ⟨_, rfl, fun q => ⟨hd, by omega, by omega, fun q2 => ?_⟩⟩
          have := of_decide_eq_true q
          apply this
          show (((D.getD 0 0).toNat : Nat) : Int) = 48
          rw [q2.2]
          rfl
        · rw [cdn h2]
          exact ⟨_, rfl, fun q => by cases q⟩
      · rw [cdn h1]
        exact ⟨_, rfl, fun q => by cases q⟩
  · exact ⟨false, rfl, fun q => by cases q⟩
theorem number_def (K : Nat) (t : List UInt8) (hb : t.length ≤ 2000000) (hK : t.length + 2 ≤ K) : ∃ b, f406 K t = some b ∧ (b = true → NumT t) := by
  unfold f406
  cases t with
  | nil =>
    rw [cdn (by simp)]
    unfold f406_j17
    rw [cond_false]
    obtain ⟨b, b1, b2⟩ := j37_def K [] (by simp) (by simp; omega)
    exact ⟨b, b1, fun q => absurd (b2 q).2.1 (by simp)⟩
  | cons c D =>
    rw [List.length_cons] at hb hK
    have hA : At (c :: D) 1 D := (At.start (c :: D)).next
    rw [cdp (by simp only [List.length_cons]; omega), gdp (by simp only [List.length_cons]; omega)]
    show ∃ b, f406_j17 K (c :: D) (decide (((c.toNat : Nat) : Int) = 45)) = some b ∧ _
    unfold f406_j17
    by_cases hc : ((c.toNat : Nat) : Int) = 45
    · have hc' : c = 45 := UInt8.toNat.inj (by rw [show (45 : UInt8).toNat = 45 from rfl]; omega)
      subst hc'
      rw [decide_eq_true hc, cond_true, gdp (by simp only [List.length_cons]; omega), hA.sl]
      by_cases h0 : D = [48]
      · rw [cdp h0]
        exact ⟨false, rfl, fun q => by cases q⟩
      · rw [cdn h0]
        obtain ⟨b, b1, b2⟩ := j37_def K D (by omega) (by omega)
        refine ⟨b, b1, fun q => ⟨true, D, rfl, (b2 q).1, (b2 q).2, fun e => h0 (List.cons.inj e).2⟩⟩
    · rw [decide_eq_false hc, cond_false]
      obtain ⟨b, b1, b2⟩ := j37_def K (c :: D) (by rw [List.length_cons]; omega) (by rw [List.length_cons]; omega)
      refine ⟨b, b1, fun q => ⟨false, c :: D, rfl, (b2 q).1, (b2 q).2, fun e => hc (by rw [(List.cons.inj e).1]; rfl)⟩⟩
theorem good_ok {D : List UInt8} (h : goodD D) : okD D = true := by
  obtain ⟨h1, h2, h3⟩ := h
  unfold okD
  by_cases h0 : D = [48]
  · rw [decide_eq_true h0]; rfl
  · rw [decide_eq_false h0, decide_eq_true h1, decide_eq_true h2]
    by_cases hl : D.length > 1
    · rw [decide_eq_true (p := D.getD 0 0 ≠ 48) (fun e => h3 ⟨hl, e⟩)]; rfl
    · match D, h1, hl with
      | [c], _, _ =>
        have : c ≠ 48 := fun e => h0 (by rw [e])
        simp [this]
      | [], h1, _ => simp at h1
      | _ :: _ :: _, _, hl => simp at hl
theorem number_ok (K : Nat) (t : List UInt8) (ht : NumT t) (hb : t.length ≤ 2000000) (hK : t.length + 2 ≤ K) : f406 K t = some true := by
  obtain ⟨neg, D, rfl, hd, hg, h48⟩ := ht
  have ho := good_ok hg
  cases neg with
  | true =>
    have hl : (cond true [(45 : UInt8)] [] ++ D).length = D.length + 1 := by simp
    have := num_neg K D hd (by omega) (by omega)
    refine this.trans ?_
    have hne : D ≠ [48] := fun e => h48 (by rw [e]; rfl)
    rw [decide_eq_false hne, ho]
    rfl
  | false =>
    have hl : (cond false [(45 : UInt8)] [] ++ D).length = D.length := by simp
    have := num_pos K D hd (by omega) (by omega)
    exact this.trans (by rw [ho])
/-! ### a leaf -/
theorem plain_def (K : Nat) (v : TJson) (q : Bool) : ∃ b, f426 K v q = some b ∧ (b = true ↔ v.fL = [] ∧ v.fKeys = [] ∧ (q = true ∨ v.fText = [])) := by
  unfold f426
  by_cases h1 : ((v.fL.length : Nat) : Int) = 0
  · rw [cdp h1]
    by_cases h2 : ((v.fKeys.length : Nat) : Int) = 0
    · rw [cdp h2]
      cases q with
      | true => exact ⟨true, rfl, by simp [len0 h1, len0 h2]⟩
      | false => exact ⟨_, rfl, by rw [decide_eq_true_eq]; simp [len0 h1, len0 h2]⟩
    · rw [cdn h2]
      exact ⟨false, rfl, by constructor; (intro h; cases h); (intro h; exact absurd (by rw [h.2.1]; rfl) h2)⟩
  · rw [cdn h1]
    exact ⟨false, rfl, by constructor; (intro h; cases h); (intro h; exact absurd (by rw [h.1]; rfl) h1)⟩
/-! ### keys -/
theorem midx_mem (k : List UInt8) : ∀ m : MM, (midx m k).isSome = decide (k ∈ m.map (·.1))
  | [] => rfl
  | (a, n) :: m => by
    unfold midx
    by_cases h : k = a
    · rw [if_pos h]
      simp [h]
    · rw [if_neg h, Option.isSome_map, midx_mem k m]
      simp [h]
theorem mhas_mem (m : MM) (k : List UInt8) : mhas m k = decide (k ∈ m.map (·.1)) := by
  show (mfind m k).isSome = _
  unfold mfind
  rw [Option.isSome_map, midx_mem]
theorem mput_new (m : MM) (k : List UInt8) (n : Int) (h : k ∉ m.map (·.1)) : mput m k n = m ++ [(k, n)] := by
  have h2 := midx_mem k m
  rw [decide_eq_false h] at h2
  unfold mput
  cases hx : midx m k with
  | none => rfl
  | some x => rw [hx] at h2; cases h2
theorem keys_def (ks : List (List UInt8)) (hb : ks.length ≤ 2000000) (hkb : ∀ k ∈ ks, k.length ≤ 2000000) : ∀ (rest pre : List (List UInt8)) (m : MM) (K : Nat), ks = pre ++ rest → rest.length + 1 ≤ K → m.map (·.1) = pre → (pre.Nodup ∧ ∀ k ∈ pre, Lib.validD k = true) →
    ∃ z, f431_l7 ks false K ((pre.length : Nat) : Int) m = some z ∧ ((∃ m', z = .b0 m' ∧ ks.Nodup ∧ ∀ k ∈ ks, Lib.validD k = true) ∨ (∃ m', z = .r (.inl m') ∧ ¬ (ks.Nodup ∧ ∀ k ∈ ks, Lib.validD k = true))) := by
  intro rest
  induction rest with
  | nil =>
    intro pre m K e hK hm hp
    obtain ⟨K, rfl⟩ : ∃ i, K = i + 1 := ⟨K - 1, by omega⟩
    have e' : ks = pre := by rw [e]; simp
    refine ⟨.b0 m, by rw [f431_l7, cdn (by rw [e']; omega)], .inl ⟨m, rfl, ?_⟩⟩
    rw [e']
    exact hp
  | cons k t ih =>
    intro pre m K e hK hm hp
    rw [List.length_cons] at hK
    obtain ⟨K, rfl⟩ : ∃ i, K = i + 1 := ⟨K - 1, by omega⟩
    have hl : ks.length = pre.length + (t.length + 1) := by rw [e]; simp
    have hrd : rd ks ((pre.length : Nat) : Int) = k := by rw [e]; exact rd_mid
    have hkl := hkb k (by rw [e]; simp)
    have h51 : f351 K k = some (Lib.validD k) := by unfold f351; rw [gdp (by omega)]
    rw [f431_l7, cdp (by omega), gdp (by omega), hrd]
    unfold b425_134
    rw [mhas_mem, hm, h51]
    by_cases hin : k ∈ pre
    · rw [decide_eq_true hin, cond_true, Option.bind_some]
      refine ⟨_, rfl, .inr ⟨m, rfl, fun q => ?_⟩⟩
      rw [e] at q
      exact (List.nodup_append.1 q.1).2.2 k hin k (List.mem_cons_self ..) rfl
    · rw [decide_eq_false hin, cond_false, Option.bind_some]
      cases hv : Lib.validD k with
      | false =>
        refine ⟨_, rfl, .inr ⟨m, rfl, fun q => ?_⟩⟩
        have := q.2 k (by rw [e]; simp)
        rw [hv] at this
        cases this
      | true =>
        show ∃ z, f431_l7 ks false K (IntKind.i64.wrap (((pre.length : Nat) : Int) + 1)) (mput m k ((pre.length : Nat) : Int)) = some z ∧ _
        rw [mput_new m k _ (by rw [hm]; exact hin), i64w (by omega)]
        have := ih (pre ++ [k]) (m ++ [(k, ((pre.length : Nat) : Int))]) K (by rw [e]; simp) (by omega) (by rw [List.map_append, hm]; rfl) ⟨List.nodup_append.2 ⟨hp.1, by simp, fun a ha b hb hab => by rw [List.mem_singleton.1 hb] at hab; exact hin (hab ▸ ha)⟩, fun x hx => by
          rcases List.mem_append.1 hx with hx | hx
          · exact hp.2 x hx
          · rw [List.mem_singleton.1 hx]; exact hv⟩
        rw [List.length_append] at this
        exact this
/-! ### the parts -/
theorem parts_def (us : List TJson) (l : List (RT 4)) (hl : l = us.map (RT.of TJson.ok)) (hn : us.length ≤ 2000000) (rc : TJson → Int → Option Bool) (d : Int) (h' : Nat) (hd : IntKind.i64.wrap (d + 1) = 64 - (h' : Int)) (hrc : ∀ u ∈ us, ∃ b, rc u (64 - (h' : Int)) = some b ∧ (b = true ↔ JR h' u)) : ∀ (rest pre : List TJson) (K : Nat), us = pre ++ rest → rest.length + 1 ≤ K → (∀ u ∈ pre, JR h' u) →
    ∃ z, f430_l12 l rc d K ((pre.length : Nat) : Int) = some z ∧ ((z = .b0 () ∧ ∀ u ∈ us, JR h' u) ∨ (∃ i : Nat, z = .r (i : Int) ∧ ¬ ∀ u ∈ us, JR h' u)) := by
  have hll : l.length = us.length := by rw [hl, List.length_map]
  intro rest
  induction rest with
  | nil =>
    intro pre K e hK hp
    obtain ⟨K, rfl⟩ : ∃ i, K = i + 1 := ⟨K - 1, by omega⟩
    have e' : us = pre := by rw [e]; simp
    exact ⟨.b0 (), by rw [f430_l12, cdn (by rw [hll, e']; omega)], .inl ⟨rfl, by rw [e']; exact hp⟩⟩
  | cons u t ih =>
    intro pre K e hK hp
    rw [List.length_cons] at hK
    obtain ⟨K, rfl⟩ : ∃ i, K = i + 1 := ⟨K - 1, by omega⟩
    have hlen : us.length = pre.length + (t.length + 1) := by rw [e]; simp
    have hpa := part_at ⟨0, [], l, []⟩ pre t u (by show l = _; rw [hl, e])
    have hpa : TJson.dec (rtE (rd l ((pre.length : Nat) : Int))) = some u := hpa
    obtain ⟨b, b1, b2⟩ := hrc u (by rw [e]; simp)
    rw [f430_l12, cdp (by omega), gdp (by omega), hpa, Option.bind_some]
    unfold f428
    rw [hd]
    show ∃ z, Option.bind (Option.bind (rc u (64 - (h' : Int))) _) _ = some z ∧ _
    rw [b1, Option.bind_some, Option.bind_some]
    cases b with
    | false =>
      refine ⟨.r ((pre.length : Nat) : Int), rfl, .inr ⟨pre.length, rfl, fun q => ?_⟩⟩
      have := b2.2 (q u (by rw [e]; simp))
      cases this
    | true =>
      show ∃ z, f430_l12 l rc d K (IntKind.i64.wrap (((pre.length : Nat) : Int) + 1)) = some z ∧ _
      rw [i64w (by omega)]
      have := ih (pre ++ [u]) K (by rw [e]; simp) (by omega) (fun x hx => by
        rcases List.mem_append.1 hx with hx | hx
        · exact hp x hx
        · rw [List.mem_singleton.1 hx]; exact b2.1 rfl)
      rw [List.length_append] at this
      exact this
theorem tail_def (v : TJson) (us : List TJson) (hl : v.fL = us.map (RT.of TJson.ok)) (hn : us.length ≤ 2000000) (K : Nat) (rc : TJson → Int → Option Bool) (h : Nat) (hh : h ≤ 64) (hK : us.length + 1 ≤ K) (hrc : ∀ h', h = h' + 1 → ∀ u ∈ us, ∃ b, rc u (64 - (h' : Int)) = some b ∧ (b = true ↔ JR h' u)) :
    ∃ b, f425_j183 K v (64 - (h : Int)) rc = some b ∧ (b = true ↔ v.fText = [] ∧ ∃ h', h = h' + 1 ∧ ∀ u ∈ us, JR h' u) := by
  unfold f425_j183
  by_cases ht : v.fText = []
  · rw [cdp ht]
    by_cases hd : 64 - (h : Int) < 64
    · obtain ⟨h', rfl⟩ : ∃ j, h = j + 1 := ⟨h - 1, by omega⟩
      obtain ⟨z, z1, z2⟩ := parts_def us v.fL hl hn rc (64 - ((h' + 1 : Nat) : Int)) h' (by rw [i64w (by omega)]; omega) (hrc h' rfl) us [] K rfl hK (fun u hu => (List.not_mem_nil hu).elim)
      have z1 : f430_l12 v.fL rc (64 - ((h' + 1 : Nat) : Int)) K 0 = some z := z1
      rw [cdp hd]
      unfold f429 f430
      rw [z1, Option.bind_some]
      rcases z2 with ⟨rfl, ha⟩ | ⟨i, rfl, ha⟩
      · refine ⟨true, rfl, fun _ => ⟨ht, h', rfl, ha⟩, fun _ => rfl⟩
      · refine ⟨false, ?_, fun q => (by cases q), fun q => ?_⟩
        · show some (!decide ((i : Int) ≥ 0)) = _
          rw [decide_eq_true (by omega)]
          rfl
        · obtain ⟨_, h2, e, q2⟩ := q
          have : h2 = h' := by omega
          subst this
          exact absurd q2 ha
    · rw [cdn hd]
      exact ⟨false, rfl, fun q => (by cases q), fun q => by obtain ⟨_, h2, e, _⟩ := q; omega⟩
  · rw [cdn ht]
    exact ⟨false, rfl, fun q => (by cases q), fun q => absurd q.1 ht⟩
end Go.Proofs.Abs
