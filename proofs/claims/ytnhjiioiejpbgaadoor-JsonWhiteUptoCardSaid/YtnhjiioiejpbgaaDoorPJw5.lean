/- JsonWhite: the text of a right value is told. -/
import Derived.Test.YtnhjiioiejpbgaaDoorPJw4
set_option linter.unusedSimpArgs false
namespace Go.Proofs.Abs
open Go
set_option linter.unusedVariables false
set_option maxRecDepth 100000
abbrev IK := Option (List UInt8) × TJson
abbrev IW := Option (List UInt8) × TJson × List UInt8
def ik (p : IW) : IK := (p.1, p.2.1)
theorem key_in (ks : List (List UInt8)) (A B : List (Option (List UInt8))) (k : List UInt8) (h : ks.map some = A ++ some k :: B) : rd ks ((A.length : Nat) : Int) = k ∧ A.length < ks.length ∧ k ∈ ks := by
  have h1 : (ks.map some)[A.length]? = some (some k) := by rw [h]; simp
  rw [List.getElem?_map] at h1
  obtain ⟨k', h2, h3⟩ := Option.map_eq_some_iff.1 h1
  cases h3
  obtain ⟨hi, h4⟩ := List.getElem?_eq_some_iff.1 h2
  refine ⟨?_, hi, by rw [← h4]; exact List.getElem_mem hi⟩
  unfold rd
  rw [Int.toNat_natCast, List.getD_eq_getElem?_getD, h2]
  rfl
theorem itsW_snoc (g : List UInt8) (P : List IW) (x : IW) : itsW g (P ++ [x]) = itsW g P ++ (if P = [] then [] else [44]) ++ itW g x := by
  cases P with
  | nil => simp [itsW]
  | cons y r => simp [itsW]
/-- how long an item's text may be -/
def cst (x : IK) : Nat := 100 * jbk x.2 + (match x.1 with | some k => 6 * k.length + 19 | none => 0)
section
variable {g : List UInt8}
theorem step_at (hg : g.length ≤ 8) (v : TJson) (K J h' : Nat) (q : Bool) (L : (List UInt8) → Int → Option (LR2 (List UInt8) Unit (List UInt8))) (us : List TJson) (its pre rest : List IK) (x : IK) (y t : List UInt8)
    (hfl : v.fL = us.map (RT.of TJson.ok)) (hk : v.fKind = cond q 7 6) (hit : its.map (·.2) = us) (hks : q = true → its.map (·.1) = v.fKeys.map some) (hno : q = false → ∀ x ∈ its, x.1 = none) (e : its = pre ++ x :: rest)
    (ht : f439 K x.2 g = some t) (hJ : ∀ k, x.1 = some k → k.length + 1 ≤ J) (hkl : ∀ k, x.1 = some k → k.length ≤ 1048576) (hn : its.length ≤ 1048576) (hy : y.length ≤ 1000000000) (htl : t.length ≤ 1000000000) :
    f439_j87 L J v g ((pre.length : Nat) : Int) (f439 K) y = L (y ++ itW g (x.1, x.2, t)) (((pre.length + 1 : Nat) : Nat) : Int) := by
  have hlen : its.length = pre.length + (rest.length + 1) := by rw [e]; simp
  have hul : v.fL.length = its.length := by rw [hfl, List.length_map, ← hit, List.length_map]
  have hp : TJson.dec (rtE (rd v.fL ((pre.length : Nat) : Int))) = some x.2 := by
    have := part_at v (pre.map (·.2)) (rest.map (·.2)) x.2 (by rw [hfl, ← hit, e]; simp)
    rwa [List.length_map] at this
  have tail : ∀ z : List UInt8, z.length ≤ 2000000000 → f439_j112 L J ((pre.length : Nat) : Int) v (f439 K) g z = L (z ++ t) (((pre.length + 1 : Nat) : Nat) : Int) := by
    intro z hz
    unfold f439_j112
    rw [gdp (by omega), hp, Option.bind_some, ht, Option.bind_some, gdp (by omega), i64w (by omega)]
    rfl
  unfold f439_j87
  rw [hk]
  cases q with
  | false =>
    rw [cdn (by decide), tail y (by omega)]
    have := hno rfl x (by rw [e]; simp)
    unfold itW
    rw [this]
  | true =>
    have h1 := hks rfl
    have hx : ∃ k, x.1 = some k := by
      have : x.1 ∈ its.map (·.1) := by rw [e]; simp
      rw [h1] at this
      obtain ⟨k, _, hk⟩ := List.mem_map.1 this
      exact ⟨k, hk.symm⟩
    obtain ⟨k, hx⟩ := hx
    have h2 : v.fKeys.map some = pre.map (·.1) ++ some k :: rest.map (·.1) := by rw [← h1, e, ← hx]; simp
    obtain ⟨h3, h4, _⟩ := key_in _ _ _ _ h2
    rw [List.length_map] at h3 h4
    have hkb := hkl k hx
    have hq := quo_len k
    rw [cdp (show cond true (7 : Int) 6 = 7 from rfl), gdp (by omega), gdp (by omega), h3, quote_at J k (by omega) (hJ k hx), Option.bind_some, gdp (by rw [List.length_append]; omega), gdp (by simp only [List.length_append]; omega), gdp (by simp only [List.length_append, List.length_cons, List.length_nil]; omega), tail _ (by simp only [List.length_append, List.length_cons, List.length_nil]; omega)]
    congr 1
    unfold itW
    rw [hx]
    simp only [List.append_assoc]
theorem itW_len (hg : g.length ≤ 8) (x : IK) (t : List UInt8) (ht : t.length + 100 ≤ 100 * jbk x.2) : (itW g (x.1, x.2, t)).length + 1 ≤ cst x := by
  unfold itW cst
  cases x.1 with
  | none => simp only; omega
  | some k =>
    have := quo_len k
    simp only [List.length_append, List.length_cons, List.length_nil]
    omega
theorem sp_loop (hg : g.length ≤ 8) (v : TJson) (K h' : Nat) (q : Bool) (us : List TJson) (its : List IK) (out0 : List UInt8) (ho : out0.length ≤ 100)
    (hfl : v.fL = us.map (RT.of TJson.ok)) (hk : v.fKind = cond q 7 6) (hit : its.map (·.2) = us) (hks : q = true → its.map (·.1) = v.fKeys.map some) (hno : q = false → ∀ x ∈ its, x.1 = none)
    (hT : ∀ x ∈ its, ∃ t, f439 K x.2 g = some t ∧ Sp g h' x.2 t ∧ t.length + 100 ≤ 100 * jbk x.2) (hkl : ∀ x ∈ its, ∀ k, x.1 = some k → k.length ≤ 1048576) (hn : its.length ≤ 1048576) (hc : (its.map cst).sum ≤ 900000000) :
    ∀ (rest pre : List IK) (P : List IW) (J : Nat), its = pre ++ rest → P.map ik = pre → (∀ p ∈ P, Sp g h' p.2.1 p.2.2) → rest.length + 1048600 ≤ J → (itsW g P).length + (rest.map cst).sum ≤ (its.map cst).sum →
      ∃ ps : List IW, f439_l58 v g (f439 K) J (out0 ++ itsW g P) ((pre.length : Nat) : Int) = some (.b0 (out0 ++ itsW g ps)) ∧ ps.map ik = its ∧ (∀ p ∈ ps, Sp g h' p.2.1 p.2.2) ∧ (itsW g ps).length ≤ (its.map cst).sum := by
  have hul : v.fL.length = its.length := by rw [hfl, List.length_map, ← hit, List.length_map]
  intro rest
  induction rest with
  | nil =>
    intro pre P J e hP hS hJ hb
    obtain ⟨J, rfl⟩ : ∃ j, J = j + 1 := ⟨J - 1, by omega⟩
    have hl : its.length = pre.length := by rw [e]; simp
    refine ⟨P, ?_, by rw [hP, e]; simp, hS, by simpa using hb⟩
    rw [f439_l58, cdn (by omega)]
  | cons x r ih =>
    intro pre P J e hP hS hJ hb
    rw [List.length_cons] at hJ
    obtain ⟨J, rfl⟩ : ∃ j, J = j + 1 := ⟨J - 1, by omega⟩
    have hl : its.length = pre.length + (r.length + 1) := by rw [e]; simp
    have hx : x ∈ its := by rw [e]; simp
    obtain ⟨t, t1, t2, t3⟩ := hT x hx
    have hil := itW_len hg x t t3
    have hkx := hkl x hx
    have hPl : P.length = pre.length := by rw [← hP, List.length_map]
    rw [List.map_cons, List.sum_cons] at hb
    have hcx : cst x ≤ (its.map cst).sum := by rw [e]; simp; omega
    have htl : t.length ≤ 1000000000 := by
      have : 100 * jbk x.2 ≤ cst x := by unfold cst; omega
      omega
    have e2 : its = (pre ++ [x]) ++ r := by rw [e]; simp
    have hS2 : ∀ p ∈ P ++ [((x.1, x.2, t) : IW)], Sp g h' p.2.1 p.2.2 := by
      intro p hp
      rcases List.mem_append.1 hp with hp | hp
      · exact hS p hp
      · rw [List.mem_singleton.1 hp]; exact t2
    have hs := itsW_snoc g P (x.1, x.2, t)
    have go : ∀ y : List UInt8, y ++ itW g (x.1, x.2, t) = out0 ++ itsW g (P ++ [((x.1, x.2, t) : IW)]) → y.length ≤ 1000000000 → (itsW g (P ++ [((x.1, x.2, t) : IW)])).length + (r.map cst).sum ≤ (its.map cst).sum →
        ∃ ps : List IW, f439_j87 (f439_l58 v g (f439 K) J) J v g ((pre.length : Nat) : Int) (f439 K) y = some (.b0 (out0 ++ itsW g ps)) ∧ ps.map ik = its ∧ (∀ p ∈ ps, Sp g h' p.2.1 p.2.2) ∧ (itsW g ps).length ≤ (its.map cst).sum := by
      intro y hy hyl hbb
      obtain ⟨ps, p1, p2⟩ := ih (pre ++ [x]) (P ++ [((x.1, x.2, t) : IW)]) J e2 (by rw [List.map_append, hP]; rfl) hS2 (by omega) hbb
      refine ⟨ps, ?_, p2⟩
      rw [step_at hg v K J h' q (f439_l58 v g (f439 K) J) us its pre r x y t hfl hk hit hks hno e t1 (fun k hk => by have := hkx k hk; omega) (fun k hk => by have := hkx k hk; omega) hn hyl htl, hy]
      rw [List.length_append] at p1
      exact p1
    rw [f439_l58, cdp (by omega)]
    by_cases h0 : pre.length = 0
    · have hP0 : P = [] := List.length_eq_zero_iff.1 (by omega)
      rw [cdn (by omega)]
      refine go _ ?_ (by rw [List.length_append]; omega) ?_
      · rw [hs, if_pos hP0]; simp
      · rw [hs, if_pos hP0, List.append_nil, List.length_append]; omega
    · have hP0 : ¬ P = [] := fun h => h0 (by rw [← hPl, h]; rfl)
      rw [cdp (by omega), gdp (by simp only [List.length_append, List.length_cons, List.length_nil]; omega)]
      refine go _ ?_ (by simp only [List.length_append, List.length_cons, List.length_nil]; omega) ?_
      · rw [hs, if_neg hP0]; simp
      · rw [hs, if_neg hP0]
        simp only [List.length_append, List.length_cons, List.length_nil]
        omega
theorem cst_obj : ∀ (its : List IK) (us : List TJson) (ks : List (List UInt8)), its.map (·.2) = us → its.map (·.1) = ks.map some → (its.map cst).sum ≤ 100 * ((us.map jbk).sum + (ks.map fun x => x.length + 1).sum)
  | [], us, ks, h1, h2 => by simp
  | x :: r, us, ks, h1, h2 => by
    cases us with
    | nil => cases h1
    | cons u us =>
      cases ks with
      | nil => cases h2
      | cons k ks =>
        rw [List.map_cons, List.map_cons] at h2
        rw [List.map_cons] at h1
        obtain ⟨a1, a2⟩ := List.cons.inj h1
        obtain ⟨b1, b2⟩ := List.cons.inj h2
        have := cst_obj r us ks a2 b2
        have e : cst x = 100 * jbk u + (6 * k.length + 19) := by unfold cst; rw [b1, a1]
        simp only [List.map_cons, List.sum_cons, e]
        omega
theorem cst_arr : ∀ (us : List TJson), ((us.map fun u => ((none, u) : IK)).map cst).sum = 100 * (us.map jbk).sum
  | [] => rfl
  | u :: us => by
    have := cst_arr us
    simp only [List.map_cons, List.sum_cons]
    rw [this, show cst (none, u) = 100 * jbk u from rfl]
    omega
theorem leaf_sp (hg : g.length ≤ 8) (v : TJson) (K : Nat) (w : List UInt8) (h6 : v.fKind ≠ 6) (h7 : v.fKind ≠ 7) (h : f354 K v = some w) (hw : w.length ≤ 1000000000) : f439 (K + 1) v g = some ((g ++ w) ++ g) := by
  rw [f439]
  unfold f439_s
  rw [cdp h6, decide_eq_true h7]
  unfold f439_j18
  rw [cond_true]
  show Option.bind (f354 K v) _ = _
  rw [h, Option.bind_some, gdp (by omega), gdp (by rw [List.length_append]; omega)]
theorem many_sp (hg : g.length ≤ 8) (v : TJson) (K h' : Nat) (q : Bool) (us : List TJson) (its : List IK)
    (hfl : v.fL = us.map (RT.of TJson.ok)) (hk : v.fKind = cond q 7 6) (hit : its.map (·.2) = us) (hks : q = true → its.map (·.1) = v.fKeys.map some) (hno : q = false → ∀ x ∈ its, x.1 = none)
    (hT : ∀ x ∈ its, ∃ t, f439 K x.2 g = some t ∧ Sp g h' x.2 t ∧ t.length + 100 ≤ 100 * jbk x.2) (hkl : ∀ x ∈ its, ∀ k, x.1 = some k → k.length ≤ 1048576) (hn : its.length ≤ 1048576) (hc : (its.map cst).sum ≤ 900000000) (hK : its.length + 1048600 ≤ K) :
    ∃ ps : List IW, f439 (K + 1) v g = some (((g ++ [cond q 123 91] ++ itsW g ps ++ g) ++ [cond q 125 93]) ++ g) ∧ ps.map ik = its ∧ (∀ p ∈ ps, Sp g h' p.2.1 p.2.2) ∧ (itsW g ps).length ≤ (its.map cst).sum := by
  have lp := fun (out0 : List UInt8) (ho : out0.length ≤ 100) => sp_loop hg v K h' q us its out0 ho hfl hk hit hks hno hT hkl hn hc its [] [] K rfl rfl (fun p hp => (List.not_mem_nil hp).elim) hK (by simp [itsW])
  obtain ⟨ps, p1, p2, p3, p4⟩ := lp (g ++ [cond q 123 91]) (by simp only [List.length_append, List.length_cons, List.length_nil]; omega)
  have p1 : f439_l58 v g (f439 K) K (g ++ [cond q 123 91]) 0 = some (.b0 (g ++ [cond q 123 91] ++ itsW g ps)) := by
    rw [itsW, List.append_nil] at p1
    exact p1
  refine ⟨ps, ?_, p2, p3, p4⟩
  rw [f439]
  unfold f439_s
  have j53 : f439_j53 K v g (f439 K) (g ++ [cond q 123 91]) [cond q 125 93] = some (((g ++ [cond q 123 91] ++ itsW g ps ++ g) ++ [cond q 125 93]) ++ g) := by
    unfold f439_j53
    rw [p1, Option.bind_some]
    show f439_j129 K g [cond q 125 93] (g ++ [cond q 123 91] ++ itsW g ps) = _
    unfold f439_j129
    rw [gdp (by simp only [List.length_append, List.length_cons, List.length_nil]; omega), gdp (by simp only [List.length_append, List.length_cons, List.length_nil]; omega), gdp (by simp only [List.length_append, List.length_cons, List.length_nil]; omega)]
  have j18 : f439_j18 K v g (f439 K) false = some (((g ++ [cond q 123 91] ++ itsW g ps ++ g) ++ [cond q 125 93]) ++ g) := by
    unfold f439_j18
    rw [cond_false, gdp (by simp only [List.length_cons, List.length_nil]; omega), hk]
    cases q with
    | true =>
      rw [cdp (show cond true (7 : Int) 6 = 7 from rfl), gdp (by simp only [List.length_cons, List.length_nil]; omega)]
      exact j53
    | false =>
      rw [cdn (show ¬ cond false (7 : Int) 6 = 7 by decide)]
      exact j53
  cases q with
  | true =>
    have hk : v.fKind = 7 := hk
    rw [cdp (by omega), decide_eq_false (by omega)]
    exact j18
  | false =>
    have hk : v.fKind = 6 := hk
    rw [cdn (by omega)]
    exact j18
theorem spaced (hg : g.length ≤ 8) (h : Nat) (v : TJson) (hr : JR h v) : Sm v → ∀ K, jbk v + 1100000 ≤ K → jbk v ≤ 1048576 → ∃ t, f439 K v g = some t ∧ Sp g h v t ∧ t.length + 100 ≤ 100 * jbk v := by
  induction hr with
  | lit h k hk =>
    intro _ K hK hv
    obtain ⟨K, rfl⟩ : ∃ j, K = j + 3 := ⟨K - 3, by omega⟩
    have hb := jbk_eq ⟨k, [], [], []⟩ [] rfl
    have hl : (wd k).length ≤ 5 := by rcases hk with rfl | rfl | rfl <;> decide
    refine ⟨_, leaf_sp hg _ (K + 2) (wd k) ?_ ?_ (print_leaf _ (K + 2) (wd k) (right_lit (K + 1) k hk) ?_) (by omega), .lit h k hk, ?_⟩
    · rcases hk with rfl | rfl | rfl <;> decide
    · rcases hk with rfl | rfl | rfl <;> decide
    · rcases hk with rfl | rfl | rfl <;> rfl
    · simp only [List.length_append, List.length_nil] at hb ⊢
      omega
  | num h t ht =>
    intro hs K hK hv
    obtain ⟨K, rfl⟩ : ∃ j, K = j + 3 := ⟨K - 3, by omega⟩
    have hb := jbk_eq ⟨4, t, [], []⟩ [] rfl
    have htl : t.length ≤ 15100 := by cases hs with | mk _ _ _ h _ _ => exact h
    refine ⟨_, leaf_sp hg _ (K + 2) t (show (4 : Int) ≠ 6 by decide) (show (4 : Int) ≠ 7 by decide) (print_leaf _ (K + 2) t (right_num (K + 1) t ht (by omega) (by omega)) rfl) (by omega), .num h t ht, ?_⟩
    simp only [List.length_append, List.length_nil] at hb ⊢
    omega
  | str h t ht =>
    intro hs K hK hv
    obtain ⟨K, rfl⟩ : ∃ j, K = j + 3 := ⟨K - 3, by omega⟩
    have hb := jbk_eq ⟨5, t, [], []⟩ [] rfl
    have htl : t.length ≤ 15100 := by cases hs with | mk _ _ _ h _ _ => exact h
    have hq := quo_len t
    refine ⟨_, leaf_sp hg _ (K + 2) (quo t) (show (5 : Int) ≠ 6 by decide) (show (5 : Int) ≠ 7 by decide) (print_leaf _ (K + 2) (quo t) (right_str (K + 1) t ht (by omega)) ?_) (by omega), .str h t ht, ?_⟩
    · rw [f355]
      unfold f355_s
      show cond (decide ((5 : Int) = 1)) _ (cond (decide ((5 : Int) = 2)) _ (cond (decide ((5 : Int) = 3)) _ (cond (decide ((5 : Int) = 4)) _ (cond (decide ((5 : Int) = 5)) (Option.bind (f356 (K + 1) t) _) _)))) = _
      rw [cdn (by decide), cdn (by decide), cdn (by decide), cdn (by decide), cdp rfl, quote_at (K + 1) t (by omega) (by omega)]
      rfl
    · simp only [List.length_append, List.length_nil] at hb ⊢
      omega
  | arr h us hu ih =>
    intro hs K hK hv
    obtain ⟨K, rfl⟩ : ∃ j, K = j + 1 := ⟨K - 1, by omega⟩
    have hb := jbk_eq ⟨6, [], us.map (RT.of TJson.ok), []⟩ us rfl
    simp only [List.length_nil, List.map_nil, List.sum_nil] at hb
    obtain ⟨s1, s2⟩ := sum_ge us
    have hsm : ∀ u ∈ us, Sm u := by
      cases hs with
      | mk _ us2 h2 _ _ hw => rw [rt_inj us us2 h2]; exact hw
    obtain ⟨its, hits⟩ : ∃ its : List IK, its = us.map fun u => (none, u) := ⟨_, rfl⟩
    have hit : its.map (·.2) = us := by rw [hits, List.map_map]; exact List.map_id' us
    have hil : its.length = us.length := by rw [hits, List.length_map]
    have hno : ∀ x ∈ its, x.1 = none := by
      intro x hx
      rw [hits] at hx
      obtain ⟨u, _, rfl⟩ := List.mem_map.1 hx
      rfl
    have hcs := cst_arr us
    rw [← hits] at hcs
    have hmem : ∀ x ∈ its, x.2 ∈ us := fun x hx => by rw [← hit]; exact List.mem_map_of_mem hx
    obtain ⟨ps, p1, p2, p3, p4⟩ := many_sp hg ⟨6, [], us.map (RT.of TJson.ok), []⟩ K h false us its rfl rfl hit (fun h => by cases h) (fun _ => hno) (fun x hx => by
      have := s2 _ (hmem x hx)
      exact ih _ (hmem x hx) (hsm _ (hmem x hx)) K (by omega) (by omega)) (fun x hx k hk => by rw [hno x hx] at hk; cases hk) (by omega) (by omega) (by omega)
    have eu : us.map (RT.of TJson.ok) = ps.map fun p => RT.of TJson.ok p.2.1 := by
      rw [← hit, ← p2, List.map_map, List.map_map]
      rfl
    refine ⟨_, p1, ?_, ?_⟩
    · rw [eu]
      refine .arr h ps (fun p hp => ?_) p3
      have : ik p ∈ its := by rw [← p2]; exact List.mem_map_of_mem hp
      exact hno _ this
    · simp only [List.length_append, List.length_cons, List.length_nil]
      omega
  | obj h us ks hl hn hva hu ih =>
    intro hs K hK hv
    obtain ⟨K, rfl⟩ : ∃ j, K = j + 1 := ⟨K - 1, by omega⟩
    have hb := jbk_eq ⟨7, [], us.map (RT.of TJson.ok), ks⟩ us rfl
    simp only [List.length_nil] at hb
    obtain ⟨s1, s2⟩ := sum_ge us
    obtain ⟨k1, k2⟩ := keys_ge ks
    have hk3 : ks.length ≤ 300 := by cases hs with | mk _ _ _ _ h _ => exact h
    have hsm : ∀ u ∈ us, Sm u := by
      cases hs with
      | mk _ us2 h2 _ _ hw => rw [rt_inj us us2 h2]; exact hw
    obtain ⟨its, hits⟩ : ∃ its : List IK, its = (ks.map some).zip us := ⟨_, rfl⟩
    have hit : its.map (·.2) = us := by rw [hits]; exact List.map_snd_zip (by rw [List.length_map]; omega)
    have hik : its.map (·.1) = ks.map some := by rw [hits]; exact List.map_fst_zip (by rw [List.length_map]; omega)
    have hil : its.length = us.length := by rw [← hit, List.length_map]
    have hcs := cst_obj its us ks hit hik
    have hmem : ∀ x ∈ its, x.2 ∈ us := fun x hx => by rw [← hit]; exact List.mem_map_of_mem hx
    obtain ⟨ps, p1, p2, p3, p4⟩ := many_sp hg ⟨7, [], us.map (RT.of TJson.ok), ks⟩ K h true us its rfl rfl hit (fun _ => hik) (fun h => by cases h) (fun x hx => by
      have := s2 _ (hmem x hx)
      exact ih _ (hmem x hx) (hsm _ (hmem x hx)) K (by omega) (by omega)) (fun x hx k hk => by
        have h1 : x.1 ∈ its.map (·.1) := List.mem_map_of_mem hx
        rw [hik, hk] at h1
        obtain ⟨k', h2, h3⟩ := List.mem_map.1 h1
        cases h3
        have := k2 _ h2
        omega) (by omega) (by omega) (by omega)
    have eu : us.map (RT.of TJson.ok) = ps.map fun p => RT.of TJson.ok p.2.1 := by
      rw [← hit, ← p2, List.map_map, List.map_map]
      rfl
    refine ⟨_, p1, ?_, ?_⟩
    · rw [eu]
      refine .obj h ks ps ?_ hk3 hn hva p3
      rw [← hik, ← p2, List.map_map]
      rfl
    · simp only [List.length_append, List.length_cons, List.length_nil]
      omega
end
end Go.Proofs.Abs
