/- What right values are printed as: both say the same. -/
import Derived.Test.YtnhjiioiejpbgaaDoorPR6
set_option linter.unusedSimpArgs false
namespace Go.Proofs.Abs
open Go
set_option linter.unusedVariables false
set_option maxRecDepth 100000
def wd (k : Int) : List UInt8 := if k = 1 then [110, 117, 108, 108] else if k = 2 then [102, 97, 108, 115, 101] else [116, 114, 117, 101]
/-- an item's text: key, if it has one, and value -/
def itW (g : List UInt8) (x : Option (List UInt8) × TJson × List UInt8) : List UInt8 := match x.1 with
  | some k => g ++ quo k ++ g ++ [58] ++ x.2.2
  | none => x.2.2
def itsW (g : List UInt8) : List (Option (List UInt8) × TJson × List UInt8) → List UInt8
  | [] => []
  | x :: r => itW g x ++ r.flatMap fun y => 44 :: itW g y
/-- the text of a right value, with white wherever it may stand -/
inductive Sp (g : List UInt8) : Nat → TJson → List UInt8 → Prop
  | lit (h : Nat) (k : Int) (hk : k = 1 ∨ k = 2 ∨ k = 3) : Sp g h ⟨k, [], [], []⟩ ((g ++ wd k) ++ g)
  | num (h : Nat) (t : List UInt8) (ht : NumT t) : Sp g h ⟨4, t, [], []⟩ ((g ++ t) ++ g)
  | str (h : Nat) (t : List UInt8) (ht : Lib.validD t = true) : Sp g h ⟨5, t, [], []⟩ ((g ++ quo t) ++ g)
  | arr (h : Nat) (ps : List (Option (List UInt8) × TJson × List UInt8)) (hn : ∀ p ∈ ps, p.1 = none) (hu : ∀ p ∈ ps, Sp g h p.2.1 p.2.2) : Sp g (h + 1) ⟨6, [], ps.map (fun p => RT.of TJson.ok p.2.1), []⟩ (((g ++ [91] ++ itsW g ps ++ g) ++ [93]) ++ g)
  | obj (h : Nat) (ks : List (List UInt8)) (ps : List (Option (List UInt8) × TJson × List UInt8)) (hk : ps.map (·.1) = ks.map some) (h3 : ks.length ≤ 30000) (hn : ks.Nodup) (hv : ∀ k ∈ ks, Lib.validD k = true) (hu : ∀ p ∈ ps, Sp g h p.2.1 p.2.2) : Sp g (h + 1) ⟨7, [], ps.map (fun p => RT.of TJson.ok p.2.1), ks⟩ (((g ++ [123] ++ itsW g ps ++ g) ++ [125]) ++ g)
abbrev IK := Option (List UInt8) × TJson
abbrev IW := Option (List UInt8) × TJson × List UInt8
def ik (p : IW) : IK := (p.1, p.2.1)
theorem key_in (ks : List (List UInt8)) (A B : List (Option (List UInt8))) (k : List UInt8) (h : ks.map some = A ++ some k :: B) : rd ks ((A.length : Nat) : Int) = k ∧ A.length < ks.length ∧ k ∈ ks := by
  have h1 : (ks.map some)[A.length]? = some (some k) := by rw [h]; simp
  rw [List.getElem?_map] at h1
  obtain ⟨k', h2, h3⟩ := Option.map_eq_some_iff.1 h1
  cases h3
  obtain ⟨hi, h4⟩ := List.getElem?_eq_some_iff.1 h2
  refine ⟨?_, hi, by rw [← h4]; exact List.getElem_mem hi⟩
  unfold rd
  rw [Int.toNat_natCast, List.getD_eq_getElem?_getD, h2]
  rfl
theorem itsW_snoc (g : List UInt8) (P : List IW) (x : IW) : itsW g (P ++ [x]) = itsW g P ++ (if P = [] then [] else [44]) ++ itW g x := by
  cases P with
  | nil => simp [itsW]
  | cons y r => simp [itsW]
/-- how long an item's text may be -/
def cst (x : IK) : Nat := 100 * jbk x.2 + (match x.1 with | some k => 6 * k.length + 19 | none => 0)
theorem itW_len {g : List UInt8} (hg : g.length ≤ 8) (x : IK) (t : List UInt8) (ht : t.length + 100 ≤ 100 * jbk x.2) : (itW g (x.1, x.2, t)).length + 1 ≤ cst x := by
  unfold itW cst
  cases x.1 with
  | none => simp only; omega
  | some k =>
    have := quo_len k
    simp only [List.length_append, List.length_cons, List.length_nil]
    omega
theorem cst_obj : ∀ (its : List IK) (us : List TJson) (ks : List (List UInt8)), its.map (·.2) = us → its.map (·.1) = ks.map some → (its.map cst).sum ≤ 100 * ((us.map jbk).sum + (ks.map fun x => x.length + 1).sum)
  | [], us, ks, h1, h2 => by simp
  | x :: r, us, ks, h1, h2 => by
    cases us with
    | nil => cases h1
    | cons u us =>
      cases ks with
      | nil => cases h2
      | cons k ks =>
        rw [List.map_cons, List.map_cons] at h2
        rw [List.map_cons] at h1
        obtain ⟨a1, a2⟩ := List.cons.inj h1
        obtain ⟨b1, b2⟩ := List.cons.inj h2
        have := cst_obj r us ks a2 b2
        have e : cst x = 100 * jbk u + (6 * k.length + 19) := by unfold cst; rw [b1, a1]
        simp only [List.map_cons, List.sum_cons, e]
        omega
theorem cst_arr : ∀ (us : List TJson), ((us.map fun u => ((none, u) : IK)).map cst).sum = 100 * (us.map jbk).sum
  | [] => rfl
  | u :: us => by
    have := cst_arr us
    simp only [List.map_cons, List.sum_cons]
    rw [this, show cst (none, u) = 100 * jbk u from rfl]
    omega
section
variable {s R : List UInt8} {n : Int} {c : UInt8}
theorem ctl_two : ∀ c : Fin 32, (0 ≤ hiI (c.val : Int) ∧ hiI (c.val : Int) < 16) ∧ (0 ≤ loI (c.val : Int) ∧ loI (c.val : Int) < 16) ∧ hexs.getD (hiI (c.val : Int)).toNat 0 = hexd (c.val / 16) ∧ hexs.getD (loI (c.val : Int)).toNat 0 = hexd (c.val % 16) := by decide
theorem quoted_loop (hs : s.length ≤ 2000000) : ∀ (rest y : List UInt8) (n : Int) (K : Nat), At s n rest → rest.length + 1 ≤ K → y.length + 6 * rest.length ≤ 100000000000 → f424_l19 s K y n = some (.b0 (y ++ escT rest)) := by
  intro rest
  induction rest with
  | nil =>
    intro y n K h hK hy
    obtain ⟨K, rfl⟩ : ∃ j, K = j + 1 := ⟨K - 1, by omega⟩
    have hl := h.len
    rw [List.length_nil] at hl
    rw [f424_l19, cdn (by omega)]
    simp [escT]
  | cons c t ih =>
    intro y n K h hK hy
    rw [List.length_cons] at hK hy
    obtain ⟨K, rfl⟩ : ∃ j, K = j + 1 := ⟨K - 1, by omega⟩
    have hl := h.len
    rw [List.length_cons] at hl
    have hcl := c.toNat_lt
    have q : (c.toNat = 34 ∨ c.toNat = 92) → f424_j54 (f424_l19 s K) K y s n true = some (.b0 (y ++ escT (c :: t))) := by
      intro hq
      have eB : escB c = [92, c] := if_pos hq
      unfold f424_j54
      rw [cond_true, h.get, gdp (by simp only [List.length_cons, List.length_nil]; omega), i64w (by omega), ih _ _ _ h.next (by omega) (by simp only [List.length_append, List.length_cons, List.length_nil]; omega), escT_cons, eB]
      simp
    rw [f424_l19, cdp (by omega), gdp (by omega), h.get]
    by_cases h1 : c.toNat = 34
    · rw [cdp (by omega)]
      exact q (.inl h1)
    · rw [cdn (by omega)]
      by_cases h2 : c.toNat = 92
      · rw [decide_eq_true (by omega)]
        exact q (.inr h2)
      · rw [decide_eq_false (by omega)]
        unfold f424_j54
        rw [cond_false, h.get]
        by_cases h3 : c.toNat < 32
        · have eB : escB c = [92, 117, 48, 48, hexd (c.toNat / 16), hexd (c.toNat % 16)] := by unfold escB; rw [if_neg (by omega), if_pos h3]
          obtain ⟨g1, g2, e1, e2⟩ := ctl_two ⟨c.toNat, h3⟩
          simp only at g1 g2 e1 e2
          rw [cdp (by omega)]
          show gd (0 ≤ hiI (c.toNat : Int) ∧ hiI (c.toNat : Int) < 16) (gd (0 ≤ loI (c.toNat : Int) ∧ loI (c.toNat : Int) < 16) (gd ((y.length + ([92, 117, 48, 48, hexs.getD (hiI (c.toNat : Int)).toNat 0, hexs.getD (loI (c.toNat : Int)).toNat 0] : List UInt8).length) * 2 * 1 ≤ 281474976710656) (f424_l19 s K (y ++ [92, 117, 48, 48, hexs.getD (hiI (c.toNat : Int)).toNat 0, hexs.getD (loI (c.toNat : Int)).toNat 0]) (IntKind.i64.wrap (n + 1))))) = _
          rw [gdp g1, gdp g2, gdp (by simp only [List.length_cons, List.length_nil]; omega), e1, e2, i64w (by omega), ih _ _ _ h.next (by omega) (by simp only [List.length_append, List.length_cons, List.length_nil]; omega), escT_cons, eB]
          simp
        · have eB : escB c = [c] := by unfold escB; rw [if_neg (by omega), if_neg h3]
          rw [cdn (by omega), gdp (by simp only [List.length_cons, List.length_nil]; omega), i64w (by omega), ih _ _ _ h.next (by omega) (by simp only [List.length_append, List.length_cons, List.length_nil]; omega), escT_cons, eB]
          simp
theorem quoted_at (K : Nat) (y s : List UInt8) (hs : s.length ≤ 2000000) (hK : s.length + 1 ≤ K) (hy : y.length ≤ 10000000000) : f424 K y s = some (y ++ quo s) := by
  have := escT_len s
  unfold f424
  rw [gdp (by simp only [List.length_cons, List.length_nil]; omega), quoted_loop hs s (y ++ [34]) 0 K (At.start s) hK (by simp only [List.length_append, List.length_cons, List.length_nil]; omega), Option.bind_some]
  show f424_j92 K (y ++ [34] ++ escT s) = _
  unfold f424_j92
  rw [gdp (by simp only [List.length_append, List.length_cons, List.length_nil]; omega)]
  simp [quo]
end
theorem ref_step (v : TJson) (K J : Nat) (q : Bool) (L : (List UInt8) → Int → Option (LR2 (List UInt8) Unit (List UInt8))) (us : List TJson) (its pre rest : List IK) (x : IK) (y t : List UInt8)
    (hfl : v.fL = us.map (RT.of TJson.ok)) (hk : v.fKind = cond q 7 6) (hit : its.map (·.2) = us) (hks : q = true → its.map (·.1) = v.fKeys.map some) (hno : q = false → ∀ x ∈ its, x.1 = none) (e : its = pre ++ x :: rest)
    (ht : f355 K x.2 = some t) (hJ : ∀ k, x.1 = some k → k.length + 1 ≤ J) (hkl : ∀ k, x.1 = some k → k.length ≤ 1048576) (hn : its.length ≤ 1048576) (hy : y.length ≤ 10000000000) (htl : t.length ≤ 1000000000) :
    f355_j124 L J v ((pre.length : Nat) : Int) (f355 K) y = L (y ++ itW [] (x.1, x.2, t)) (((pre.length + 1 : Nat) : Nat) : Int) := by
  have hlen : its.length = pre.length + (rest.length + 1) := by rw [e]; simp
  have hul : v.fL.length = its.length := by rw [hfl, List.length_map, ← hit, List.length_map]
  have hp : TJson.dec (rtE (rd v.fL ((pre.length : Nat) : Int))) = some x.2 := by
    have := part_at v (pre.map (·.2)) (rest.map (·.2)) x.2 (by rw [hfl, ← hit, e]; simp)
    rwa [List.length_map] at this
  have tail : ∀ z : List UInt8, z.length ≤ 20000000000 → f355_j145 L J ((pre.length : Nat) : Int) v (f355 K) z = L (z ++ t) (((pre.length + 1 : Nat) : Nat) : Int) := by
    intro z hz
    unfold f355_j145
    rw [gdp (by omega), hp, Option.bind_some, ht, Option.bind_some, gdp (by omega), i64w (by omega)]
    rfl
  unfold f355_j124
  rw [hk]
  cases q with
  | false =>
    rw [cdn (by decide), tail y (by omega)]
    have := hno rfl x (by rw [e]; simp)
    unfold itW
    rw [this]
  | true =>
    have h1 := hks rfl
    have hx : ∃ k, x.1 = some k := by
      have : x.1 ∈ its.map (·.1) := by rw [e]; simp
      rw [h1] at this
      obtain ⟨k, _, hk⟩ := List.mem_map.1 this
      exact ⟨k, hk.symm⟩
    obtain ⟨k, hx⟩ := hx
    have h2 : v.fKeys.map some = pre.map (·.1) ++ some k :: rest.map (·.1) := by rw [← h1, e, ← hx]; simp
    obtain ⟨h3, h4, _⟩ := key_in _ _ _ _ h2
    rw [List.length_map] at h3 h4
    have hkb := hkl k hx
    have hq := quo_len k
    rw [cdp (show cond true (7 : Int) 6 = 7 from rfl), gdp (by omega), h3, quote_at J k (by omega) (hJ k hx), Option.bind_some, gdp (by omega), gdp (by simp only [List.length_append, List.length_cons, List.length_nil]; omega), tail _ (by simp only [List.length_append, List.length_cons, List.length_nil]; omega)]
    congr 1
    unfold itW
    rw [hx]
    simp
theorem prog_step (v : TJson) (K J : Nat) (q : Bool) (L : (List UInt8) → Int → Option (LR2 (List UInt8) Unit (List UInt8))) (us : List TJson) (its pre rest : List IK) (x : IK) (y t : List UInt8)
    (hfl : v.fL = us.map (RT.of TJson.ok)) (hk : v.fKind = cond q 7 6) (hit : its.map (·.2) = us) (hks : q = true → its.map (·.1) = v.fKeys.map some) (hno : q = false → ∀ x ∈ its, x.1 = none) (e : its = pre ++ x :: rest)
    (ht : ∀ z : List UInt8, z.length + 100 * jbk x.2 ≤ 2000000000 → f423 K z x.2 = some (z ++ t)) (hJ : ∀ k, x.1 = some k → k.length + 1 ≤ J) (hkl : ∀ k, x.1 = some k → k.length ≤ 1048576) (hn : its.length ≤ 1048576) (hy : y.length + cst x ≤ 2000000000) :
    f423_j151 L J v ((pre.length : Nat) : Int) (f423 K) x.2 y = L (y ++ itW [] (x.1, x.2, t)) (((pre.length + 1 : Nat) : Nat) : Int) := by
  have hlen : its.length = pre.length + (rest.length + 1) := by rw [e]; simp
  have tail : ∀ z : List UInt8, z.length + 100 * jbk x.2 ≤ 2000000000 → f423_j172 L J (f423 K) x.2 ((pre.length : Nat) : Int) z = L (z ++ t) (((pre.length + 1 : Nat) : Nat) : Int) := by
    intro z hz
    unfold f423_j172
    show Option.bind (f423 K z x.2) _ = _
    rw [ht z hz, Option.bind_some, i64w (by omega)]
    rfl
  unfold f423_j151
  rw [hk]
  cases q with
  | false =>
    have := hno rfl x (by rw [e]; simp)
    have hc : cst x = 100 * jbk x.2 := by unfold cst; rw [this]; rfl
    rw [cdn (by decide), tail y (by omega)]
    unfold itW
    rw [this]
  | true =>
    have h1 := hks rfl
    have hx : ∃ k, x.1 = some k := by
      have : x.1 ∈ its.map (·.1) := by rw [e]; simp
      rw [h1] at this
      obtain ⟨k, _, hk⟩ := List.mem_map.1 this
      exact ⟨k, hk.symm⟩
    obtain ⟨k, hx⟩ := hx
    have h2 : v.fKeys.map some = pre.map (·.1) ++ some k :: rest.map (·.1) := by rw [← h1, e, ← hx]; simp
    obtain ⟨h3, h4, _⟩ := key_in _ _ _ _ h2
    rw [List.length_map] at h3 h4
    have hkb := hkl k hx
    have hq := quo_len k
    have hc : cst x = 100 * jbk x.2 + (6 * k.length + 19) := by unfold cst; rw [hx]
    rw [cdp (show cond true (7 : Int) 6 = 7 from rfl), gdp (by omega), h3, quoted_at J y k (by omega) (hJ k hx) (by omega), Option.bind_some, gdp (by simp only [List.length_append, List.length_cons, List.length_nil]; omega), tail _ (by simp only [List.length_append, List.length_cons, List.length_nil]; omega)]
    congr 1
    unfold itW
    rw [hx]
    simp
theorem pr_loop (v : TJson) (K h' : Nat) (q : Bool) (us : List TJson) (its : List IK) (c0 : UInt8)
    (hfl : v.fL = us.map (RT.of TJson.ok)) (hk : v.fKind = cond q 7 6) (hit : its.map (·.2) = us) (hks : q = true → its.map (·.1) = v.fKeys.map some) (hno : q = false → ∀ x ∈ its, x.1 = none)
    (hT : ∀ x ∈ its, ∃ t, f355 K x.2 = some t ∧ Sp [] h' x.2 t ∧ t.length + 100 ≤ 100 * jbk x.2 ∧ ∀ z : List UInt8, z.length + 100 * jbk x.2 ≤ 2000000000 → f423 K z x.2 = some (z ++ t)) (hkl : ∀ x ∈ its, ∀ k, x.1 = some k → k.length ≤ 1048576) (hn : its.length ≤ 1048576) (hc : (its.map cst).sum ≤ 900000000) :
    ∀ (rest pre : List IK) (P : List IW) (J : Nat), its = pre ++ rest → P.map ik = pre → (∀ p ∈ P, Sp [] h' p.2.1 p.2.2) → rest.length + 1048600 ≤ J → (itsW [] P).length + (rest.map cst).sum ≤ (its.map cst).sum →
      ∃ ps : List IW, f355_l95 v (f355 K) J (c0 :: itsW [] P) ((pre.length : Nat) : Int) = some (.b0 (c0 :: itsW [] ps)) ∧ ps.map ik = its ∧ (∀ p ∈ ps, Sp [] h' p.2.1 p.2.2) ∧ (itsW [] ps).length ≤ (its.map cst).sum ∧
        ∀ y : List UInt8, y.length + 2 + (its.map cst).sum ≤ 2000000000 → f423_l116 v (f423 K) J (y ++ c0 :: itsW [] P) ((pre.length : Nat) : Int) = some (.b0 (y ++ c0 :: itsW [] ps)) := by
  have hul : v.fL.length = its.length := by rw [hfl, List.length_map, ← hit, List.length_map]
  intro rest
  induction rest with
  | nil =>
    intro pre P J e hP hS hJ hb
    obtain ⟨J, rfl⟩ : ∃ j, J = j + 1 := ⟨J - 1, by omega⟩
    have hl : its.length = pre.length := by rw [e]; simp
    refine ⟨P, by rw [f355_l95, cdn (by omega)], by rw [hP, e]; simp, hS, by simpa using hb, fun y hy => by rw [f423_l116, cdn (by omega)]⟩
  | cons x r ih =>
    intro pre P J e hP hS hJ hb
    rw [List.length_cons] at hJ
    obtain ⟨J, rfl⟩ : ∃ j, J = j + 1 := ⟨J - 1, by omega⟩
    have hl : its.length = pre.length + (r.length + 1) := by rw [e]; simp
    have hx : x ∈ its := by rw [e]; simp
    obtain ⟨t, t1, t2, t3, t4⟩ := hT x hx
    have hil := itW_len (g := []) (by simp) x t t3
    have hkx := hkl x hx
    have hPl : P.length = pre.length := by rw [← hP, List.length_map]
    rw [List.map_cons, List.sum_cons] at hb
    have htl : t.length ≤ 1000000000 := by
      have : 100 * jbk x.2 ≤ cst x := by unfold cst; omega
      omega
    have e2 : its = (pre ++ [x]) ++ r := by rw [e]; simp
    have hS2 : ∀ p ∈ P ++ [((x.1, x.2, t) : IW)], Sp [] h' p.2.1 p.2.2 := by
      intro p hp
      rcases List.mem_append.1 hp with hp | hp
      · exact hS p hp
      · rw [List.mem_singleton.1 hp]; exact t2
    have hs := itsW_snoc [] P (x.1, x.2, t)
    have hlen2 : (itsW [] (P ++ [((x.1, x.2, t) : IW)])).length + (r.map cst).sum ≤ (its.map cst).sum := by
      rw [hs]
      simp only [List.length_append]
      split
      · rw [List.length_nil]; omega
      · rw [List.length_cons, List.length_nil]; omega
    obtain ⟨ps, p1, p2, p3, p4, p5⟩ := ih (pre ++ [x]) (P ++ [((x.1, x.2, t) : IW)]) J e2 (by rw [List.map_append, hP]; rfl) hS2 (by omega) hlen2
    have hpa : TJson.dec (rtE (rd v.fL ((pre.length : Nat) : Int))) = some x.2 := by
      have := part_at v (pre.map (·.2)) (r.map (·.2)) x.2 (by rw [hfl, ← hit, e]; simp)
      rwa [List.length_map] at this
    rw [List.length_append] at p1 p5
    have hPc : (itsW [] P).length ≤ 900000000 := by omega
    refine ⟨ps, ?_, p2, p3, p4, fun y hy => ?_⟩
    · rw [f355_l95, cdp (by omega)]
      by_cases h0 : pre.length = 0
      · have hP0 : P = [] := List.length_eq_zero_iff.1 (by omega)
        rw [cdn (by omega), ref_step v K J q _ us its pre r x _ t hfl hk hit hks hno e t1 (fun k hk => by have := hkx k hk; omega) (fun k hk => by have := hkx k hk; omega) hn (by rw [List.length_cons]; omega) htl]
        rw [hs, if_pos hP0, List.append_nil] at p1
        exact p1
      · have hP0 : ¬ P = [] := fun h => h0 (by rw [← hPl, h]; rfl)
        rw [cdp (by omega), gdp (by simp only [List.length_cons, List.length_nil]; omega), ref_step v K J q _ us its pre r x _ t hfl hk hit hks hno e t1 (fun k hk => by have := hkx k hk; omega) (fun k hk => by have := hkx k hk; omega) hn (by simp only [List.length_append, List.length_cons, List.length_nil]; omega) htl]
        rw [hs, if_neg hP0] at p1
        exact p1
    · have p5 := p5 y hy
      rw [f423_l116, cdp (by omega), gdp (by omega), hpa, Option.bind_some]
      by_cases h0 : pre.length = 0
      · have hP0 : P = [] := List.length_eq_zero_iff.1 (by omega)
        rw [cdn (by omega), prog_step v K J q _ us its pre r x _ t hfl hk hit hks hno e t4 (fun k hk => by have := hkx k hk; omega) (fun k hk => by have := hkx k hk; omega) hn (by rw [List.length_append, List.length_cons]; omega)]
        rw [hs, if_pos hP0, List.append_nil] at p5
        rw [List.append_assoc]
        exact p5
      · have hP0 : ¬ P = [] := fun h => h0 (by rw [← hPl, h]; rfl)
        have hcx : (itsW [] P).length + 1 + cst x ≤ (its.map cst).sum + 1 := by omega
        rw [cdp (by omega), gdp (by simp only [List.length_append, List.length_cons, List.length_nil]; omega), prog_step v K J q _ us its pre r x _ t hfl hk hit hks hno e t4 (fun k hk => by have := hkx k hk; omega) (fun k hk => by have := hkx k hk; omega) hn (by simp only [List.length_append, List.length_cons, List.length_nil]; omega)]
        rw [hs, if_neg hP0] at p5
        have e5 : y ++ c0 :: itsW [] P ++ [44] ++ itW [] (x.1, x.2, t) = y ++ c0 :: (itsW [] P ++ [44] ++ itW [] (x.1, x.2, t)) := by simp
        rw [e5]
        exact p5
theorem many_pr (v : TJson) (K h' : Nat) (q : Bool) (us : List TJson) (its : List IK)
    (hfl : v.fL = us.map (RT.of TJson.ok)) (hk : v.fKind = cond q 7 6) (hit : its.map (·.2) = us) (hks : q = true → its.map (·.1) = v.fKeys.map some) (hno : q = false → ∀ x ∈ its, x.1 = none)
    (hT : ∀ x ∈ its, ∃ t, f355 K x.2 = some t ∧ Sp [] h' x.2 t ∧ t.length + 100 ≤ 100 * jbk x.2 ∧ ∀ z : List UInt8, z.length + 100 * jbk x.2 ≤ 2000000000 → f423 K z x.2 = some (z ++ t)) (hkl : ∀ x ∈ its, ∀ k, x.1 = some k → k.length ≤ 1048576) (hn : its.length ≤ 1048576) (hc : (its.map cst).sum ≤ 900000000) (hK : its.length + 1048600 ≤ K) :
    ∃ ps : List IW, f355 (K + 1) v = some (cond q 123 91 :: itsW [] ps ++ [cond q 125 93]) ∧ ps.map ik = its ∧ (∀ p ∈ ps, Sp [] h' p.2.1 p.2.2) ∧ (itsW [] ps).length ≤ (its.map cst).sum ∧
      ∀ y : List UInt8, y.length + 10 + (its.map cst).sum ≤ 2000000000 → f423 (K + 1) y v = some (y ++ (cond q 123 91 :: itsW [] ps ++ [cond q 125 93])) := by
  obtain ⟨ps, p1, p2, p3, p4, p5⟩ := pr_loop v K h' q us its (cond q 123 91) hfl hk hit hks hno hT hkl hn hc its [] [] K rfl rfl (fun p hp => (List.not_mem_nil hp).elim) hK (by simp [itsW])
  have p1 : f355_l95 v (f355 K) K [cond q 123 91] 0 = some (.b0 (cond q 123 91 :: itsW [] ps)) := p1
  refine ⟨ps, ?_, p2, p3, p4, fun y hy => ?_⟩
  · rw [f355]
    unfold f355_s
    cases q with
    | false =>
      have hk : v.fKind = 6 := hk
      rw [cdn (by omega), cdn (by omega), cdn (by omega), cdn (by omega), cdn (by omega), cdn (by omega)]
      unfold f355_j90
      show Option.bind (f355_l95 v (f355 K) K [91] 0) _ = _
      rw [show f355_l95 v (f355 K) K [91] 0 = _ from p1, Option.bind_some]
      show f355_j161 K v (91 :: itsW [] ps) = _
      unfold f355_j161
      rw [cdn (by omega), gdp (by simp only [List.length_cons, List.length_nil]; omega)]
      rfl
    | true =>
      have hk : v.fKind = 7 := hk
      rw [cdn (by omega), cdn (by omega), cdn (by omega), cdn (by omega), cdn (by omega), cdp (by omega)]
      unfold f355_j90
      show Option.bind (f355_l95 v (f355 K) K [123] 0) _ = _
      rw [show f355_l95 v (f355 K) K [123] 0 = _ from p1, Option.bind_some]
      show f355_j161 K v (123 :: itsW [] ps) = _
      unfold f355_j161
      rw [cdp (by omega), gdp (by simp only [List.length_cons, List.length_nil]; omega)]
      rfl
  · have p5 := p5 y (by omega)
    have p5 : f423_l116 v (f423 K) K (y ++ [cond q 123 91]) 0 = some (.b0 (y ++ cond q 123 91 :: itsW [] ps)) := p5
    have j99 : f423_j99 K y v (f423 K) [cond q 123 91, cond q 125 93] = some (y ++ (cond q 123 91 :: itsW [] ps ++ [cond q 125 93])) := by
      unfold f423_j99
      show gd ((0 : Int) ≤ 0 ∧ (0 : Int) < 2) (gd ((y.length + 1) * 2 * 1 ≤ 281474976710656) (Option.bind (f423_l116 v (f423 K) K (y ++ [cond q 123 91]) 0) _)) = _
      rw [gdp (by decide), gdp (by omega), p5, Option.bind_some]
      show f423_j182 K [cond q 123 91, cond q 125 93] (y ++ cond q 123 91 :: itsW [] ps) = _
      unfold f423_j182
      show gd ((0 : Int) ≤ 1 ∧ (1 : Int) < 2) (gd (((y ++ cond q 123 91 :: itsW [] ps).length + 1) * 2 * 1 ≤ 281474976710656) (some ((y ++ cond q 123 91 :: itsW [] ps) ++ [cond q 125 93]))) = _
      rw [gdp (by decide), gdp (by simp only [List.length_append, List.length_cons]; omega)]
      simp
    rw [f423]
    unfold f423_s
    cases q with
    | false =>
      have hk : v.fKind = 6 := hk
      rw [cdn (by omega), cdn (by omega), cdn (by omega), cdn (by omega), cdn (by omega), cdn (by omega)]
      exact j99
    | true =>
      have hk : v.fKind = 7 := hk
      rw [cdn (by omega), cdn (by omega), cdn (by omega), cdn (by omega), cdn (by omega), cdp (by omega)]
      exact j99
theorem print_both (h : Nat) (v : TJson) (hr : JR h v) : Sm v → ∀ K, jbk v + 1100000 ≤ K → jbk v ≤ 1048576 → ∃ t, f355 K v = some t ∧ Sp [] h v t ∧ t.length + 100 ≤ 100 * jbk v ∧ ∀ y : List UInt8, y.length + 100 * jbk v ≤ 2000000000 → f423 K y v = some (y ++ t) := by
  induction hr with
  | lit h k hk =>
    intro _ K hK hv
    obtain ⟨K, rfl⟩ : ∃ j, K = j + 1 := ⟨K - 1, by omega⟩
    have hb := jbk_eq ⟨k, [], [], []⟩ [] rfl
    have hl : (wd k).length ≤ 5 := by rcases hk with rfl | rfl | rfl <;> decide
    have hs : Sp [] h ⟨k, [], [], []⟩ (wd k) := by
      have := Sp.lit (g := []) h k hk
      rw [List.append_nil, List.nil_append] at this
      exact this
    have hb : jbk ⟨k, [], [], []⟩ = 5 := hb
    refine ⟨wd k, ?_, hs, by omega, fun y hy => ?_⟩
    · rcases hk with rfl | rfl | rfl <;> rfl
    · have hg : (y.length + 5) * 2 * 1 ≤ 281474976710656 := by omega
      have hg4 : (y.length + 4) * 2 * 1 ≤ 281474976710656 := by omega
      rcases hk with rfl | rfl | rfl
      · show gd ((y.length + 4) * 2 * 1 ≤ 281474976710656) (some (y ++ wd 1)) = _
        rw [gdp hg4]
      · show gd ((y.length + 5) * 2 * 1 ≤ 281474976710656) (some (y ++ wd 2)) = _
        rw [gdp hg]
      · show gd ((y.length + 4) * 2 * 1 ≤ 281474976710656) (some (y ++ wd 3)) = _
        rw [gdp hg4]
  | num h t ht =>
    intro hs K hK hv
    obtain ⟨K, rfl⟩ : ∃ j, K = j + 1 := ⟨K - 1, by omega⟩
    have hb := jbk_eq ⟨4, t, [], []⟩ [] rfl
    have hb : jbk ⟨4, t, [], []⟩ = 5 + t.length + 0 + 0 := hb
    have hp : Sp [] h ⟨4, t, [], []⟩ t := by
      have := Sp.num (g := []) h t ht
      rw [List.append_nil, List.nil_append] at this
      exact this
    refine ⟨t, rfl, hp, by omega, fun y hy => ?_⟩
    show gd ((y.length + t.length) * 2 * 1 ≤ 281474976710656) (some (y ++ t)) = _
    rw [gdp (by omega)]
  | str h t ht =>
    intro hs K hK hv
    obtain ⟨K, rfl⟩ : ∃ j, K = j + 1 := ⟨K - 1, by omega⟩
    have hb := jbk_eq ⟨5, t, [], []⟩ [] rfl
    have hb : jbk ⟨5, t, [], []⟩ = 5 + t.length + 0 + 0 := hb
    have hq := quo_len t
    have hp : Sp [] h ⟨5, t, [], []⟩ (quo t) := by
      have := Sp.str (g := []) h t ht
      rw [List.append_nil, List.nil_append] at this
      exact this
    refine ⟨quo t, ?_, hp, by omega, fun y hy => ?_⟩
    · show Option.bind (f356 K t) _ = _
      rw [quote_at K t (by omega) (by omega)]
      rfl
    · show Option.bind (f424 K y t) _ = _
      rw [quoted_at K y t (by omega) (by omega) (by omega)]
      rfl
  | arr h us hu ih =>
    intro hs K hK hv
    obtain ⟨K, rfl⟩ : ∃ j, K = j + 1 := ⟨K - 1, by omega⟩
    have hb := jbk_eq ⟨6, [], us.map (RT.of TJson.ok), []⟩ us rfl
    simp only [List.length_nil, List.map_nil, List.sum_nil] at hb
    obtain ⟨s1, s2⟩ := sum_ge us
    have hsm : ∀ u ∈ us, Sm u := by
      cases hs with
      | mk _ us2 h2 _ _ hw => rw [rt_inj us us2 h2]; exact hw
    obtain ⟨its, hits⟩ : ∃ its : List IK, its = us.map fun u => (none, u) := ⟨_, rfl⟩
    have hit : its.map (·.2) = us := by rw [hits, List.map_map]; exact List.map_id' us
    have hil : its.length = us.length := by rw [hits, List.length_map]
    have hno : ∀ x ∈ its, x.1 = none := by
      intro x hx
      rw [hits] at hx
      obtain ⟨u, _, rfl⟩ := List.mem_map.1 hx
      rfl
    have hcs := cst_arr us
    rw [← hits] at hcs
    have hmem : ∀ x ∈ its, x.2 ∈ us := fun x hx => by rw [← hit]; exact List.mem_map_of_mem hx
    obtain ⟨ps, p1, p2, p3, p4, p5⟩ := many_pr ⟨6, [], us.map (RT.of TJson.ok), []⟩ K h false us its rfl rfl hit (fun h => by cases h) (fun _ => hno) (fun x hx => by
      have := s2 _ (hmem x hx)
      exact ih _ (hmem x hx) (hsm _ (hmem x hx)) K (by omega) (by omega)) (fun x hx k hk => by rw [hno x hx] at hk; cases hk) (by omega) (by omega) (by omega)
    have eu : us.map (RT.of TJson.ok) = ps.map fun p => RT.of TJson.ok p.2.1 := by
      rw [← hit, ← p2, List.map_map, List.map_map]
      rfl
    refine ⟨_, p1, ?_, ?_, fun y hy => p5 y (by omega)⟩
    · rw [eu]
      have := Sp.arr (g := []) h ps (fun p hp => by
        have : ik p ∈ its := by rw [← p2]; exact List.mem_map_of_mem hp
        exact hno _ this) p3
      simpa using this
    · simp only [List.length_append, List.length_cons, List.length_nil]
      omega
  | obj h us ks hl hn hva hu ih =>
    intro hs K hK hv
    obtain ⟨K, rfl⟩ : ∃ j, K = j + 1 := ⟨K - 1, by omega⟩
    have hb := jbk_eq ⟨7, [], us.map (RT.of TJson.ok), ks⟩ us rfl
    simp only [List.length_nil] at hb
    obtain ⟨s1, s2⟩ := sum_ge us
    obtain ⟨k1, k2⟩ := keys_ge ks
    have hk3 : ks.length ≤ 30000 := by cases hs with | mk _ _ _ _ h _ => exact h
    have hsm : ∀ u ∈ us, Sm u := by
      cases hs with
      | mk _ us2 h2 _ _ hw => rw [rt_inj us us2 h2]; exact hw
    obtain ⟨its, hits⟩ : ∃ its : List IK, its = (ks.map some).zip us := ⟨_, rfl⟩
    have hit : its.map (·.2) = us := by rw [hits]; exact List.map_snd_zip (by rw [List.length_map]; omega)
    have hik : its.map (·.1) = ks.map some := by rw [hits]; exact List.map_fst_zip (by rw [List.length_map]; omega)
    have hil : its.length = us.length := by rw [← hit, List.length_map]
    have hcs := cst_obj its us ks hit hik
    have hmem : ∀ x ∈ its, x.2 ∈ us := fun x hx => by rw [← hit]; exact List.mem_map_of_mem hx
    obtain ⟨ps, p1, p2, p3, p4, p5⟩ := many_pr ⟨7, [], us.map (RT.of TJson.ok), ks⟩ K h true us its rfl rfl hit (fun _ => hik) (fun h => by cases h) (fun x hx => by
      have := s2 _ (hmem x hx)
      exact ih _ (hmem x hx) (hsm _ (hmem x hx)) K (by omega) (by omega)) (fun x hx k hk => by
        have h1 : x.1 ∈ its.map (·.1) := List.mem_map_of_mem hx
        rw [hik, hk] at h1
        obtain ⟨k', h2, h3⟩ := List.mem_map.1 h1
        cases h3
        have := k2 _ h2
        omega) (by omega) (by omega) (by omega)
    have eu : us.map (RT.of TJson.ok) = ps.map fun p => RT.of TJson.ok p.2.1 := by
      rw [← hit, ← p2, List.map_map, List.map_map]
      rfl
    refine ⟨_, p1, ?_, ?_, fun y hy => p5 y (by omega)⟩
    · rw [eu]
      have := Sp.obj (g := []) h ks ps (by rw [← hik, ← p2, List.map_map]; rfl) hk3 hn hva p3
      simpa using this
    · simp only [List.length_append, List.length_cons, List.length_nil]
      omega
end Go.Proofs.Abs
