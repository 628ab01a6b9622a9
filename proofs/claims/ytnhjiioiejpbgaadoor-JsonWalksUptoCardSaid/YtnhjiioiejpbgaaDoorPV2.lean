/- JsonWalks: told to stop it stops; the law. -/
import Derived.Test.YtnhjiioiejpbgaaDoorPV1
set_option linter.unusedSimpArgs false
namespace Go.Proofs.Abs
open Go
set_option linter.unusedVariables false
set_option maxRecDepth 100000
/-- walked by one who stops -/
theorem stops_at (v : TJson) (hw : TJson.Wf v) : ∀ (n K : Nat) (d c m : Int), jbk v ≤ n → jbk v + 20 ≤ K → jbk v ≤ 1048576 → 0 ≤ d → d + jbk v ≤ 3000000 → 0 ≤ c → c < m → m ≤ 3000000 →
    f477v3 K v d c m = some (if c + (((fl n d v).length : Nat) : Int) < m then (true, c + (((fl n d v).length : Nat) : Int)) else (false, m)) := by
  induction hw with
  | mk v us hk hfl hw ih =>
    intro n K d c m hn hK hv h0 hd hc hcm hm
    have hb := jbk_eq v us hfl
    obtain ⟨n, rfl⟩ : ∃ j, n = j + 1 := ⟨n - 1, by omega⟩
    obtain ⟨K, rfl⟩ : ∃ j, K = j + 1 := ⟨K - 1, by omega⟩
    obtain ⟨s1, s2⟩ := sum_ge us
    have hl : v.fL.length = us.length := by rw [hfl, List.length_map]
    have hown := own_v v (.mk v us hk hfl hw) K (by omega) (by omega)
    have efl : fl (n + 1) d v = (d, v) :: us.flatMap (fl n (d + 1)) := by rw [fl, parts_eq v us hfl]
    rw [efl, List.length_cons]
    have loop : ∀ (rest pre : List TJson) (y : Int) (J : Nat), us = pre ++ rest → rest.length + 1 ≤ J → 0 ≤ y → y < m →
        f477v3_l31 v (f477v3 K) d m J ((pre.length : Nat) : Int) y = some (if y + (((rest.flatMap (fl n (d + 1))).length : Nat) : Int) < m then LR2.b0 (y + (((rest.flatMap (fl n (d + 1))).length : Nat) : Int)) else .r (false, m)) := by
      intro rest
      induction rest with
      | nil =>
        intro pre y J e hJ hy0 hym
        obtain ⟨J, rfl⟩ : ∃ j, J = j + 1 := ⟨J - 1, by omega⟩
        have e' : us = pre := by rw [e]; simp
        rw [f477v3_l31, cdn (by rw [hl, e']; omega)]
        show some (LR2.b0 y) = some (if y + 0 < m then LR2.b0 (y + 0) else .r (false, m))
        rw [if_pos (by omega), Int.add_zero]
      | cons u t iht =>
        intro pre y J e hJ hy0 hym
        rw [List.length_cons] at hJ
        obtain ⟨J, rfl⟩ : ∃ j, J = j + 1 := ⟨J - 1, by omega⟩
        have hlen : us.length = pre.length + (t.length + 1) := by rw [e]; simp
        have hu : u ∈ us := by rw [e]; simp
        have hs := s2 u hu
        have hi := ih u hu n K (d + 1) y m (by omega) (by omega) (by omega) (by omega) (by omega) (by omega) (by omega) (by omega)
        rw [f477v3_l31, cdp (by omega), gdp (by omega), part_at v pre t u (by rw [hfl, e]), Option.bind_some, i64w (n := d + 1) (by omega), List.flatMap_cons, List.length_append]
        show Option.bind (f477v3 K u (d + 1) y m) _ = _
        rw [hi, Option.bind_some]
        by_cases h1 : y + (((fl n (d + 1) u).length : Nat) : Int) < m
        · rw [if_pos h1]
          show cond false _ (f477v3_l31 v (f477v3 K) d m J (IntKind.i64.wrap (((pre.length : Nat) : Int) + 1)) (y + (((fl n (d + 1) u).length : Nat) : Int))) = _
          rw [cond_false, i64w (n := ((pre.length : Nat) : Int) + 1) (by omega)]
          have := iht (pre ++ [u]) (y + (((fl n (d + 1) u).length : Nat) : Int)) J (by rw [e]; simp) (by omega) (by omega) h1
          rw [List.length_append] at this
          refine this.trans ?_
          rw [show y + (((fl n (d + 1) u).length : Nat) : Int) + (((t.flatMap (fl n (d + 1))).length : Nat) : Int) = y + (((fl n (d + 1) u).length + (t.flatMap (fl n (d + 1))).length : Nat) : Int) by omega]
        · rw [if_neg h1, if_neg (by omega)]
          rfl
    rw [f477v3]
    unfold f477v3_s
    show Option.bind (f441 K v) _ = _
    rw [hown, Option.bind_some]
    show Option.bind (some ()) (fun r14 => cond (!(decide ((IntKind.i64.wrap (c + (1 : Int))) < m))) (some (false, (IntKind.i64.wrap (c + (1 : Int))))) (Option.bind (f477v3_l31 v (f477v3 K) d m K (0 : Int) (IntKind.i64.wrap (c + (1 : Int)))) _)) = _
    rw [Option.bind_some, i64w (n := c + 1) (by omega)]
    by_cases h1 : c + 1 < m
    · have lp := loop us [] (c + 1) K rfl (by omega) (by omega) h1
      have lp : f477v3_l31 v (f477v3 K) d m K 0 (c + 1) = _ := lp
      rw [decide_eq_true h1, Bool.not_true, cond_false, lp, Option.bind_some]
      by_cases h2 : c + 1 + (((us.flatMap (fl n (d + 1))).length : Nat) : Int) < m
      · rw [if_pos h2, if_pos (by omega), show c + (((us.flatMap (fl n (d + 1))).length + 1 : Nat) : Int) = c + 1 + (((us.flatMap (fl n (d + 1))).length : Nat) : Int) by omega]
      · rw [if_neg h2, if_neg (by omega)]
    · rw [decide_eq_false h1, Bool.not_false, cond_true, if_neg (by omega), show c + 1 = m by omega]
theorem ints_same (a : List Int) (hn : a.length ≤ 3000000) : ∀ (rest pre : List Int) (K : Nat), a = pre ++ rest → rest.length + 1 ≤ K → f479_l26 a a K ((pre.length : Nat) : Int) = some (.b0 ()) := by
  intro rest
  induction rest with
  | nil =>
    intro pre K e hK
    obtain ⟨K, rfl⟩ : ∃ j, K = j + 1 := ⟨K - 1, by omega⟩
    rw [f479_l26, cdn (by rw [e]; simp)]
  | cons x t ih =>
    intro pre K e hK
    rw [List.length_cons] at hK
    obtain ⟨K, rfl⟩ : ∃ j, K = j + 1 := ⟨K - 1, by omega⟩
    have hl : a.length = pre.length + (t.length + 1) := by rw [e]; simp
    rw [f479_l26, cdp (by omega), gdp (by omega), gdp (by omega)]
    show Option.bind (some ()) _ = _
    rw [Option.bind_some, decide_eq_true rfl]
    show cond false _ _ = _
    rw [cond_false, i64w (by omega)]
    have := ih (pre ++ [x]) K (by rw [e]; simp) (by omega)
    rw [List.length_append] at this
    exact this
theorem ints_at (K : Nat) (a : List Int) (hn : a.length ≤ 3000000) (hK : a.length + 1 ≤ K) : f478 K a a = some true := by
  unfold f478 f479
  rw [cdn (by simp)]
  have := ints_same a hn a [] K rfl hK
  have this : f479_l26 a a K 0 = some (.b0 ()) := this
  rw [this]
  rfl
theorem sm_inv {v : TJson} (h : Sm v) : ∃ us : List TJson, v.fL = us.map (RT.of TJson.ok) ∧ v.fKeys.length ≤ 2000 ∧ ∀ u ∈ us, Sm u := by
  cases h with
  | mk _ us h1 h2 h3 h4 => exact ⟨us, h1, h3, h4⟩
theorem same_list : ∀ (M : Nat) (us : List TJson) (K : Nat), (∀ u ∈ us, Sm u ∧ jbk u ≤ M) → us.length ≤ 1048576 → M ≤ 1048576 → M + 1100000 ≤ K → f438 K (us.map (RT.of TJson.ok)) (us.map (RT.of TJson.ok)) = some true := by
  intro M
  induction M with
  | zero =>
    intro us K h hn hM hK
    obtain ⟨K, rfl⟩ : ∃ j, K = j + 2 := ⟨K - 2, by omega⟩
    cases us with
    | nil => rfl
    | cons u t =>
      have := (h u (List.mem_cons_self ..)).2
      have := jbk_pos u
      omega
  | succ M ih =>
    intro us K h hn hM hK
    obtain ⟨K, rfl⟩ : ∃ j, K = j + 1 := ⟨K - 1, by omega⟩
    have one : ∀ (u : TJson) (J : Nat), u ∈ us → 3000 ≤ J → f437 (f438 K) J u u = some true := by
      intro u J hu hJ
      obtain ⟨hs, hj⟩ := h u hu
      obtain ⟨ws, w1, w2, w3⟩ := sm_inv hs
      have hb := jbk_eq u ws w1
      obtain ⟨s1, s2⟩ := sum_ge ws
      have hi := ih ws K (fun w hw => ⟨w3 w hw, by have := s2 w hw; omega⟩) (by omega) (by omega) (by omega)
      unfold f437
      rw [cdp rfl, cdp rfl, w1, hi, Option.bind_some, cond_true, same_at J u.fKeys (by omega) (by omega)]
      rfl
    have loop : ∀ (rest pre : List TJson) (J : Nat), us = pre ++ rest → rest.length + 3002 ≤ J → f438_l26 (us.map (RT.of TJson.ok)) (us.map (RT.of TJson.ok)) (f438 K) J ((pre.length : Nat) : Int) = some (.b0 ()) := by
      intro rest
      induction rest with
      | nil =>
        intro pre J e hJ
        obtain ⟨J, rfl⟩ : ∃ j, J = j + 1 := ⟨J - 1, by omega⟩
        rw [f438_l26, cdn (by rw [e]; simp)]
      | cons x t iht =>
        intro pre J e hJ
        rw [List.length_cons] at hJ
        obtain ⟨J, rfl⟩ : ∃ j, J = j + 1 := ⟨J - 1, by omega⟩
        have hlen : us.length = pre.length + (t.length + 1) := by rw [e]; simp
        have hp := part_at ⟨0, [], us.map (RT.of TJson.ok), []⟩ pre t x (by show us.map (RT.of TJson.ok) = _; rw [e])
        have hp : TJson.dec (rtE (rd (us.map (RT.of TJson.ok)) ((pre.length : Nat) : Int))) = some x := hp
        have hx := one x J (by rw [e]; simp) (by omega)
        rw [f438_l26, cdp (by rw [List.length_map]; omega), gdp (by rw [List.length_map]; omega), hp, Option.bind_some, gdp (by rw [List.length_map]; omega), Option.bind_some, hx, Option.bind_some]
        show cond false _ _ = _
        rw [cond_false, i64w (by omega)]
        have := iht (pre ++ [x]) J (by rw [e]; simp) (by omega)
        rw [List.length_append] at this
        exact this
    have lp := loop us [] K rfl (by omega)
    have lp : f438_l26 (us.map (RT.of TJson.ok)) (us.map (RT.of TJson.ok)) (f438 K) K 0 = some (.b0 ()) := lp
    rw [f438]
    unfold f438_s
    rw [cdn (by simp), lp]
    rfl
theorem fl_sm (v : TJson) (hs : Sm v) : ∀ (n : Nat) (d : Int), ∀ x ∈ fl n d v, Sm x.2 ∧ jbk x.2 ≤ jbk v := by
  induction hs with
  | mk v us hfl ht hk hw ih =>
    intro n d x hx
    have hb := jbk_eq v us hfl
    obtain ⟨s1, s2⟩ := sum_ge us
    have hsv : Sm v := .mk v us hfl ht hk hw
    cases n with
    | zero =>
      rw [fl] at hx
      rw [List.mem_singleton.1 hx]
      exact ⟨hsv, Nat.le_refl _⟩
    | succ n =>
      rw [fl, parts_eq v us hfl] at hx
      rcases List.mem_cons.1 hx with rfl | hx
      · exact ⟨hsv, Nat.le_refl _⟩
      · obtain ⟨u, hu, hxu⟩ := List.mem_flatMap.1 hx
        obtain ⟨h1, h2⟩ := ih u hu n (d + 1) x hxu
        have := s2 u hu
        exact ⟨h1, by omega⟩
theorem awake_jv (k : Nat) : f395 (k + 40) = some true := by kernel_rfl
theorem law_JsonWalks (a0 : TJson) (a1 : Int) (w0 : TJson.Wf a0) (w1 : -9223372036854775808 ≤ a1 ∧ a1 ≤ 9223372036854775807) (hb : D.bk (TJson.enc a0) + 1 ≤ 1048576) : ∃ k, f415 k a0 a1 = some true := by
  suffices h : ∀ K, 6000000 ≤ K → f415 K a0 a1 = some true from ⟨6000000, h _ (Nat.le_refl _)⟩
  intro K hK
  have hj : jbk a0 ≤ 1048576 := by unfold jbk; omega
  have ha : f395 K = some true := by
    obtain ⟨j, rfl⟩ : ∃ j, K = j + 40 := ⟨K - 40, by omega⟩
    exact awake_jv j
  unfold f415
  obtain ⟨b, a2, s1, s2⟩ := small_def a0 w0 K 2000 (by omega) hj (by omega) (by omega)
  have e1 : f408 K a0 2000 = some b := by
    unfold f408
    show Option.bind (f409 K a0 2000) _ = _
    rw [s1]
    rfl
  show Option.bind (f408 K a0 2000) _ = _
  rw [e1, ha, Option.bind_some]
  cases b with
  | false => rfl
  | true =>
    obtain ⟨_, _, sm⟩ := s2 rfl
    obtain ⟨F, hF⟩ : ∃ F, F = fl (jbk a0) 0 a0 := ⟨_, rfl⟩
    have hlen := fl_len a0 w0 (jbk a0) 0 (Nat.le_refl _)
    have hfl := flat_all a0 w0 (jbk a0) K 0 (Nat.le_refl _) (by omega) hj (by omega) (by omega)
    have hwk := walk_first a0 w0 (jbk a0) K (((fl (jbk a0) 0 a0).length : Nat) : Int) (Nat.le_refl _) (by omega) hj (by omega)
    have hst := fun m (h : 0 < m) (hm : m ≤ 3000000) => stops_at a0 w0 (jbk a0) K 0 0 m (Nat.le_refl _) (by omega) hj (by omega) (by omega) (by omega) h hm
    have hsm := fl_sm a0 sm (jbk a0) 0
    rw [← hF] at hlen hfl hwk hst hsm
    have h76 : f476 K a0.fKind a0.fText a0.fL a0.fKeys ((F.length : Nat) : Int) = some (dsOf F, vsOf F, true) := by
      unfold f476 f444
      show Option.bind (Option.bind (f477 K a0 0 ((F.length : Nat) : Int) false) _) _ = _
      rw [hwk]
      rfl
    have h78 : f478 K (dsOf F) (dsOf F) = some true := ints_at K (dsOf F) (by rw [List.length_map]; omega) (by rw [List.length_map]; omega)
    have h38 : f438 K (vsOf F) (vsOf F) = some true := by
      have e : vsOf F = (F.map (·.2)).map (RT.of TJson.ok) := by rw [List.map_map]; rfl
      rw [e]
      exact same_list (jbk a0) (F.map (·.2)) K (fun u hu => by
        obtain ⟨x, hx, rfl⟩ := List.mem_map.1 hu
        exact hsm x hx) (by rw [List.length_map]; omega) hj (by omega)
    have hdl : (dsOf F).length = F.length := List.length_map ..
    have hw : 0 ≤ IntKind.u64.wrap a1 := by
      simp only [IntKind.wrap, IntKind.signed, IntKind.bits]
      simp
      omega
    have hu : IntKind.u64.wrap (IntKind.i64.wrap (((F.length : Nat) : Int) + 1)) = ((F.length + 1 : Nat) : Int) := by rw [i64w (by omega), u64w (by omega)]; omega
    obtain ⟨x, hx, hxl⟩ : ∃ x : Nat, Int.tmod (IntKind.u64.wrap a1) ((F.length + 1 : Nat) : Int) = (x : Int) ∧ x < F.length + 1 := by
      have h1 := Int.tmod_eq_emod_of_nonneg (b := ((F.length + 1 : Nat) : Int)) hw
      have h2 := Int.emod_nonneg (IntKind.u64.wrap a1) (b := ((F.length + 1 : Nat) : Int)) (by omega)
      have h3 := Int.emod_lt_of_pos (IntKind.u64.wrap a1) (b := ((F.length + 1 : Nat) : Int)) (by omega)
      exact ⟨(Int.emod (IntKind.u64.wrap a1) ((F.length + 1 : Nat) : Int)).toNat, by rw [h1]; exact (Int.toNat_of_nonneg h2).symm, by have := Int.toNat_of_nonneg h2; show Int.toNat (IntKind.u64.wrap a1 % ((F.length + 1 : Nat) : Int)) < _; omega⟩
    have hn : IntKind.i64.wrap (1 + IntKind.i64.wrap (Int.tmod (IntKind.u64.wrap a1) (IntKind.u64.wrap (IntKind.i64.wrap (((F.length : Nat) : Int) + 1))))) = ((x + 1 : Nat) : Int) := by
      rw [hu, hx, i64w (n := (x : Int)) (by omega), i64w (by omega)]
      omega
    have h81 : f481 K a0.fKind a0.fText a0.fL a0.fKeys ((x + 1 : Nat) : Int) = some (min ((x + 1 : Nat) : Int) ((F.length : Nat) : Int)) := by
      unfold f481 f444v2
      rw [cdn (by omega)]
      show Option.bind (Option.bind (f477v3 K a0 0 0 ((x + 1 : Nat) : Int)) _) _ = _
      rw [hst _ (by omega) (by omega)]
      by_cases h : (0 : Int) + ((F.length : Nat) : Int) < ((x + 1 : Nat) : Int)
      · rw [if_pos h, Option.bind_some, Option.bind_some]
        congr 1
        show (0 : Int) + ((F.length : Nat) : Int) = _
        rw [Int.min_def, if_neg (by omega)]
        omega
      · rw [if_neg h, Option.bind_some, Option.bind_some]
        congr 1
        show ((x + 1 : Nat) : Int) = _
        rw [Int.min_def, if_pos (by omega)]
    show cond false _ (Option.bind (some ()) fun r25 => Option.bind (f445 K a0 0) fun r31 => gd ((IntKind.u64.wrap (IntKind.i64.wrap (((r31.1.length : Nat) : Int) + (1 : Int)))) ≠ 0) (Option.bind (f476 K a0.fKind a0.fText a0.fL a0.fKeys ((r31.1.length : Nat) : Int)) fun r56 => Option.bind (some true) fun r68 => cond (!r68) (some false) (cond (!r56.2.2) (some false) (Option.bind (f478 K r31.1 r56.1) fun r77 => cond (!r77) (some false) (Option.bind (f438 K r31.2 r56.2.1) fun r83 => cond (!r83) (some false) (Option.bind (f476 K a0.fKind a0.fText a0.fL a0.fKeys ((r31.1.length : Nat) : Int)) fun r99 => cond r99.2.2 (Option.bind (f481 K a0.fKind a0.fText a0.fL a0.fKeys (IntKind.i64.wrap ((1 : Int) + (IntKind.i64.wrap (Int.tmod (IntKind.u64.wrap a1) (IntKind.u64.wrap (IntKind.i64.wrap (((r31.1.length : Nat) : Int) + (1 : Int))))))))) fun r114 => some (decide (r114 = (min (IntKind.i64.wrap ((1 : Int) + (IntKind.i64.wrap (Int.tmod (IntKind.u64.wrap a1) (IntKind.u64.wrap (IntKind.i64.wrap (((r31.1.length : Nat) : Int) + (1 : Int)))))))) ((r31.1.length : Nat) : Int))))) (some false))))))) = _
    rw [cond_false, Option.bind_some, hfl, Option.bind_some]
    dsimp only
    rw [hdl, gdp (by rw [hu]; omega), h76, Option.bind_some, Option.bind_some, Bool.not_true, cond_false, cond_false, h78, Option.bind_some, Bool.not_true, cond_false, h38, Option.bind_some, Bool.not_true, cond_false, Option.bind_some, cond_true, hn, h81, Option.bind_some, decide_eq_true rfl]
end Go.Proofs.Abs
