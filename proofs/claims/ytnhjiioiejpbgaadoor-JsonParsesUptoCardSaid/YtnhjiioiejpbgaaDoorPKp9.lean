/- Two parsers of json are alike: a value. -/
import Derived.Test.YtnhjiioiejpbgaaDoorPKp8
set_option linter.unusedSimpArgs false
namespace Go.Proofs.Abs
open Go
set_option linter.unusedVariables false
set_option maxRecDepth 100000
variable {s R : List UInt8} {n : Int} {c : UInt8} {ks : List (List UInt8)}
theorem word_yes (K : Nat) (a : List UInt8) (kd : Int) (h : At s n (a ++ R)) (hb : s.length ≤ 20000) : f399 K s n a kd = some (0, kd, n + ((a.length : Nat) : Int)) := by
  have hl := h.len
  rw [List.length_append] at hl
  unfold f399
  rw [i64w (by omega), cdn (by omega), i64w (by omega), gdp (by omega), h.slk a.length (by simp), List.take_left, decide_eq_false (by simp)]
  unfold f399_j43
  rw [cond_false, i64w (by omega)]
theorem word_no (K : Nat) (a : List UInt8) (kd : Int) (h : At s n R) (hb : s.length ≤ 20000) (ha : a.length ≤ 100) (hn : R.take a.length ≠ a) : f399 K s n a kd = some (4, 0, n) := by
  have hl := h.len
  unfold f399
  by_cases hr : a.length ≤ R.length
  · rw [i64w (by omega), cdn (by omega), i64w (by omega), gdp (by omega), h.slk a.length hr, decide_eq_true hn]
    rfl
  · rw [i64w (by omega), cdp (by omega)]
    rfl
theorem take_ne {a c : UInt8} {t w : List UInt8} (h : c ≠ a) : (c :: t).take (a :: w).length ≠ a :: w := by
  rw [List.length_cons, List.take_succ_cons]
  intro e
  exact h (List.cons.inj e).1
theorem tk4 {a c x y z : UInt8} {t : List UInt8} (h : c ≠ a) : (c :: t).take 4 ≠ [a, x, y, z] := take_ne (w := [x, y, z]) h
theorem tk5 {a c x y z q : UInt8} {t : List UInt8} (h : c ≠ a) : (c :: t).take 5 ≠ [a, x, y, z, q] := take_ne (w := [x, y, z, q]) h
/-- what stands there is no word: the number, or what has signs at both ends -/
theorem ref_rest (K : Nat) (d : Int) (rc) (h : At s n (c :: R)) (hb : s.length ≤ 20000) (h1 : (c :: R).take 4 ≠ [110, 117, 108, 108]) (h2 : (c :: R).take 5 ≠ [102, 97, 108, 115, 101]) (h3 : (c :: R).take 4 ≠ [116, 114, 117, 101]) (h4 : c ≠ 34) :
    ((f299 K s n 0 ([110, 117, 108, 108] : List UInt8)).bind fun r35 => cond r35.1 (some ((1 : Int), ([] : List UInt8), ([] : List (RT 4)), ([] : List (List UInt8)), r35.2, (0 : Int))) ((f299 K s r35.2 0 ([102, 97, 108, 115, 101] : List UInt8)).bind fun r48 => cond r48.1 (some ((2 : Int), ([] : List UInt8), ([] : List (RT 4)), ([] : List (List UInt8)), r48.2, (0 : Int))) ((f299 K s r48.2 0 ([116, 114, 117, 101] : List UInt8)).bind fun r61 => cond r61.1 (some ((3 : Int), ([] : List UInt8), ([] : List (RT 4)), ([] : List (List UInt8)), r61.2, (0 : Int))) ((f299 K s r61.2 0 ([34] : List UInt8)).bind fun r74 => cond r74.1 ((f300 K s r74.2 0).bind fun r81 => some ((5 : Int), r81.1, ([] : List (RT 4)), ([] : List (List UInt8)), r81.2.1, r81.2.2)) (gd (0 ≤ r74.2 ∧ r74.2 < ((s.length : Nat) : Int)) (cond (decide ((((s.getD (r74.2).toNat 0).toNat : Nat) : Int) = (91 : Int))) (f296_j111 K d s r74 0 rc true) (gd (0 ≤ r74.2 ∧ r74.2 < ((s.length : Nat) : Int)) (f296_j111 K d s r74 0 rc (decide ((((s.getD (r74.2).toNat 0).toNat : Nat) : Int) = (123 : Int)))))))))))
    = f296_j111 K d s (false, n) 0 rc (decide (c.toNat = 91) || decide (c.toNat = 123)) := by
  have hl := h.len
  rw [List.length_cons] at hl
  rw [ris_no K 0 [110, 117, 108, 108] h hb (by simp) h1, Option.bind_some]
  show cond false _ (Option.bind (f299 K s n 0 [102, 97, 108, 115, 101]) _) = _
  rw [cond_false, ris_no K 0 [102, 97, 108, 115, 101] h hb (by simp) h2, Option.bind_some]
  show cond false _ (Option.bind (f299 K s n 0 [116, 114, 117, 101]) _) = _
  rw [cond_false, ris_no K 0 [116, 114, 117, 101] h hb (by simp) h3, Option.bind_some]
  show cond false _ (Option.bind (f299 K s n 0 [34]) _) = _
  rw [cond_false, ris_1 K 0 34 h hb h4, Option.bind_some]
  show cond false _ (gd (0 ≤ n ∧ n < ((s.length : Nat) : Int)) (cond (decide ((((s.getD n.toNat 0).toNat : Nat) : Int) = (91 : Int))) (f296_j111 K d s (false, n) 0 rc true) (gd (0 ≤ n ∧ n < ((s.length : Nat) : Int)) (f296_j111 K d s (false, n) 0 rc (decide ((((s.getD n.toNat 0).toNat : Nat) : Int) = (123 : Int))))))) = _
  rw [cond_false, gdp (by omega), h.get]
  by_cases c1 : c.toNat = 91
  · rw [cdp (by omega), decide_eq_true c1]
    rfl
  · rw [cdn (by omega), gdp (by omega), decide_eq_false c1, Bool.false_or]
    congr 1
    rw [decide_eq_decide]
    omega
theorem value_eq (hb : s.length ≤ 20000) : ∀ (m : Nat) (R : List UInt8) (n : Int) (h J : Nat), R.length ≤ m → At s n R → h ≤ 64 → 2 * R.length + 20200 ≤ J → ValAt s J h R n := by
  intro m
  induction m with
  | zero =>
    intro R n h J hm hA hh hJ
    have hR0 : R = [] := List.length_eq_zero_iff.1 (by omega)
    subst hR0
    obtain ⟨K, rfl⟩ : ∃ j, J = j + 1 := ⟨J - 1, by omega⟩
    obtain ⟨n1, R1, h1, h2, wp, w, _⟩ := whites hb K hA (by simp; omega)
    have hR1 : R1 = [] := List.length_eq_zero_iff.1 (by simpa using h2)
    subst hR1
    have hl := h1.len
    rw [List.length_nil] at hl
    refine .inr ⟨4, by decide, ⟨0, [], [], [], n1, ?_⟩, 0, [], [], [], n1, [], ?_, h1, by simp⟩
    · rw [f397]
      unfold f397_s
      rw [wp, Option.bind_some, cdp (by omega)]
    · rw [f296]
      unfold f296_s
      rw [w 0, Option.bind_some, cdp (by omega)]
      rfl
  | succ m IH =>
    intro R n h J hm hA hh hJ
    obtain ⟨K, rfl⟩ : ∃ j, J = j + 1 := ⟨J - 1, by omega⟩
    obtain ⟨n1, R1, h1, h2, wp, w, _⟩ := whites hb K hA (by omega)
    have hl := h1.len
    match R1, h1, h2, hl with
    | [], h1, h2, hl =>
      rw [List.length_nil] at hl
      refine .inr ⟨4, by decide, ⟨0, [], [], [], n1, ?_⟩, 0, [], [], [], n1, [], ?_, h1, by simp⟩
      · rw [f397]
        unfold f397_s
        rw [wp, Option.bind_some, cdp (by omega)]
      · rw [f296]
        unfold f296_s
        rw [w 0, Option.bind_some, cdp (by omega)]
        rfl
    | c :: t, h1, h2, hl =>
      rw [List.length_cons] at hl h2
      have hc := c.toNat_lt
      have r0 : f296 (K + 1) s n 0 (64 - (h : Int)) = ((f299 K s n1 0 ([110, 117, 108, 108] : List UInt8)).bind fun r35 => cond r35.1 (some ((1 : Int), ([] : List UInt8), ([] : List (RT 4)), ([] : List (List UInt8)), r35.2, (0 : Int))) ((f299 K s r35.2 0 ([102, 97, 108, 115, 101] : List UInt8)).bind fun r48 => cond r48.1 (some ((2 : Int), ([] : List UInt8), ([] : List (RT 4)), ([] : List (List UInt8)), r48.2, (0 : Int))) ((f299 K s r48.2 0 ([116, 114, 117, 101] : List UInt8)).bind fun r61 => cond r61.1 (some ((3 : Int), ([] : List UInt8), ([] : List (RT 4)), ([] : List (List UInt8)), r61.2, (0 : Int))) ((f299 K s r61.2 0 ([34] : List UInt8)).bind fun r74 => cond r74.1 ((f300 K s r74.2 0).bind fun r81 => some ((5 : Int), r81.1, ([] : List (RT 4)), ([] : List (List UInt8)), r81.2.1, r81.2.2)) (gd (0 ≤ r74.2 ∧ r74.2 < ((s.length : Nat) : Int)) (cond (decide ((((s.getD (r74.2).toNat 0).toNat : Nat) : Int) = (91 : Int))) (f296_j111 K (64 - (h : Int)) s r74 0 (f296 K) true) (gd (0 ≤ r74.2 ∧ r74.2 < ((s.length : Nat) : Int)) (f296_j111 K (64 - (h : Int)) s r74 0 (f296 K) (decide ((((s.getD (r74.2).toNat 0).toNat : Nat) : Int) = (123 : Int))))))))))) := by
        rw [f296]
        unfold f296_s
        rw [w 0, Option.bind_some, cdn (by omega)]
      -- a word, or none
      have word : ∀ (x : UInt8) (a : List UInt8) (kd : Int), c = x → ¬ isD x → x ≠ 45 → x ≠ 34 → x.toNat ≠ 91 → x.toNat ≠ 123 → (x :: a).length ≤ 6 → f397 (K + 1) s n (64 - (h : Int)) = ((f399 K s n1 (x :: a) kd).bind fun r58 => some (r58.1, r58.2.1, ([] : List UInt8), ([] : List (RT 4)), ([] : List (List UInt8)), r58.2.2)) →
          (∀ R', c :: t = (x :: a) ++ R' → f296 (K + 1) s n 0 (64 - (h : Int)) = some (kd, [], [], [], n1 + (((x :: a).length : Nat) : Int), 0)) →
          ((c :: t).take (x :: a).length ≠ x :: a → f296 (K + 1) s n 0 (64 - (h : Int)) = f296_j111 K (64 - (h : Int)) s (false, n1) 0 (f296 K) (decide (c.toNat = 91) || decide (c.toNat = 123))) → ValAt s (K + 1) h R n := by
        intro x a kd hx hd h45 h34 h91 h123 ha hp hy hn
        by_cases htk : (c :: t).take (x :: a).length = x :: a
        · have e : c :: t = (x :: a) ++ (c :: t).drop (x :: a).length := by
            have := List.take_append_drop (x :: a).length (c :: t)
            rw [htk] at this
            exact this.symm
          have h1' : At s n1 ((x :: a) ++ (c :: t).drop (x :: a).length) := by rw [← e]; exact h1
          refine .inl ⟨⟨kd, [], [], []⟩, n1 + (((x :: a).length : Nat) : Int), (c :: t).drop (x :: a).length, ?_, hy _ e, h1'.skip, ?_, JOk.leaf h kd []⟩
          · rw [hp, word_yes K (x :: a) kd h1' hb]
            rfl
          · rw [List.length_drop, List.length_cons, List.length_cons]; omega
        · refine .inr ⟨4, by decide, ⟨0, [], [], [], n1, ?_⟩, 4, [], [], [], n1, c :: t, ?_, h1, by simp; omega⟩
          · rw [hp, word_no K (x :: a) kd h1 hb (by omega) htk]
            rfl
          · rw [hn htk, hx, decide_eq_false h91, decide_eq_false h123]
            unfold f296_j111
            show Option.bind (f350 K s n1 0) _ = _
            rw [num_bad hb K h1 (by omega) (by rw [hx]; exact h45) (by rw [hx]; exact hd)]
            rfl
      have p0 : f397 (K + 1) s n (64 - (h : Int)) = (cond (decide ((c.toNat : Int) = (110 : Int))) ((f399 K s n1 ([110, 117, 108, 108] : List UInt8) (1 : Int)).bind fun r58 => some (r58.1, r58.2.1, ([] : List UInt8), ([] : List (RT 4)), ([] : List (List UInt8)), r58.2.2)) (cond (decide ((c.toNat : Int) = (102 : Int))) ((f399 K s n1 ([102, 97, 108, 115, 101] : List UInt8) (2 : Int)).bind fun r74 => some (r74.1, r74.2.1, ([] : List UInt8), ([] : List (RT 4)), ([] : List (List UInt8)), r74.2.2)) (cond (decide ((c.toNat : Int) = (116 : Int))) ((f399 K s n1 ([116, 114, 117, 101] : List UInt8) (3 : Int)).bind fun r90 => some (r90.1, r90.2.1, ([] : List UInt8), ([] : List (RT 4)), ([] : List (List UInt8)), r90.2.2)) (cond (decide ((c.toNat : Int) = (34 : Int))) ((f400 K s n1).bind fun r106 => cond (decide (r106.2.1 ≠ (0 : Int))) (some (r106.2.1, (0 : Int), ([] : List UInt8), ([] : List (RT 4)), ([] : List (List UInt8)), r106.2.2)) (some ((0 : Int), (5 : Int), r106.1, ([] : List (RT 4)), ([] : List (List UInt8)), r106.2.2))) (cond (decide ((c.toNat : Int) = (91 : Int))) ((f403 (f397 K) K s n1 (6 : Int) (93 : UInt8) (64 - (h : Int))).bind fun r147 => some (r147.1, r147.2.1, ([] : List UInt8), r147.2.2.1, r147.2.2.2.1, r147.2.2.2.2)) (cond (decide ((c.toNat : Int) = (123 : Int))) ((f403 (f397 K) K s n1 (7 : Int) (125 : UInt8) (64 - (h : Int))).bind fun r164 => some (r164.1, r164.2.1, ([] : List UInt8), r164.2.2.1, r164.2.2.2.1, r164.2.2.2.2)) ((f405 K s n1).bind fun r175 => some (r175.1, r175.2.1, r175.2.2.1, ([] : List (RT 4)), ([] : List (List UInt8)), r175.2.2.2)))))))) := by
        rw [f397]
        unfold f397_s
        rw [wp, Option.bind_some, cdn (by omega), gdp (by omega), h1.get]
      by_cases c1 : c = 110
      · subst c1
        refine word 110 [117, 108, 108] 1 rfl (by unfold isD; decide) (by decide) (by decide) (by decide) (by decide) (by decide) (by rw [p0, cdp (by decide)]) ?_ ?_
        · intro R' e
          rw [r0, ris_yes K 0 [110, 117, 108, 108] (R := R') (e ▸ h1) hb]
          rfl
        · intro htk
          rw [r0]
          exact ref_rest K _ _ h1 hb htk (tk5 (by decide)) (tk4 (by decide)) (by decide)
      by_cases c2 : c = 102
      · subst c2
        refine word 102 [97, 108, 115, 101] 2 rfl (by unfold isD; decide) (by decide) (by decide) (by decide) (by decide) (by decide) (by rw [p0, cdn (by decide), cdp (by decide)]) ?_ ?_
        · intro R' e
          rw [r0, ris_no K 0 _ h1 hb (by simp) (take_ne (by decide)), Option.bind_some]
          show cond false _ (Option.bind (f299 K s n1 0 [102, 97, 108, 115, 101]) _) = _
          rw [cond_false, ris_yes K 0 [102, 97, 108, 115, 101] (R := R') (e ▸ h1) hb]
          rfl
        · intro htk
          rw [r0]
          exact ref_rest K _ _ h1 hb (tk4 (by decide)) htk (tk4 (by decide)) (by decide)
      by_cases c3 : c = 116
      · subst c3
        refine word 116 [114, 117, 101] 3 rfl (by unfold isD; decide) (by decide) (by decide) (by decide) (by decide) (by decide) (by rw [p0, cdn (by decide), cdn (by decide), cdp (by decide)]) ?_ ?_
        · intro R' e
          rw [r0, ris_no K 0 _ h1 hb (by simp) (take_ne (by decide)), Option.bind_some]
          show cond false _ (Option.bind (f299 K s n1 0 [102, 97, 108, 115, 101]) _) = _
          rw [cond_false, ris_no K 0 _ h1 hb (by simp) (take_ne (by decide)), Option.bind_some]
          show cond false _ (Option.bind (f299 K s n1 0 [116, 114, 117, 101]) _) = _
          rw [cond_false, ris_yes K 0 [116, 114, 117, 101] (R := R') (e ▸ h1) hb]
          rfl
        · intro htk
          rw [r0]
          exact ref_rest K _ _ h1 hb (tk4 (by decide)) (tk5 (by decide)) htk (by decide)
      have n1' : ¬ ((c.toNat : Int) = 110) := fun e => c1 (UInt8.toNat.inj (by rw [show (110 : UInt8).toNat = 110 from rfl]; omega))
      have n2' : ¬ ((c.toNat : Int) = 102) := fun e => c2 (UInt8.toNat.inj (by rw [show (102 : UInt8).toNat = 102 from rfl]; omega))
      have n3' : ¬ ((c.toNat : Int) = 116) := fun e => c3 (UInt8.toNat.inj (by rw [show (116 : UInt8).toNat = 116 from rfl]; omega))
      by_cases c4 : c = 34
      · subst c4
        have p1 : f397 (K + 1) s n (64 - (h : Int)) = ((f400 K s n1).bind fun r106 => cond (decide (r106.2.1 ≠ (0 : Int))) (some (r106.2.1, (0 : Int), ([] : List UInt8), ([] : List (RT 4)), ([] : List (List UInt8)), r106.2.2)) (some ((0 : Int), (5 : Int), r106.1, ([] : List (RT 4)), ([] : List (List UInt8)), r106.2.2))) := by
          rw [p0, cdn n1', cdn n2', cdn n3', cdp (by decide)]
        have r1 : f296 (K + 1) s n 0 (64 - (h : Int)) = ((f300 K s (n1 + 1) 0).bind fun r81 => some ((5 : Int), r81.1, ([] : List (RT 4)), ([] : List (List UInt8)), r81.2.1, r81.2.2)) := by
          rw [r0, ris_no K 0 _ h1 hb (by simp) (take_ne (by decide)), Option.bind_some]
          show cond false _ (Option.bind (f299 K s n1 0 [102, 97, 108, 115, 101]) _) = _
          rw [cond_false, ris_no K 0 _ h1 hb (by simp) (take_ne (by decide)), Option.bind_some]
          show cond false _ (Option.bind (f299 K s n1 0 [116, 114, 117, 101]) _) = _
          rw [cond_false, ris_no K 0 _ h1 hb (by simp) (take_ne (by decide)), Option.bind_some]
          show cond false _ (Option.bind (f299 K s n1 0 [34]) _) = _
          rw [cond_false, ris_yes K 0 [34] (R := t) h1 hb]
          rfl
        rw [ValAt, p1, r1]
        rcases texts hb K h1 (by omega) with ⟨q, n2, R2, g1, g2, g3, g4⟩ | ⟨⟨q, n2, g1⟩, n3, R3, g2, g3, g4⟩
        · rw [g1, g2]
          exact .inl ⟨⟨5, q, [], []⟩, n2, R2, rfl, rfl, g3, by omega, JOk.leaf h 5 q⟩
        · rw [g1, g2]
          exact .inr ⟨4, by decide, ⟨_, _, _, _, _, rfl⟩, _, _, _, _, n3, R3, rfl, g3, by omega⟩
      have n4' : ¬ ((c.toNat : Int) = 34) := fun e => c4 (UInt8.toNat.inj (by rw [show (34 : UInt8).toNat = 34 from rfl]; omega))
      have r1 : f296 (K + 1) s n 0 (64 - (h : Int)) = f296_j111 K (64 - (h : Int)) s (false, n1) 0 (f296 K) (decide (c.toNat = 91) || decide (c.toNat = 123)) := by
        rw [r0]
        exact ref_rest K _ _ h1 hb (tk4 c1) (tk5 c2) (tk4 c3) c4
      have many : ∀ b : Bool, c = fst1 b → f397 (K + 1) s n (64 - (h : Int)) = ((f403 (f397 K) K s n1 (knd b) (cls b) (64 - (h : Int))).bind fun r147 => some (r147.1, r147.2.1, ([] : List UInt8), r147.2.2.1, r147.2.2.2.1, r147.2.2.2.2)) → ValAt s (K + 1) h R n := by
        intro b hcb hp
        have hbt : (decide (c.toNat = 91) || decide (c.toNat = 123)) = true := by rw [hcb]; cases b <;> rfl
        rw [hbt] at r1
        cases h with
        | zero =>
          refine .inr ⟨5, by decide, ⟨0, [], [], [], n1, ?_⟩, 0, [], [], [], n1, c :: t, ?_, h1, by simp; omega⟩
          · rw [hp]
            unfold f403
            rw [cdp (by omega)]
            rfl
          · rw [r1]
            unfold f296_j111
            rw [cond_true, cdp (by omega)]
            rfl
        | succ h =>
          have hd : (64 : Int) - ((h + 1 : Nat) : Int) = 63 - (h : Int) := by omega
          rw [hd] at hp r1
          obtain ⟨n2, R2, k1, k2, kp, kw, _⟩ := whites hb K h1.next (by omega)
          have r2 : f296 (K + 1) s n 0 (63 - (h : Int)) = ((f353_j36 K s n1 0 (f296 K) (63 - (h : Int)) [cls b] (knd b)).bind fun r131 => some (r131.1, ([] : List UInt8), r131.2.1, r131.2.2.1, r131.2.2.2.1, r131.2.2.2.2)) := by
            rw [r1]
            unfold f296_j111
            rw [cond_true, cdn (by omega)]
            show Option.bind (f353 (f296 K) K s n1 0 (63 - (h : Int))) _ = _
            have : f353 (f296 K) K s n1 0 (63 - (h : Int)) = f353_j36 K s n1 0 (f296 K) (63 - (h : Int)) [cls b] (knd b) := by
              unfold f353
              rw [gdp (by omega), h1.get, hcb]
              cases b <;> rfl
            rw [this]
          have r3 : f353_j36 K s n1 0 (f296 K) (63 - (h : Int)) [cls b] (knd b) = (f299 K s n2 0 [cls b]).bind fun r58 => cond r58.1 (some (knd b, ([] : List (RT 4)), ([] : List (List UInt8)), r58.2, (0 : Int))) ((f353_l68 (knd b) s (f296 K) (63 - (h : Int)) [cls b] K r58.2 0 ([] : List (RT 4)) ([] : List (List UInt8))).bind fun o68 => (match o68 with | .b0 (x68_1, x68_2) => some ((0 : Int), ([] : List (RT 4)), ([] : List (List UInt8)), x68_1, x68_2) | .r x => some x | _ => none)) := by
            unfold f353_j36
            rw [i64w (by omega), kw 0, Option.bind_some]
            rfl
          have p2 : f403 (f397 K) K s n1 (knd b) (cls b) (63 - (h : Int)) = (f401 K s n2 (cls b)).bind fun r50 => cond r50.1 (some ((0 : Int), knd b, ([] : List (RT 4)), ([] : List (List UInt8)), r50.2)) ((f403_l60 (f397 K) s (knd b) (63 - (h : Int)) (cls b) K r50.2 ([] : List (RT 4)) ([] : List (List UInt8))).bind fun o60 => (match o60 with | .r x => some x | _ => none)) := by
            unfold f403
            rw [cdn (by omega), i64w (by omega), kp, Option.bind_some]
            rfl
          have loop : f401 K s n2 (cls b) = some (false, n2) → f299 K s n2 0 [cls b] = some (false, n2) → ValAt s (K + 1) (h + 1) R n := by
            intro a1 a2
            have le := loop_eq hb K h b (by omega) t.length (by omega) (fun R7 n7 h7 hA7 => IH R7 n7 h K (by omega) hA7 (by omega) (by omega)) R2.length R2 n2 K [] [] (Nat.le_refl _) k2 k1 (by omega) (by simp; omega) (by simp; omega) (fun x hx => (List.not_mem_nil hx).elim)
            rw [ValAt, hd, hp, r2, r3, p2, a1, a2]
            show (∃ v n' R', Option.bind (Option.bind (f403_l60 (f397 K) s (knd b) (63 - (h : Int)) (cls b) K n2 [] []) _) _ = _ ∧ Option.bind (Option.bind (f353_l68 (knd b) s (f296 K) (63 - (h : Int)) [cls b] K n2 0 [] []) _) _ = _ ∧ _) ∨ (∃ e, e ≠ 0 ∧ (∃ kd tx l ks n1, Option.bind (Option.bind (f403_l60 (f397 K) s (knd b) (63 - (h : Int)) (cls b) K n2 [] []) _) _ = _) ∧ Rf s R e (Option.bind (Option.bind (f353_l68 (knd b) s (f296 K) (63 - (h : Int)) [cls b] K n2 0 [] []) _) _))
            rcases le with ⟨L', ks', n', R', g1, g2, g3, g4, g5, g6, g7⟩ | ⟨e, he, ⟨a, b', c', d, g1⟩, g2⟩
            · rw [g1, g2]
              exact .inl ⟨⟨knd b, [], L', ks'⟩, n', R', rfl, rfl, g3, by omega, ⟨by show L'.length ≤ 30000; omega, by show ks'.length ≤ 30000; omega, g5⟩⟩
            · rw [g1]
              refine .inr ⟨e, he, ⟨_, _, _, _, _, rfl⟩, ?_⟩
              rcases g2 with ⟨a, b', c', n5, R5, q1, q2, q3⟩ | ⟨n5, R5, q1, q2, q3⟩
              · rw [q1]
                exact ⟨_, _, _, _, n5, R5, rfl, q2, by omega⟩
              · rw [q1]
                exact ⟨_, _, _, _, n5, R5, rfl, q2, by omega⟩
          match R2, k1, k2, loop with
          | [], k1, k2, loop => exact loop (is_end K _ k1) (ris_0 K 0 _ [] k1 hb (by simp))
          | a :: t2, k1, k2, loop =>
            by_cases ha : a = cls b
            · subst ha
              rw [List.length_cons] at k2
              rw [ValAt, hd, hp, r2, r3, p2, is_yes K k1 hb, ris_yes K 0 [cls b] (R := t2) k1 hb]
              exact .inl ⟨⟨knd b, [], [], []⟩, n2 + 1, t2, rfl, rfl, k1.next, by omega, JOk.leaf (h + 1) (knd b) []⟩
            · exact loop (is_no K k1 (fun z => ha (UInt8.toNat.inj (by omega)))) (ris_1 K 0 _ k1 hb ha)
      by_cases c5 : c = 91
      · exact many false c5 (by rw [p0, cdn n1', cdn n2', cdn n3', cdn n4', c5, cdp (by decide)]; rfl)
      have n5' : ¬ (c.toNat = 91) := fun e => c5 (UInt8.toNat.inj e)
      by_cases c6 : c = 123
      · exact many true c6 (by rw [p0, cdn n1', cdn n2', cdn n3', cdn n4', cdn (by omega), c6, cdp (by decide)]; rfl)
      have n6' : ¬ (c.toNat = 123) := fun e => c6 (UInt8.toNat.inj e)
      have p1 : f397 (K + 1) s n (64 - (h : Int)) = ((f405 K s n1).bind fun r175 => some (r175.1, r175.2.1, r175.2.2.1, ([] : List (RT 4)), ([] : List (List UInt8)), r175.2.2.2)) := by
        rw [p0, cdn n1', cdn n2', cdn n3', cdn n4', cdn (by omega), cdn (by omega)]
      have r2 : f296 (K + 1) s n 0 (64 - (h : Int)) = ((f350 K s n1 0).bind fun r138 => some ((4 : Int), r138.1, ([] : List (RT 4)), ([] : List (List UInt8)), r138.2.1, r138.2.2)) := by
        rw [r1, decide_eq_false n5', decide_eq_false n6']
        rfl
      rw [ValAt, p1, r2]
      rcases numbers hb K h1 (by simp; omega) with ⟨q, n2, R2, g1, g2, g3, g4⟩ | ⟨⟨n2, g1⟩, n3, R3, g2, g3, g4⟩
      · rw [g1, g2]
        rw [List.length_cons] at g4
        exact .inl ⟨⟨4, q, [], []⟩, n2, R2, rfl, rfl, g3, by omega, JOk.leaf h 4 q⟩
      · rw [g1, g2]
        rw [List.length_cons] at g4
        exact .inr ⟨4, by decide, ⟨_, _, _, _, _, rfl⟩, _, _, _, _, n3, R3, rfl, g3, by omega⟩
end Go.Proofs.Abs
