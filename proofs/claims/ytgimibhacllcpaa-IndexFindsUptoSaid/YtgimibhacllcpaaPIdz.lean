/- The law IndexFinds over the Lean functions: what is found in a table. -/
import Derived.Test.YtgimibhacllcpaaPIdx
namespace Go.Proofs.Abs
open Go
set_option linter.unusedVariables false
set_option maxRecDepth 10000
/-- what the look through the table comes to -/
def pastL (a2 : Int) : List TSpot → Bool
  | [] => true
  | z :: _ => decide (a2 < z.fOffset)
def goF (o t a2 : Int) : Bool → List TSpot → Bool
  | y, [] => y
  | y, x :: r => goF o t a2 (y || (decide (x.fOffset = o) && decide (x.fAt = t) && decide (o ≤ a2) && pastL a2 r)) r
theorem goF_true {o t a2 : Int} : ∀ r : List TSpot, goF o t a2 true r = true
  | [] => rfl
  | x :: r => by rw [goF, Bool.true_or]; exact goF_true r
theorem goF_find {a2 : Int} : ∀ (r : List TSpot) (x : TSpot) (s : Int × Int) (y : Bool), x.fOffset ≤ a2 → goF (findI (x :: r) a2 s).1 (findI (x :: r) a2 s).2 a2 y (x :: r) = true
  | [], x, s, y, h => by
    rw [findI, if_neg (by omega)]
    simp [findI, goF, pastL, h]
  | z :: r, x, s, y, h => by
    rw [findI, if_neg (by omega), goF]
    by_cases c : a2 < z.fOffset
    · rw [findI, if_pos c]
      simp [h, c, pastL, goF_true]
    · exact goF_find r z _ _ (by omega)
theorem l129 {T : List TSpot} {q : Int × Int} {a2 : Int} (hwf : ∀ x ∈ T, TSpot.wf x) (hr : rightL none T = true) (hn : T.length ≤ 1048576) : ∀ (rest pre : List TSpot) (k : Nat) (y : Bool), T = pre ++ rest → rest.length < k →
    f215_l129 T q a2 k y ((pre.length : Nat) : Int) = some (.b0 (goF q.1 q.2 a2 y rest)) := by
  intro rest
  induction rest with
  | nil =>
    intro pre k y ha hk
    obtain ⟨k, rfl, _⟩ := succ_of_pos hk
    subst ha
    simp [f215_l129, goF]
  | cons x rest ih =>
    intro pre k y ha hk
    obtain ⟨k, rfl, hk'⟩ := succ_of_pos hk
    have h1 := fun y => ih (pre ++ [x]) k y (by simp [ha]) (by simp at hk'; omega)
    have hrd : rd T ((pre.length : Nat) : Int) = x := by subst ha; exact rd_mid
    have hl : T.length = pre.length + rest.length + 1 := by subst ha; simp; omega
    have hw : IntKind.i64.wrap (((pre.length : Nat) : Int) + 1) = (((pre ++ [x]).length : Nat) : Int) := by
      rw [i64w (by omega)]; simp
    have hj : f215_j186 (f215_l129 T q a2 k) k y ((pre.length : Nat) : Int) T q a2 = some (.b0 (goF q.1 q.2 a2 y (x :: rest))) := by
      simp only [f215_j186, hrd, hw, h1, cond_dec]
      cases y with
      | true => simp [goF]
      | false =>
        simp only [cond_false, Bool.and_true, Bool.false_or, goF]
        rw [gd_pos (by omega)]
        by_cases c1 : x.fOffset = q.1
        · by_cases c2 : x.fAt = q.2
          · by_cases c3 : q.1 ≤ a2
            · cases rest with
              | nil => simp [c1, c2, c3, hl, pastL]
              | cons z r =>
                have hz : rd T (((pre ++ [x]).length : Nat) : Int) = z := by
                  have : T = (pre ++ [x]) ++ z :: r := by simp [ha]
                  rw [this]; exact rd_mid
                simp only [hz]
                simp only [c1, c2, c3, decide_true, Bool.and_self, cond_true, if_true, Bool.true_and, pastL]
                rw [if_neg (by simp at hl ⊢; omega), gd_pos (by simp at hl ⊢; omega)]
            · simp [c1, c2, c3]
          · simp [c1, c2]
        · simp [c1]
    simp only [f215_l129, cond_dec, hrd, hj]
    rw [if_pos (by omega)]
    rcases snoc_cases pre with rfl | ⟨pre', p, rfl⟩
    · simp
    · have hp := hwf p (by simp [ha])
      have hx := hwf x (by simp [ha])
      have hw2 : IntKind.i64.wrap ((((pre' ++ [p]).length : Nat) : Int) - 1) = ((pre'.length : Nat) : Int) := by
        rw [i64w (by simp at hl ⊢; omega)]; simp
      have hrd2 : rd T ((pre'.length : Nat) : Int) = p := by subst ha; simp only [List.append_assoc, List.cons_append, List.nil_append]; exact rd_mid
      have hpx : ok1 (some p) x = true ∧ 0 ≤ p.fAt := by
        have e1 : T = (pre' ++ [p] ++ [x]) ++ rest := by rw [ha]; simp
        have gen : ∀ (l m : List TSpot) (o : Option TSpot), rightL o (l ++ m) = true → rightL o l = true := by
          intro l
          induction l with
          | nil => intro m o _; exact rightL_nil
          | cons w l ihl =>
            intro m o hh
            rw [List.cons_append, rightL_cons, Bool.and_eq_true] at hh
            rw [rightL_cons, Bool.and_eq_true]
            exact ⟨hh.1, ihl _ _ hh.2⟩
        have e2 := gen (pre' ++ [p] ++ [x]) rest none (by rw [← e1]; exact hr)
        rw [right_snoc, Bool.and_eq_true] at e2
        refine ⟨?_, right_last e2.1 (by simp)⟩
        have := e2.2
        simp only [List.getLast?_append, List.getLast?_singleton, Option.some_or] at this
        rw [rightL_cons, Bool.and_eq_true] at this
        exact this.1
      simp [ok1] at hpx
      simp only [TSpot.wf] at hp hx
      rw [if_pos (by simp)]
      simp only [hw2, hrd2]
      simp only [List.length_append, List.length_cons, List.length_nil] at hl ⊢
      have hg : 0 ≤ ((pre'.length : Nat) : Int) ∧ ((pre'.length : Nat) : Int) < ((T.length : Nat) : Int) := by omega
      have hg2 : 0 ≤ ((pre'.length + (0 + 1) : Nat) : Int) ∧ ((pre'.length + (0 + 1) : Nat) : Int) < ((T.length : Nat) : Int) := by omega
      rw [gd_pos hg2, gd_pos hg, if_neg (by rw [i64w (by omega)]; omega), gd_pos hg2, gd_pos hg, if_neg (by omega)]
theorem i64_range (n : Int) : -9223372036854775808 ≤ IntKind.i64.wrap n ∧ IntKind.i64.wrap n ≤ 9223372036854775807 := by
  simp only [IntKind.wrap, IntKind.signed, IntKind.bits]
  simp
  omega
theorem u64_range (n : Int) : 0 ≤ IntKind.u64.wrap n ∧ IntKind.u64.wrap n ≤ 18446744073709551615 := by
  simp only [IntKind.wrap, IntKind.signed, IntKind.bits]
  simp
  omega
theorem l32 {a0 a1 : List Int} (h0 : a0.length ≤ 1048576) (h1 : a1.length ≤ 1048576) : ∀ (m i k : Nat) (T : List TSpot) (t o : Int), m + i = 100 → m + 4 < k → T.length ≤ i → (∀ x ∈ T, TSpot.wf x) → rightL none T = true → (-9223372036854775808 ≤ t ∧ t ≤ 9223372036854775807) → (0 ≤ o ∧ o ≤ 18446744073709551615) →
    ∃ T', f215_l32 a0 a1 k T t o (i : Nat) = some (.b0 T') ∧ T'.length ≤ 100 ∧ (∀ x ∈ T', TSpot.wf x) ∧ rightL none T' = true := by
  intro m
  induction m with
  | zero =>
    intro i k T t o hm hk hT hw hr ht ho
    obtain ⟨k, rfl, _⟩ := succ_of_pos hk
    refine ⟨T, ?_, by omega, hw, hr⟩
    simp only [f215_l32, cond_dec]
    rw [if_neg (show ¬ ((i : Nat) : Int) < 100 by omega)]
    split
    · split <;> rfl
    · rfl
  | succ m ih =>
    intro i k T t o hm hk hT hw hr ht ho
    obtain ⟨k, rfl, hk'⟩ := succ_of_pos hk
    simp only [f215_l32, cond_dec]
    by_cases c1 : ((i : Nat) : Int) < ((a0.length : Nat) : Int)
    · rw [if_pos c1]
      by_cases c2 : ((i : Nat) : Int) < ((a1.length : Nat) : Int)
      · have hx : TSpot.wf ⟨o, t⟩ := ⟨ho, ht, trivial⟩
        have ha := len_add (a := T) (x := ⟨o, t⟩)
        rw [if_pos c2, if_pos (by omega), show f210 k T o t = _ from add_index (x := ⟨o, t⟩) hw hx (by omega) hr (by omega)]
        simp only [Option.bind_some]
        rw [gd_pos (by omega), gd_pos (by omega), i64w (n := ((i : Nat) : Int) + 1) (by omega)]
        exact ih (i + 1) k (addL T ⟨o, t⟩) _ _ (by omega) (by omega) (by omega) (wf_add hw hx) (right_add hr) (i64_range _) (u64_range _)
      · rw [if_neg c2]
        exact ⟨T, rfl, by omega, hw, hr⟩
    · rw [if_neg c1]
      exact ⟨T, rfl, by omega, hw, hr⟩
theorem law_IndexFinds (a0 : (List Int)) (a1 : (List Int)) (a2 : Int) (w0 : (∀ e0 ∈ a0, (-9223372036854775808 ≤ e0 ∧ e0 ≤ 9223372036854775807))) (w1 : (∀ e0 ∈ a1, (-9223372036854775808 ≤ e0 ∧ e0 ≤ 9223372036854775807))) (w2 : (0 ≤ a2 ∧ a2 ≤ 18446744073709551615))
    (hb : ((a0.map (fun _ => 1)).sum + 1) + ((a1.map (fun _ => 1)).sum + 1) + 1 ≤ 1048576) : ∃ k, f215 k a0 a1 a2 = some true := by
  have h0 := len_sum (sz := fun _ : Int => 1) (fun _ => Nat.le_refl _) a0
  have h1 := len_sum (sz := fun _ : Int => 1) (fun _ => Nat.le_refl _) a1
  refine ⟨400, ?_⟩
  obtain ⟨T, e1, e2, e3, e4⟩ := l32 (a0 := a0) (a1 := a1) (by omega) (by omega) 100 0 400 [] 0 0 (by omega) (by omega) (by simp) (by simp) rfl (by omega) (by omega)
  simp only [f215, show f212 400 = some true from awake19 396, Option.bind_some, Bool.not_true, cond_false]
  rw [show f215_l32 a0 a1 400 [] 0 0 0 = _ from e1]
  have hl : ∀ y, f215_l129 T (findI T a2 (0, 0)) a2 400 y 0 = _ := fun y => l129 (q := findI T a2 (0, 0)) (a2 := a2) e3 e4 (by omega) T [] 400 y rfl (by omega)
  have hj : ∀ b, goF (findI T a2 (0, 0)).1 (findI T a2 (0, 0)).2 a2 b T = true → f215_j124 400 T (findI T a2 (0, 0)) a2 b = some true := by
    intro b hb
    simp only [f215_j124, hl, Option.bind_some, hb, f215_j226, cond_true]
    rw [right_index e3 (by omega) (by omega), e4]
    rfl
  simp only [Option.bind_some, f215_j96]
  rw [find_index (by omega) (by omega)]
  simp only [Option.bind_some, cond_dec]
  cases T with
  | nil =>
    simp only [findI] at hj
    simp [findI, hj true rfl]
  | cons x r =>
    by_cases c : x.fOffset ≤ a2
    · have hg := fun y => goF_find r x (0, 0) y c
      simp only [hj _ (hg _)]
      rw [if_neg (by simp only [List.length_cons]; omega), gd_pos (by simp only [List.length_cons]; omega)]
      simp
    · have hf : findI (x :: r) a2 (0, 0) = (0, 0) := by rw [findI, if_pos (by omega)]
      rw [hf] at hj ⊢
      have hd : rd (x :: r) 0 = x := rfl
      simp only [hd]
      rw [if_neg (by simp only [List.length_cons]; omega), gd_pos (by simp only [List.length_cons]; omega)]
      have : decide (x.fOffset > a2) = true := by simp; omega
      rw [this, hj true (goF_true _)]
      rfl
end Go.Proofs.Abs
