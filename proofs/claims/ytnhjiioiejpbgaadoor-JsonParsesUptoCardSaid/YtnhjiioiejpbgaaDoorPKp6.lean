/- Two parsers of json at the same place: keys; a parser that has failed. -/
import Derived.Test.YtnhjiioiejpbgaaDoorPKp5
set_option linter.unusedSimpArgs false
namespace Go.Proofs.Abs
open Go
set_option linter.unusedVariables false
set_option maxRecDepth 100000
variable {s R : List UInt8} {n : Int} {c : UInt8} {ks : List (List UInt8)}
theorem idx_no (q : List UInt8) (hb : ks.length ≤ 30000) : ∀ (rest pre : List (List UInt8)) (K : Nat), ks = pre ++ rest → rest.length + 1 ≤ K → q ∉ rest → f240_l12 ks q K ((pre.length : Nat) : Int) = some (.b0 ()) := by
  intro rest
  induction rest with
  | nil =>
    intro pre K e hK hq
    obtain ⟨K, rfl⟩ : ∃ j, K = j + 1 := ⟨K - 1, by omega⟩
    rw [f240_l12, cdn (by rw [e]; simp)]
  | cons x t ih =>
    intro pre K e hK hq
    rw [List.length_cons] at hK
    obtain ⟨K, rfl⟩ : ∃ j, K = j + 1 := ⟨K - 1, by omega⟩
    have hl : ks.length = pre.length + (t.length + 1) := by rw [e]; simp
    have hm : rd ks ((pre.length : Nat) : Int) = x := by rw [e]; exact rd_mid
    simp only [List.mem_cons, not_or] at hq
    rw [f240_l12, cdp (by omega), gdp (by omega), hm, cdn hq.1, i64w (by omega)]
    have := ih (pre ++ [x]) K (by rw [e]; simp) (by omega) hq.2
    simpa using this
theorem idx_at (q : List UInt8) (hb : ks.length ≤ 30000) (b : List (List UInt8)) : ∀ (a pre : List (List UInt8)) (K : Nat), ks = pre ++ (a ++ q :: b) → a.length + 1 ≤ K → q ∉ a → f240_l12 ks q K ((pre.length : Nat) : Int) = some (.r (((pre.length + a.length : Nat) : Nat) : Int)) := by
  intro a
  induction a with
  | nil =>
    intro pre K e hK hq
    obtain ⟨K, rfl⟩ : ∃ j, K = j + 1 := ⟨K - 1, by omega⟩
    have hl : ks.length = pre.length + (b.length + 1) := by rw [e]; simp
    have hm : rd ks ((pre.length : Nat) : Int) = q := by rw [e]; exact rd_mid
    rw [f240_l12, cdp (by omega), gdp (by omega), hm, cdp rfl]
    rfl
  | cons x t ih =>
    intro pre K e hK hq
    rw [List.length_cons] at hK
    obtain ⟨K, rfl⟩ : ∃ j, K = j + 1 := ⟨K - 1, by omega⟩
    have hl : ks.length = pre.length + (t.length + 1 + (b.length + 1)) := by rw [e]; simp; omega
    have hm : rd ks ((pre.length : Nat) : Int) = x := by rw [e]; exact rd_mid
    simp only [List.mem_cons, not_or] at hq
    rw [f240_l12, cdp (by omega), gdp (by omega), hm, cdn hq.1, i64w (by omega)]
    have := ih (pre ++ [x]) K (by rw [e]; simp) (by omega) hq.2
    rw [List.length_append] at this
    simp only [List.length_cons, List.length_nil] at this ⊢
    rw [show pre.length + (t.length + 1) = pre.length + (0 + 1) + t.length by omega]
    exact this
theorem index_at (K : Nat) (a b : List (List UInt8)) (q : List UInt8) (hb : (a ++ q :: b).length ≤ 30000) (hK : a.length + 1 ≤ K) (hq : q ∉ a) : f240 K (a ++ q :: b) q = some ((a.length : Nat) : Int) := by
  have := idx_at (ks := a ++ q :: b) q hb b a [] K rfl hK hq
  unfold f240
  show (f240_l12 (a ++ q :: b) q K (((([] : List (List UInt8)).length : Nat)) : Int)).bind _ = _
  rw [this, Option.bind_some]
  simp
theorem has_no (K : Nat) (ks : List (List UInt8)) (q : List UInt8) (hb : ks.length ≤ 30000) (hK : ks.length + 1 ≤ K) (hq : q ∉ ks) : f239 K ks q = some false := by
  have := idx_no (ks := ks) q hb ks [] K rfl hK hq
  unfold f239 f240
  show (Option.bind (f240_l12 ks q K (((([] : List (List UInt8)).length : Nat)) : Int)) _).bind _ = _
  rw [this]
  rfl
theorem first_mem (q : List UInt8) : ∀ ks : List (List UInt8), q ∈ ks → ∃ a b, ks = a ++ q :: b ∧ q ∉ a
  | [], h => by cases h
  | x :: t, h => by
    by_cases hx : q = x
    · exact ⟨[], t, by rw [hx]; rfl, by simp⟩
    · have : q ∈ t := by
        rcases List.mem_cons.1 h with h | h
        · exact absurd h hx
        · exact h
      obtain ⟨a, b, e, hn⟩ := first_mem q t this
      exact ⟨x :: a, b, by rw [e]; rfl, by simp [hx, hn]⟩
theorem has_yes (K : Nat) (ks : List (List UInt8)) (q : List UInt8) (hb : ks.length ≤ 30000) (hK : ks.length + 1 ≤ K) (hq : q ∈ ks) : f239 K ks q = some true := by
  obtain ⟨a, b, rfl, h⟩ := first_mem q ks hq
  rw [List.length_append] at hK
  unfold f239
  rw [index_at K a b q hb (by omega) h, Option.bind_some, decide_eq_true (by omega)]
theorem in_at (ks : List (List UInt8)) (q : List UInt8) (hb : ks.length ≤ 30000) : ∀ (rest pre : List (List UInt8)) (K : Nat), ks = pre ++ rest → rest.length + 1 ≤ K → q ∉ pre →
    (∃ z, f77_l10 ks q K ((pre.length : Nat) : Int) = some z ∧ ((q ∈ ks ∧ z = .r true) ∨ (q ∉ ks ∧ z = .b0 ()))) := by
  intro rest
  induction rest with
  | nil =>
    intro pre K e hK hq
    obtain ⟨K, rfl⟩ : ∃ j, K = j + 1 := ⟨K - 1, by omega⟩
    refine ⟨.b0 (), ?_, .inr ⟨by rw [e]; simpa using hq, rfl⟩⟩
    rw [f77_l10, cdn (by rw [e]; simp)]
  | cons x t ih =>
    intro pre K e hK hq
    rw [List.length_cons] at hK
    obtain ⟨K, rfl⟩ : ∃ j, K = j + 1 := ⟨K - 1, by omega⟩
    have hl : ks.length = pre.length + (t.length + 1) := by rw [e]; simp
    have hm : rd ks ((pre.length : Nat) : Int) = x := by rw [e]; exact rd_mid
    rw [f77_l10, cdp (by omega), gdp (by omega), hm]
    by_cases hx : x = q
    · rw [cdp hx]
      exact ⟨_, rfl, .inl ⟨by rw [e, hx]; simp, rfl⟩⟩
    · rw [cdn hx, i64w (by omega)]
      have := ih (pre ++ [x]) K (by rw [e]; simp) (by omega) (by
        intro hin
        rcases List.mem_append.1 hin with h | h
        · exact hq h
        · exact hx (List.mem_singleton.1 h).symm)
      simpa using this
theorem has_at (K : Nat) (ks : List (List UInt8)) (q : List UInt8) (hb : ks.length ≤ 30000) (hK : ks.length + 1 ≤ K) : f77 K ks q = some (decide (q ∈ ks)) := by
  obtain ⟨z, h1, h2⟩ := in_at ks q hb ks [] K rfl hK (by simp)
  unfold f77
  show Option.bind (f77_l10 ks q K (((([] : List (List UInt8)).length : Nat)) : Int)) _ = _
  rw [h1, Option.bind_some]
  rcases h2 with ⟨h, rfl⟩ | ⟨h, rfl⟩
  · rw [decide_eq_true h]
  · rw [decide_eq_false h]
theorem same_loop (a : List (List UInt8)) (hb : a.length ≤ 30000) : ∀ (rest pre : List (List UInt8)) (K : Nat), a = pre ++ rest → rest.length + 1 ≤ K → f435_l26 a a K ((pre.length : Nat) : Int) = some (.b0 ()) := by
  intro rest
  induction rest with
  | nil =>
    intro pre K e hK
    obtain ⟨K, rfl⟩ : ∃ j, K = j + 1 := ⟨K - 1, by omega⟩
    rw [f435_l26, cdn (by rw [e]; simp)]
  | cons x t ih =>
    intro pre K e hK
    rw [List.length_cons] at hK
    obtain ⟨K, rfl⟩ : ∃ j, K = j + 1 := ⟨K - 1, by omega⟩
    have hl : a.length = pre.length + (t.length + 1) := by rw [e]; simp
    rw [f435_l26, cdp (by omega), gdp (by omega), gdp (by omega)]
    show Option.bind (some ()) _ = _
    rw [Option.bind_some, decide_eq_true rfl]
    show cond false _ _ = _
    rw [cond_false, i64w (by omega)]
    have := ih (pre ++ [x]) K (by rw [e]; simp) (by omega)
    simpa using this
theorem same_at (K : Nat) (a : List (List UInt8)) (hb : a.length ≤ 30000) (hK : a.length + 1 ≤ K) : f434 K a a = some true := by
  unfold f434 f435
  rw [cdn (by simp)]
  have := same_loop a hb a [] K rfl hK
  show Option.bind (Option.bind (f435_l26 a a K (((([] : List (List UInt8)).length : Nat)) : Int)) _) _ = _
  rw [this]
  rfl
theorem ris_gen (k : Nat) (e : Int) (a : List UInt8) (h : At s n R) (hb : s.length ≤ 20000) (ha : a.length ≤ 100) : (∃ R', R = a ++ R' ∧ f299 k s n e a = some (true, n + ((a.length : Nat) : Int)) ∧ At s (n + ((a.length : Nat) : Int)) R') ∨ (f299 k s n e a = some (false, n) ∧ R.take a.length ≠ a) := by
  by_cases hn : R.take a.length = a
  · refine .inl ⟨R.drop a.length, ?_, ?_, ?_⟩
    · have := List.take_append_drop a.length R
      rw [hn] at this
      exact this.symm
    · have h' : At s n (a ++ R.drop a.length) := by
        have := List.take_append_drop a.length R
        rw [hn] at this
        rwa [this]
      exact ris_yes k e a h' hb
    · have h' : At s n (a ++ R.drop a.length) := by
        have := List.take_append_drop a.length R
        rw [hn] at this
        rwa [this]
      exact h'.skip
  · exact .inr ⟨ris_no k e a h hb ha hn, hn⟩
theorem failE (k : Nat) (s : List UInt8) (n e x : Int) (he : e ≠ 0) : f298 k s n e x = some e := by
  unfold f298
  rw [cdn he]
theorem numE (hb : s.length ≤ 20000) (K : Nat) (e : Int) (h : At s n R) (hK : R.length + 2 ≤ K) (he : e ≠ 0) : ∃ t n2 R2, f350 K s n e = some (t, n2, e) ∧ At s n2 R2 ∧ R2.length ≤ R.length := by
  obtain ⟨neg, n1, R1, r1, h1, hL⟩ : ∃ neg n1 R1, f299 K s n e [45] = some (neg, n1) ∧ At s n1 R1 ∧ R1.length ≤ R.length := by
    rcases ris_gen K e [45] h hb (by simp) with ⟨R', e1, e2, e3⟩ | ⟨e2, _⟩
    · exact ⟨true, _, R', e2, e3, by rw [e1]; simp⟩
    · exact ⟨false, n, R, e2, h, Nat.le_refl _⟩
  obtain ⟨D, R', eD, hd, pl, rl⟩ := span2 hb R1 n1 K h1 (by omega)
  have hl := h.len
  have hl1 := h1.len
  have eL : R1.length = D.length + R'.length := by rw [eD, List.length_append]
  have h2 : At s (n1 + ((D.length : Nat) : Int)) R' := by rw [eD] at h1; exact h1.skip
  have hj : ∀ b, ∃ t, f350_j114 K s (n1 + ((D.length : Nat) : Int)) e n b = some (t, n1 + ((D.length : Nat) : Int), e) := by
    intro b
    unfold f350_j114
    cases b with
    | true => rw [cond_true, failE K s _ e 4 he]; exact ⟨[], rfl⟩
    | false =>
      rw [cond_false, gdp (by omega)]
      by_cases e5 : Abs.sl s n (n1 + ((D.length : Nat) : Int)) = [45, 48]
      · rw [cdp e5]; exact ⟨_, rfl⟩
      · rw [cdn e5, gdp (by omega)]; exact ⟨_, rfl⟩
  have : ∃ t, f350 K s n e = some (t, n1 + ((D.length : Nat) : Int), e) := by
    unfold f350
    rw [r1, Option.bind_some]
    show ∃ t, Option.bind (f350_l27 s K n1) _ = _
    rw [rl, Option.bind_some]
    show ∃ t, cond (decide ((IntKind.i64.wrap (n1 + ((D.length : Nat) : Int) - n1)) < (1 : Int))) (f350_j114 K s (n1 + ((D.length : Nat) : Int)) e n true) (cond (decide ((IntKind.i64.wrap (n1 + ((D.length : Nat) : Int) - n1)) > (19 : Int))) (f350_j114 K s (n1 + ((D.length : Nat) : Int)) e n true) (cond (decide ((IntKind.i64.wrap (n1 + ((D.length : Nat) : Int) - n1)) > (1 : Int))) (gd (0 ≤ n1 ∧ n1 < ((s.length : Nat) : Int)) (f350_j114 K s (n1 + ((D.length : Nat) : Int)) e n (decide ((((s.getD n1.toNat 0).toNat : Nat) : Int) = (48 : Int))))) (f350_j114 K s (n1 + ((D.length : Nat) : Int)) e n false))) = some (t, n1 + ((D.length : Nat) : Int), e)
    rw [show n1 + ((D.length : Nat) : Int) - n1 = ((D.length : Nat) : Int) by omega, i64w (by omega)]
    by_cases l0 : ((D.length : Nat) : Int) < 1
    · rw [cdp l0]; exact hj true
    · rw [cdn l0]
      by_cases l1 : ((D.length : Nat) : Int) > 19
      · rw [cdp l1]; exact hj true
      · rw [cdn l1]
        by_cases l2 : ((D.length : Nat) : Int) > 1
        · rw [cdp l2, gdp (by omega)]; exact hj _
        · rw [cdn l2]; exact hj false
  obtain ⟨t, ht⟩ := this
  exact ⟨t, _, R', ht, h2, by omega⟩
theorem num_bad (hb : s.length ≤ 20000) (K : Nat) (h : At s n (c :: R)) (hK : R.length + 3 ≤ K) (h1 : c ≠ 45) (h2 : ¬ isD c) : f350 K s n 0 = some ([], n, 4) := by
  have hl := h.len
  rw [List.length_cons] at hl
  obtain ⟨K, rfl⟩ : ∃ j, K = j + 1 := ⟨K - 1, by omega⟩
  unfold isD at h2
  have rl : f350_l27 s (K + 1) n = some (.b0 n) := by
    rw [f350_l27, cdp (by omega), gdp (by omega), h.get]
    by_cases h3 : c.toNat < 48
    · rw [cdn (by omega)]
    · rw [cdp (by omega), gdp (by omega), cdn (by omega)]
  unfold f350
  rw [ris_1 _ 0 45 h hb h1, Option.bind_some]
  show Option.bind (f350_l27 s (K + 1) n) _ = _
  rw [rl, Option.bind_some]
  show cond (decide ((IntKind.i64.wrap (n - n)) < (1 : Int))) (f350_j114 (K + 1) s n 0 n true) _ = _
  rw [show n - n = 0 by omega, i64w (by omega), cdp (by omega)]
  rfl
def Rf (s R : List UInt8) (e : Int) (o : Option (Int × List UInt8 × List (RT 4) × List (List UInt8) × Int × Int)) : Prop := ∃ kd tx l ks n2 R2, o = some (kd, tx, l, ks, n2, e) ∧ At s n2 R2 ∧ R2.length ≤ R.length
/-- a parser that has failed comes to an end, and keeps its fault -/
theorem valueE (hb : s.length ≤ 20000) (K : Nat) (e d : Int) (h : At s n R) (hK : R.length + 20 ≤ K) (he : e ≠ 0) : Rf s R e (f296 K s n e d) := by
  obtain ⟨K, rfl⟩ : ∃ j, K = j + 1 := ⟨K - 1, by omega⟩
  obtain ⟨n1, R1, h1, hL, _, w, _⟩ := whites hb K h (by omega)
  rw [f296]
  unfold f296_s
  rw [w e, Option.bind_some]
  have hl := h1.len
  cases hR1 : R1 with
  | nil =>
    rw [hR1] at hl h1
    rw [List.length_nil] at hl
    rw [cdp (by omega), failE K s n1 e 4 he]
    exact ⟨_, _, _, _, n1, [], rfl, h1, by simp⟩
  | cons c t =>
    rw [hR1] at hl h1 hL
    rw [List.length_cons] at hl hL
    rw [cdn (by omega)]
    rcases ris_gen K e [110, 117, 108, 108] h1 hb (by simp) with ⟨R', e1, e2, e3⟩ | ⟨e2, _⟩
    · rw [e2]
      exact ⟨_, _, _, _, _, R', rfl, e3, by have := congrArg List.length e1; simp at this; omega⟩
    rw [e2, Option.bind_some]
    show Rf s R e (cond false _ (Option.bind (f299 K s n1 e [102, 97, 108, 115, 101]) _))
    rw [cond_false]
    rcases ris_gen K e [102, 97, 108, 115, 101] h1 hb (by simp) with ⟨R', e1, e2, e3⟩ | ⟨e2, _⟩
    · rw [e2]
      exact ⟨_, _, _, _, _, R', rfl, e3, by have := congrArg List.length e1; simp at this; omega⟩
    rw [e2, Option.bind_some]
    show Rf s R e (cond false _ (Option.bind (f299 K s n1 e [116, 114, 117, 101]) _))
    rw [cond_false]
    rcases ris_gen K e [116, 114, 117, 101] h1 hb (by simp) with ⟨R', e1, e2, e3⟩ | ⟨e2, _⟩
    · rw [e2]
      exact ⟨_, _, _, _, _, R', rfl, e3, by have := congrArg List.length e1; simp at this; omega⟩
    rw [e2, Option.bind_some]
    show Rf s R e (cond false _ (Option.bind (f299 K s n1 e [34]) _))
    rw [cond_false]
    rcases ris_gen K e [34] h1 hb (by simp) with ⟨R', e1, e2, e3⟩ | ⟨e2, _⟩
    · rw [e2, Option.bind_some]
      show Rf s R e (cond true (Option.bind (f300 K s (n1 + (([(34 : UInt8)].length : Nat) : Int)) e) _) _)
      rw [cond_true]
      have : f300 K s (n1 + (([(34 : UInt8)].length : Nat) : Int)) e = some ([], n1 + (([(34 : UInt8)].length : Nat) : Int), e) := by
        obtain ⟨K, rfl⟩ : ∃ j, K = j + 1 := ⟨K - 1, by omega⟩
        unfold f300
        rw [f300_l10, cdn he]
        rfl
      rw [this]
      exact ⟨_, _, _, _, _, R', rfl, e3, by have := congrArg List.length e1; simp at this; omega⟩
    rw [e2, Option.bind_some]
    show Rf s R e (cond false _ (gd (0 ≤ n1 ∧ n1 < ((s.length : Nat) : Int)) (cond (decide ((((s.getD n1.toNat 0).toNat : Nat) : Int) = (91 : Int))) (f296_j111 K d s (false, n1) e (f296 K) true) (gd (0 ≤ n1 ∧ n1 < ((s.length : Nat) : Int)) (f296_j111 K d s (false, n1) e (f296 K) (decide ((((s.getD n1.toNat 0).toNat : Nat) : Int) = (123 : Int))))))))
    rw [cond_false, gdp (by omega), h1.get]
    have jf : Rf s R e (f296_j111 K d s (false, n1) e (f296 K) false) := by
      unfold f296_j111
      rw [cond_false]
      obtain ⟨t', n2, R2, g1, g2, g3⟩ := numE hb K e h1 (by rw [List.length_cons]; omega) he
      show Rf s R e (Option.bind (f350 K s n1 e) _)
      rw [g1]
      exact ⟨_, _, _, _, n2, R2, rfl, g2, by rw [List.length_cons] at g3; omega⟩
    have jt : (c.toNat = 91 ∨ c.toNat = 123) → Rf s R e (f296_j111 K d s (false, n1) e (f296 K) true) := by
      intro hc
      unfold f296_j111
      rw [cond_true]
      by_cases hd : d ≥ 64
      · rw [cdp hd]
        show Rf s R e (Option.bind (f298 K s n1 e 5) _)
        rw [failE K s n1 e 5 he]
        exact ⟨_, _, _, _, n1, c :: t, rfl, h1, by simp; omega⟩
      · rw [cdn hd]
        show Rf s R e (Option.bind (f353 (f296 K) K s n1 e d) _)
        have j36 : ∀ (z : UInt8) (q : Int), ∃ a b c n2 R2, f353_j36 K s n1 e (f296 K) d [z] q = some (a, b, c, n2, e) ∧ At s n2 R2 ∧ R2.length ≤ R.length := by
          intro z q
          obtain ⟨n3, R3, g1, g2, _, g3, _⟩ := whites hb K h1.next (by omega)
          unfold f353_j36
          rw [i64w (by omega), g3 e, Option.bind_some]
          rcases ris_gen K e [z] g1 hb (by simp) with ⟨R', e1, e2, e3⟩ | ⟨e2, _⟩
          · rw [e2, Option.bind_some]
            exact ⟨_, _, _, _, R', rfl, e3, by have := congrArg List.length e1; simp at this; omega⟩
          · rw [e2, Option.bind_some]
            show ∃ a b c n2 R2, cond false _ (Option.bind (f353_l68 q s (f296 K) d [z] K n3 e [] []) _) = _ ∧ _
            rw [cond_false]
            obtain ⟨K, rfl⟩ : ∃ j, K = j + 1 := ⟨K - 1, by omega⟩
            rw [f353_l68, cdn he]
            exact ⟨_, _, _, n3, R3, rfl, g1, by omega⟩
        have : ∃ a b c n2 R2, f353 (f296 K) K s n1 e d = some (a, b, c, n2, e) ∧ At s n2 R2 ∧ R2.length ≤ R.length := by
          unfold f353
          rw [gdp (by omega)]
          cases (decide ((((s.getD n1.toNat 0).toNat : Nat) : Int) = (123 : Int))) with
          | true => exact j36 125 7
          | false => exact j36 93 6
        obtain ⟨a, b, c', n2, R2, g1, g2, g3⟩ := this
        rw [g1]
        exact ⟨_, _, _, _, n2, R2, rfl, g2, g3⟩
    by_cases c1 : c.toNat = 91
    · rw [cdp (by omega)]
      exact jt (.inl c1)
    · rw [cdn (by omega), gdp (by omega)]
      by_cases c2 : c.toNat = 123
      · rw [decide_eq_true (by omega)]
        exact jt (.inr c2)
      · rw [decide_eq_false (by omega)]
        exact jf
end Go.Proofs.Abs
