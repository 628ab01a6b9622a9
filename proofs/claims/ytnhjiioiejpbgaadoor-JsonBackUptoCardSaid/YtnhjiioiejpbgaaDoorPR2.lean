/- Numbers as they may be. -/
import Derived.Test.YtnhjiioiejpbgaaDoorPJqu
import Derived.Test.YtnhjiioiejpbgaaDoorPR1
set_option linter.unusedSimpArgs false
namespace Go.Proofs.Abs
open Go
set_option linter.unusedVariables false
set_option maxRecDepth 100000
variable {s R : List UInt8} {n : Int} {c : UInt8}
theorem At.slk (h : At s n R) (m : Nat) (hm : m ≤ R.length) : Abs.sl s n (n + (m : Int)) = R.take m := by
  obtain ⟨P, rfl, rfl⟩ := h
  unfold Abs.sl
  rw [show (((P.length : Nat) : Int) + (m : Int)).toNat = P.length + m by omega, Int.toNat_natCast, List.take_append, List.take_of_length_le (by omega), show P.length + m - P.length = m by omega, List.drop_left]
theorem ris_yes (k : Nat) (e : Int) (a : List UInt8) (h : At s n (a ++ R)) (hb : s.length ≤ 2000000) : f299 k s n e a = some (true, n + ((a.length : Nat) : Int)) := by
  have hl := h.len
  rw [List.length_append] at hl
  unfold f299
  rw [i64w (by omega), cdp (by omega), i64w (by omega), gdp (by omega), h.slk a.length (by simp), List.take_left, decide_eq_true rfl]
  unfold f299_j42
  rw [cond_true, i64w (by omega)]
theorem ris_no (k : Nat) (e : Int) (a : List UInt8) (h : At s n R) (hb : s.length ≤ 2000000) (ha : a.length ≤ 100) (hn : R.take a.length ≠ a) : f299 k s n e a = some (false, n) := by
  have hl := h.len
  unfold f299
  by_cases hr : a.length ≤ R.length
  · rw [i64w (by omega), cdp (by omega), i64w (by omega), gdp (by omega), h.slk a.length hr, decide_eq_false hn]
    rfl
  · rw [i64w (by omega), cdn (by omega)]
    rfl
theorem ris_1 (k : Nat) (e : Int) (a : UInt8) (h : At s n (c :: R)) (hb : s.length ≤ 2000000) (hn : c ≠ a) : f299 k s n e [a] = some (false, n) :=
  ris_no k e [a] h hb (by simp) (by simpa using hn)
theorem ris_0 (k : Nat) (e : Int) (a : UInt8) (t : List UInt8) (h : At s n []) (hb : s.length ≤ 2000000) (ht : t.length ≤ 50) : f299 k s n e (a :: t) = some (false, n) :=
  ris_no k e (a :: t) h hb (by simp; omega) (by simp)
theorem is_yesL (k : Nat) (h : At s n (c :: R)) (hb : s.length ≤ 2000000) : f401 k s n c = some (true, n + 1) := by
  have hl := h.len
  rw [List.length_cons] at hl
  unfold f401
  rw [cdp (by omega), gdp (by omega), h.get, decide_eq_true rfl]
  unfold f401_j32
  rw [i64w (by omega)]
  rfl
theorem is_end (k : Nat) (d : UInt8) (h : At s n []) : f401 k s n d = some (false, n) := by
  have hl := h.len
  rw [List.length_nil] at hl
  unfold f401
  rw [cdn (by omega)]
  rfl
def isD (c : UInt8) : Prop := 48 ≤ c.toNat ∧ c.toNat ≤ 57
theorem span2 (hb : s.length ≤ 2000000) : ∀ (R : List UInt8) (n : Int) (K : Nat), At s n R → R.length + 1 ≤ K →
    ∃ D R', R = D ++ R' ∧ (∀ c ∈ D, isD c) ∧ (∀ c t, R' = c :: t → ¬ isD c) ∧ f405_l28 s K n = some (.b0 (n + ((D.length : Nat) : Int))) ∧ f350_l27 s K n = some (.b0 (n + ((D.length : Nat) : Int))) := by
  intro R
  induction R with
  | nil =>
    intro n K h hK
    obtain ⟨K, rfl⟩ : ∃ i, K = i + 1 := ⟨K - 1, by omega⟩
    have hl := h.len
    rw [List.length_nil] at hl
    refine ⟨[], [], rfl, fun c h => (List.not_mem_nil h).elim, (fun c t e => by cases e), ?_, ?_⟩
    · rw [f405_l28, cdn (by omega)]; simp
    · rw [f350_l27, cdn (by omega)]; simp
  | cons c t ih =>
    intro n K h hK
    rw [List.length_cons] at hK
    obtain ⟨K, rfl⟩ : ∃ i, K = i + 1 := ⟨K - 1, by omega⟩
    have hl := h.len
    rw [List.length_cons] at hl
    by_cases hd : isD c
    · obtain ⟨D, R', e, h1, hmx, h2, h3⟩ := ih (n + 1) K h.next (by omega)
      have hd' := hd
      unfold isD at hd'
      refine ⟨c :: D, R', by rw [e]; rfl, fun x hx => ?_, hmx, ?_, ?_⟩
      · rcases List.mem_cons.1 hx with rfl | hx
        · exact hd
        · exact h1 x hx
      · rw [f405_l28, cdp (by omega), gdp (by omega), h.get, cdp (by omega), gdp (by omega), cdp (by omega), i64w (by omega), h2, List.length_cons]
        congr 2; omega
      · rw [f350_l27, cdp (by omega), gdp (by omega), h.get, cdp (by omega), gdp (by omega), cdp (by omega), i64w (by omega), h3, List.length_cons]
        congr 2; omega
    · refine ⟨[], c :: t, rfl, fun c h => (List.not_mem_nil h).elim, (fun c' t' e => by cases e; exact hd), ?_, ?_⟩
      · unfold isD at hd
        rw [f405_l28, cdp (by omega), gdp (by omega), h.get]
        by_cases h1 : c.toNat < 48
        · rw [cdn (by omega)]; simp
        · rw [cdp (by omega), gdp (by omega), cdn (by omega)]; simp
      · unfold isD at hd
        rw [f350_l27, cdp (by omega), gdp (by omega), h.get]
        by_cases h1 : c.toNat < 48
        · rw [cdn (by omega)]; simp
        · rw [cdp (by omega), gdp (by omega), cdn (by omega)]; simp
theorem all_digits {D : List UInt8} (hb : D.length ≤ 2000000) : ∀ (R : List UInt8) (n : Int) (K : Nat), (∀ c ∈ R, isD c) → At D n R → R.length + 1 ≤ K → f406_l44 D K n = some (.b0 ()) := by
  intro R
  induction R with
  | nil =>
    intro n K hd h hK
    obtain ⟨K, rfl⟩ : ∃ i, K = i + 1 := ⟨K - 1, by omega⟩
    have hl := h.len
    rw [List.length_nil] at hl
    rw [f406_l44, cdn (by omega)]
  | cons c t ih =>
    intro n K hd h hK
    rw [List.length_cons] at hK
    obtain ⟨K, rfl⟩ : ∃ i, K = i + 1 := ⟨K - 1, by omega⟩
    have hl := h.len
    rw [List.length_cons] at hl
    have hc := hd c (List.mem_cons_self ..)
    unfold isD at hc
    rw [f406_l44, cdp (by omega), gdp (by omega), h.get, cdn (by omega), gdp (by omega), cdn (by omega), i64w (by omega)]
    exact ih (n + 1) K (fun x hx => hd x (List.mem_cons_of_mem _ hx)) h.next (by omega)
/-- digits as they may be -/
def okD (D : List UInt8) : Bool := decide (D = [48]) || (decide (1 ≤ D.length) && decide (D.length ≤ 19) && decide (D.getD 0 0 ≠ 48))
theorem j37_at (K : Nat) (D : List UInt8) (hd : ∀ c ∈ D, isD c) (hb : D.length ≤ 2000000) (hK : D.length + 1 ≤ K) : f406_j37 K D = some (okD D) := by
  unfold f406_j37
  rw [all_digits hb D 0 K hd (At.start D) hK, Option.bind_some]
  show f406_j85 K D = _
  unfold f406_j85 okD
  by_cases h0 : D = [48]
  · rw [cdp h0, decide_eq_true h0]
    rfl
  · rw [cdn h0, decide_eq_false h0, Bool.false_or]
    by_cases h1 : 1 ≤ D.length
    · rw [cdp (by omega), decide_eq_true h1, Bool.true_and]
      by_cases h2 : D.length ≤ 19
      · rw [cdp (by omega), decide_eq_true h2, Bool.true_and, gdp (by omega)]
        congr 1
        show decide ((((D.getD 0 0).toNat : Nat) : Int) ≠ 48) = decide (D.getD 0 0 ≠ 48)
        rw [decide_eq_decide]
        constructor
        · intro h e
          rw [e] at h
          exact h rfl
        · intro h e
          exact h (UInt8.toNat.inj (by rw [show (48 : UInt8).toNat = 48 from rfl]; omega))
      · rw [cdn (by omega), decide_eq_false h2, Bool.false_and]
    · rw [cdn (by omega), decide_eq_false h1, Bool.false_and, Bool.false_and]
theorem num_pos (K : Nat) (D : List UInt8) (hd : ∀ c ∈ D, isD c) (hb : D.length ≤ 2000000) (hK : D.length + 1 ≤ K) : f406 K D = some (okD D) := by
  unfold f406
  cases D with
  | nil =>
    rw [cdn (by simp)]
    show f406_j37 K [] = _
    exact j37_at K [] hd hb hK
  | cons c t =>
    have hc := hd c (List.mem_cons_self ..)
    unfold isD at hc
    rw [cdp (by simp only [List.length_cons]; omega), gdp (by simp only [List.length_cons]; omega)]
    show f406_j17 K (c :: t) (decide ((c.toNat : Int) = 45)) = _
    rw [decide_eq_false (by omega)]
    exact j37_at K (c :: t) hd hb hK
theorem num_neg (K : Nat) (D : List UInt8) (hd : ∀ c ∈ D, isD c) (hb : D.length ≤ 2000000) (hK : D.length + 1 ≤ K) : f406 K (45 :: D) = some (!decide (D = [48]) && okD D) := by
  have hA : At (45 :: D) 1 D := ⟨[45], rfl, rfl⟩
  unfold f406
  rw [cdp (by simp only [List.length_cons]; omega), gdp (by simp only [List.length_cons]; omega)]
  show f406_j17 K (45 :: D) true = _
  unfold f406_j17
  rw [cond_true, gdp (by simp only [List.length_cons]; omega), hA.sl]
  by_cases h0 : D = [48]
  · rw [cdp h0, decide_eq_true h0]
    rfl
  · rw [cdn h0, decide_eq_false h0, j37_at K D hd hb hK]
    simp
def goodD (D : List UInt8) : Prop := 1 ≤ D.length ∧ D.length ≤ 19 ∧ ¬ (D.length > 1 ∧ D.getD 0 0 = 48)
theorem num_core (hb : s.length ≤ 2000000) (K : Nat) (h : At s n R) (hK : R.length + 2 ≤ K) :
    ∃ (neg : Bool) (D R' : List UInt8), R = cond neg [45] [] ++ (D ++ R') ∧ (neg = false → ∀ c t, D ++ R' = c :: t → c ≠ 45) ∧ (∀ c ∈ D, isD c) ∧ (∀ c t, R' = c :: t → ¬ isD c) ∧
      ((goodD D ∧ f405 K s n = some (0, 4, (if cond neg [45] [] ++ D = [45, 48] then [48] else cond neg [45] [] ++ D), n + (((cond neg [(45 : UInt8)] [] ++ D).length : Nat) : Int)) ∧ f350 K s n 0 = some ((if cond neg [45] [] ++ D = [45, 48] then [48] else cond neg [45] [] ++ D), n + (((cond neg [(45 : UInt8)] [] ++ D).length : Nat) : Int), 0)) ∨
       (¬ goodD D ∧ f350 K s n 0 = some ([], n + (((cond neg [(45 : UInt8)] [] ++ D).length : Nat) : Int), 4))) := by
  obtain ⟨neg, R1, hneg⟩ : ∃ (neg : Bool) (R1 : List UInt8), R = cond neg [45] [] ++ R1 ∧ (neg = false → ∀ c t, R1 = c :: t → c ≠ 45) := by
    match R with
    | [] => exact ⟨false, [], rfl, fun _ c t e => by cases e⟩
    | c :: t =>
      by_cases hc : c = 45
      · subst hc; exact ⟨true, t, rfl, fun e => by cases e⟩
      · exact ⟨false, c :: t, rfl, fun _ c' t' e => by cases e; exact hc⟩
  obtain ⟨hR, hnn⟩ := hneg
  obtain ⟨m, hm⟩ : ∃ m : Nat, m = (cond neg [(45 : UInt8)] []).length := ⟨_, rfl⟩
  have h' : At s n (cond neg [45] [] ++ R1) := hR ▸ h
  have h1 : At s (n + (m : Int)) R1 := by rw [hm]; exact h'.skip
  have hm1 : m ≤ 1 := by rw [hm]; cases neg <;> simp
  have hRl : R.length = m + R1.length := by rw [hR, List.length_append, hm]
  have p1 : f401 K s n 45 = some (neg, n + (m : Int)) := by
    cases neg with
    | true => rw [hm]; exact is_yesL K (R := R1) h' hb
    | false =>
      have : m = 0 := hm
      subst this
      rw [show n + ((0 : Nat) : Int) = n by omega]
      match R1, h', hnn with
      | [], h', hnn => exact is_end K 45 h'
      | c :: t, h', hnn => exact is_no K h' (fun e => hnn rfl c t rfl (UInt8.toNat.inj (by omega)))
  have r1 : f299 K s n 0 [45] = some (neg, n + (m : Int)) := by
    cases neg with
    | true => rw [hm]; exact ris_yes K 0 [45] (R := R1) h' hb
    | false =>
      have : m = 0 := hm
      subst this
      rw [show n + ((0 : Nat) : Int) = n by omega]
      match R1, h', hnn with
      | [], h', hnn => exact ris_0 K 0 45 [] h' hb (by simp)
      | c :: t, h', hnn => exact ris_1 K 0 45 h' hb (hnn rfl c t rfl)
  obtain ⟨D, R', eD, hd, hmx, pl, rl⟩ := span2 hb R1 (n + (m : Int)) K h1 (by omega)
  have hl := h.len
  have eL : R1.length = D.length + R'.length := by rw [eD, List.length_append]
  have h2 : At s (n + (m : Int) + ((D.length : Nat) : Int)) R' := by rw [eD] at h1; exact h1.skip
  have hsl : Abs.sl s n (n + (m : Int) + ((D.length : Nat) : Int)) = cond neg [45] [] ++ D := by
    have := h.slk (m + D.length) (by omega)
    rw [show n + ((m + D.length : Nat) : Int) = n + (m : Int) + ((D.length : Nat) : Int) by omega] at this
    rw [this, hR, eD, ← List.append_assoc, List.take_left' (by rw [List.length_append, hm])]
  obtain ⟨x, hx⟩ : ∃ x, n + (m : Int) + ((D.length : Nat) : Int) = x := ⟨_, rfl⟩
  rw [hx] at pl rl h2 hsl
  obtain ⟨T, hT⟩ : ∃ T, cond neg [(45 : UInt8)] [] ++ D = T := ⟨_, rfl⟩
  rw [hT] at hsl
  have h6 : f406 K T = some (cond neg (!decide (D = [48]) && okD D) (okD D)) := by
    rw [← hT]
    cases neg with
    | true => exact num_neg K D hd (by omega) (by omega)
    | false => exact num_pos K D hd (by omega) (by omega)
  have eT : T = [45, 48] ↔ neg = true ∧ D = [48] := by
    rw [← hT]
    cases neg with
    | true => simp
    | false =>
      simp only [cond_false, List.nil_append, Bool.false_eq_true, false_and, iff_false]
      intro e
      have := hd 45 (by rw [e]; simp)
      unfold isD at this
      rw [show (45 : UInt8).toNat = 45 from rfl] at this
      omega
  have p : f405 K s n = cond (!(cond neg (!decide (D = [48]) && okD D) (okD D))) (cond (decide (T ≠ ([45, 48] : List UInt8))) (f405_j116 K x s n true) (f405_j116 K x s n (decide (((D.length : Nat) : Int) > (19 : Int))))) (f405_j116 K x s n (decide (((D.length : Nat) : Int) > (19 : Int)))) := by
    unfold f405
    rw [p1, Option.bind_some]
    show Option.bind (f405_l28 s K (n + (m : Int))) _ = _
    rw [pl, Option.bind_some]
    show gd (0 ≤ n ∧ n ≤ x ∧ x ≤ ((s.length : Nat) : Int)) ((f406 K (Abs.sl s n x)).bind fun r101 => cond (!r101) (cond (decide ((Abs.sl s n x) ≠ ([45, 48] : List UInt8))) (f405_j116 K x s n true) (f405_j116 K x s n (decide ((IntKind.i64.wrap (x - (n + (m : Int)))) > (19 : Int))))) (f405_j116 K x s n (decide ((IntKind.i64.wrap (x - (n + (m : Int)))) > (19 : Int))))) = _
    rw [gdp (by omega), hsl, h6, Option.bind_some, show x - (n + (m : Int)) = ((D.length : Nat) : Int) by omega, i64w (by omega)]
  have r : f350 K s n 0 = cond (decide (((D.length : Nat) : Int) < (1 : Int))) (f350_j114 K s x 0 n true) (cond (decide (((D.length : Nat) : Int) > (19 : Int))) (f350_j114 K s x 0 n true) (cond (decide (((D.length : Nat) : Int) > (1 : Int))) (gd (0 ≤ n + (m : Int) ∧ n + (m : Int) < ((s.length : Nat) : Int)) (f350_j114 K s x 0 n (decide ((((s.getD (n + (m : Int)).toNat 0).toNat : Nat) : Int) = (48 : Int))))) (f350_j114 K s x 0 n false))) := by
    unfold f350
    rw [r1, Option.bind_some]
    show Option.bind (f350_l27 s K (n + (m : Int))) _ = _
    rw [rl, Option.bind_some]
    show cond (decide ((IntKind.i64.wrap (x - (n + (m : Int)))) < (1 : Int))) (f350_j114 K s x 0 n true) (cond (decide ((IntKind.i64.wrap (x - (n + (m : Int)))) > (19 : Int))) (f350_j114 K s x 0 n true) (cond (decide ((IntKind.i64.wrap (x - (n + (m : Int)))) > (1 : Int))) (gd (0 ≤ n + (m : Int) ∧ n + (m : Int) < ((s.length : Nat) : Int)) (f350_j114 K s x 0 n (decide ((((s.getD (n + (m : Int)).toNat 0).toNat : Nat) : Int) = (48 : Int))))) (f350_j114 K s x 0 n false))) = _
    rw [show x - (n + (m : Int)) = ((D.length : Nat) : Int) by omega, i64w (by omega)]
  have pt : f405_j116 K x s n true = some (4, 0, [], x) := rfl
  have rt : f350_j114 K s x 0 n true = some ([], x, 4) := rfl
  have pf : f405_j116 K x s n false = some (0, 4, (if T = [45, 48] then [48] else T), x) := by
    unfold f405_j116
    rw [cond_false, hsl]
    by_cases e : T = [45, 48]
    · rw [cdp e, if_pos e]; rfl
    · rw [cdn e, if_neg e]; rfl
  have rf : f350_j114 K s x 0 n false = some ((if T = [45, 48] then [48] else T), x, 0) := by
    unfold f350_j114
    rw [cond_false, gdp (by omega), hsl]
    by_cases e : T = [45, 48]
    · rw [cdp e, if_pos e]
    · rw [cdn e, gdp (by omega), if_neg e]
  have hxx : x = n + (((cond neg [(45 : UInt8)] [] ++ D).length : Nat) : Int) := by rw [← hx, List.length_append, ← hm]; omega
  refine ⟨neg, D, R', by rw [hR, eD], by rw [← eD]; exact hnn, hd, hmx, ?_⟩
  rw [← hxx, hT]
  by_cases l0 : D.length < 1
  · right
    refine ⟨fun q => absurd q.1 (by omega), ?_⟩
    have hD : D = [] := List.length_eq_zero_iff.1 (by omega)
    have : okD D = false := by rw [hD]; rfl
    have hne : T ≠ [45, 48] := fun e => by
      have := (eT.1 e).2
      rw [hD] at this
      cases this
    rw [r, cdp (by omega), rt]
  · by_cases l1 : D.length > 19
    · right
      refine ⟨fun q => absurd q.2.1 (by omega), ?_⟩
      rw [r, cdn (by omega), cdp (by omega), rt]
    · have r' : f350 K s n 0 = f350_j114 K s x 0 n (decide (D.length > 1) && decide (D.getD 0 0 = 48)) := by
        rw [r, cdn (by omega), cdn (by omega)]
        by_cases l2 : D.length > 1
        · have hg : s.getD (n + (m : Int)).toNat 0 = D.getD 0 0 := by
            cases D with
            | nil => simp at l2
            | cons c t =>
              rw [eD] at h1
              exact At.get (R := t ++ R') h1
          rw [cdp (by omega), gdp (by omega), hg, decide_eq_true l2, Bool.true_and]
          congr 1
          rw [decide_eq_decide]
          constructor
          · intro e
            exact UInt8.toNat.inj (by rw [show (48 : UInt8).toNat = 48 from rfl]; omega)
          · intro e
            rw [e]
            rfl
        · rw [cdn (by omega), decide_eq_false l2, Bool.false_and]
      have p' : f405 K s n = f405_j116 K x s n (decide (D.length > 1) && decide (D.getD 0 0 = 48)) := by
        rw [p, decide_eq_false (p := ((D.length : Nat) : Int) > 19) (by omega)]
        by_cases l2 : D.length > 1
        · have hne : D ≠ [48] := fun e => by rw [e] at l2; simp at l2
          have hne2 : T ≠ [45, 48] := fun e => hne (eT.1 e).2
          have : okD D = decide (D.getD 0 0 ≠ 48) := by
            unfold okD
            rw [decide_eq_false hne, decide_eq_true (by omega), decide_eq_true (by omega)]
            simp
          have e3 : cond neg (!decide (D = [48]) && okD D) (okD D) = decide (D.getD 0 0 ≠ 48) := by
            rw [decide_eq_false hne, this]
            cases neg <;> simp
          rw [e3, decide_eq_true l2, Bool.true_and]
          by_cases e4 : D.getD 0 0 = 48
          · rw [decide_eq_false (p := D.getD 0 0 ≠ 48) (fun q => q e4), decide_eq_true e4]
            show cond (decide (T ≠ [45, 48])) _ _ = _
            rw [cdp hne2]
          · rw [decide_eq_true (p := D.getD 0 0 ≠ 48) e4, decide_eq_false e4]
            rfl
        · rw [decide_eq_false l2, Bool.false_and]
          obtain ⟨c, rfl⟩ : ∃ c, D = [c] := by
            match D, l0, l2 with
            | [c], _, _ => exact ⟨c, rfl⟩
            | [], l0, _ => simp at l0
            | _ :: _ :: _, _, l2 => simp at l2
          have ok1 : okD [c] = true := by
            unfold okD
            by_cases e : c = 48
            · subst e; rfl
            · simp [e]
          rw [ok1]
          by_cases e4 : T = [45, 48]
          · cases (!(cond neg (!decide ([c] = [48]) && true) true)) with
            | true =>
              rw [cond_true, cdn (fun q => q e4)]
            | false => rfl
          · have : (cond neg (!decide ([c] = [48]) && true) true) = true := by
              cases neg with
              | false => rfl
              | true =>
                have : ¬ ([c] = [48]) := fun e => e4 (eT.2 ⟨rfl, e⟩)
                rw [decide_eq_false this]
                rfl
            rw [this]
            rfl
      cases hq : (decide (D.length > 1) && decide (D.getD 0 0 = 48)) with
      | true =>
        rw [hq] at p' r'
        refine .inr ⟨fun q => ?_, r'.trans rt⟩
        simp only [Bool.and_eq_true, decide_eq_true_eq] at hq
        exact q.2.2 hq
      | false =>
        rw [hq] at p' r'
        refine .inl ⟨⟨by omega, by omega, fun q => ?_⟩, p'.trans pf, r'.trans rf⟩
        rw [decide_eq_true q.1, decide_eq_true q.2] at hq
        cases hq
/-- a number's text -/
def NumT (t : List UInt8) : Prop := ∃ (neg : Bool) (D : List UInt8), t = cond neg [45] [] ++ D ∧ (∀ c ∈ D, isD c) ∧ goodD D ∧ t ≠ [45, 48]
theorem numeral_def (K : Nat) (t : List UInt8) (hb : t.length ≤ 2000000) (hK : t.length + 2 ≤ K) : ∃ b, f349 K t = some b ∧ (b = true → NumT t) := by
  obtain ⟨neg, D, R', e, _, hd, hmx, ⟨hg, _, h2⟩ | ⟨hg, h2⟩⟩ := num_core hb K (At.start t) hK
  · unfold f349
    rw [h2, Option.bind_some]
    show ∃ b, cond (decide ((0 : Int) = 0)) (cond (decide ((0 : Int) + (((cond neg [(45 : UInt8)] [] ++ D).length : Nat) : Int) = ((t.length : Nat) : Int))) (some (decide ((if cond neg [45] [] ++ D = [45, 48] then [48] else cond neg [45] [] ++ D) = t))) (some false)) (some false) = some b ∧ _
    rw [cdp rfl]
    by_cases hl : (0 : Int) + (((cond neg [(45 : UInt8)] [] ++ D).length : Nat) : Int) = ((t.length : Nat) : Int)
    · rw [cdp hl]
      refine ⟨_, rfl, fun hq => ?_⟩
      have hq := of_decide_eq_true hq
      have hR : R' = [] := by
        have := congrArg List.length e
        simp only [List.length_append] at this hl
        exact List.length_eq_zero_iff.1 (by omega)
      rw [hR, List.append_nil] at e
      refine ⟨neg, D, e, hd, hg, fun h48 => ?_⟩
      rw [← e, if_pos h48, h48] at hq
      cases hq
    · rw [cdn hl]
      exact ⟨false, rfl, fun h => by cases h⟩
  · unfold f349
    rw [h2, Option.bind_some]
    show ∃ b, cond (decide ((4 : Int) = 0)) _ (some false) = some b ∧ _
    rw [cdn (by decide)]
    exact ⟨false, rfl, fun h => by cases h⟩
/-- digits up to where none is: one way -/
theorem digits_one : ∀ (D D' R R' : List UInt8), D ++ R = D' ++ R' → (∀ c ∈ D, isD c) → (∀ c ∈ D', isD c) → (∀ c t, R = c :: t → ¬ isD c) → (∀ c t, R' = c :: t → ¬ isD c) → D = D' ∧ R = R'
  | [], [], R, R', e, _, _, _, _ => ⟨rfl, e⟩
  | [], d :: D', R, R', e, _, h2, h3, _ => absurd (h2 d (List.mem_cons_self ..)) (h3 d (D' ++ R') e)
  | d :: D, [], R, R', e, h1, _, _, h4 => absurd (h1 d (List.mem_cons_self ..)) (h4 d (D ++ R) e.symm)
  | d :: D, d' :: D', R, R', e, h1, h2, h3, h4 => by
    obtain ⟨e1, e2⟩ := List.cons.inj e
    obtain ⟨g1, g2⟩ := digits_one D D' R R' e2 (fun c hc => h1 c (List.mem_cons_of_mem _ hc)) (fun c hc => h2 c (List.mem_cons_of_mem _ hc)) h3 h4
    exact ⟨by rw [e1, g1], g2⟩
/-- a number's text, wherever it stands -/
theorem num_place {s R t : List UInt8} {n : Int} (hb : s.length ≤ 2000000) (K : Nat) (ht : NumT t) (h : At s n (t ++ R)) (hR : ∀ c u, R = c :: u → ¬ isD c) (hK : (t ++ R).length + 2 ≤ K) : f405 K s n = some (0, 4, t, n + ((t.length : Nat) : Int)) ∧ f350 K s n 0 = some (t, n + ((t.length : Nat) : Int), 0) := by
  obtain ⟨neg, D, e, hd, hg, h48⟩ := ht
  obtain ⟨neg', D', R', e', hn', hd', hmx, hor⟩ := num_core hb K h hK
  have hD1 : ∃ c u, D = c :: u := by
    cases D with
    | nil => exact absurd hg.1 (by simp)
    | cons c u => exact ⟨c, u, rfl⟩
  have hc : neg = neg' ∧ D ++ R = D' ++ R' := by
    rw [e, List.append_assoc] at e'
    cases neg with
    | true =>
      cases neg' with
      | true => exact ⟨rfl, (List.cons.inj e').2⟩
      | false => exact absurd rfl (hn' rfl 45 (D ++ R) e'.symm)
    | false =>
      cases neg' with
      | true =>
        obtain ⟨c, u, hcu⟩ := hD1
        rw [hcu] at e'
        have : c = 45 := (List.cons.inj e').1
        have hdc := hd c (by rw [hcu]; exact List.mem_cons_self ..)
        rw [this] at hdc
        exact absurd hdc (by unfold isD; decide)
      | false => exact ⟨rfl, e'⟩
  obtain ⟨rfl, hc2⟩ := hc
  obtain ⟨rfl, rfl⟩ := digits_one D D' R R' hc2 hd hd' hR hmx
  rcases hor with ⟨_, g1, g2⟩ | ⟨q, _⟩
  · rw [← e, if_neg h48] at g1 g2
    exact ⟨g1, g2⟩
  · exact absurd hg q
theorem numeral_true (K : Nat) (t : List UInt8) (hb : t.length ≤ 2000000) (hK : t.length + 2 ≤ K) (ht : NumT t) : f349 K t = some true := by
  have h0 : At t 0 (t ++ []) := by rw [List.append_nil]; exact At.start t
  obtain ⟨_, g⟩ := num_place hb K ht h0 (fun c u e => by cases e) (by rw [List.append_nil]; exact hK)
  unfold f349
  rw [g, Option.bind_some]
  show cond (decide ((0 : Int) = 0)) (cond (decide ((0 : Int) + ((t.length : Nat) : Int) = ((t.length : Nat) : Int))) (some (decide (t = t))) (some false)) (some false) = _
  rw [cdp rfl, cdp (by omega), decide_eq_true rfl]
theorem in_atL (ks : List (List UInt8)) (q : List UInt8) (hb : ks.length ≤ 2000000) : ∀ (rest pre : List (List UInt8)) (K : Nat), ks = pre ++ rest → rest.length + 1 ≤ K → q ∉ pre →
    (∃ z, f77_l10 ks q K ((pre.length : Nat) : Int) = some z ∧ ((q ∈ ks ∧ z = .r true) ∨ (q ∉ ks ∧ z = .b0 ()))) := by
  intro rest
  induction rest with
  | nil =>
    intro pre K e hK hq
    obtain ⟨K, rfl⟩ : ∃ j, K = j + 1 := ⟨K - 1, by omega⟩
    refine ⟨.b0 (), ?_, .inr ⟨by rw [e]; simpa using hq, rfl⟩⟩
    rw [f77_l10, cdn (by rw [e]; simp)]
  | cons x t ih =>
    intro pre K e hK hq
    rw [List.length_cons] at hK
    obtain ⟨K, rfl⟩ : ∃ j, K = j + 1 := ⟨K - 1, by omega⟩
    have hl : ks.length = pre.length + (t.length + 1) := by rw [e]; simp
    have hm : rd ks ((pre.length : Nat) : Int) = x := by rw [e]; exact rd_mid
    rw [f77_l10, cdp (by omega), gdp (by omega), hm]
    by_cases hx : x = q
    · rw [cdp hx]
      exact ⟨_, rfl, .inl ⟨by rw [e, hx]; simp, rfl⟩⟩
    · rw [cdn hx, i64w (by omega)]
      have := ih (pre ++ [x]) K (by rw [e]; simp) (by omega) (by
        intro hin
        rcases List.mem_append.1 hin with h | h
        · exact hq h
        · exact hx (List.mem_singleton.1 h).symm)
      simpa using this
theorem has_atL (K : Nat) (ks : List (List UInt8)) (q : List UInt8) (hb : ks.length ≤ 2000000) (hK : ks.length + 1 ≤ K) : f77 K ks q = some (decide (q ∈ ks)) := by
  obtain ⟨z, h1, h2⟩ := in_atL ks q hb ks [] K rfl hK (by simp)
  unfold f77
  show Option.bind (f77_l10 ks q K (((([] : List (List UInt8)).length : Nat)) : Int)) _ = _
  rw [h1, Option.bind_some]
  rcases h2 with ⟨h, rfl⟩ | ⟨h, rfl⟩
  · rw [decide_eq_true h]
  · rw [decide_eq_false h]
end Go.Proofs.Abs
