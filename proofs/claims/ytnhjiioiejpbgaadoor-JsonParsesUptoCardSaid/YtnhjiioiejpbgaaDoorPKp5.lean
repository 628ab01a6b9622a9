/- Two parsers of json at the same place: numbers. -/
import Derived.Test.YtnhjiioiejpbgaaDoorPKp4
set_option linter.unusedSimpArgs false
namespace Go.Proofs.Abs
open Go
set_option linter.unusedVariables false
set_option maxRecDepth 100000
variable {s R : List UInt8} {n : Int} {c : UInt8}
def isD (c : UInt8) : Prop := 48 ≤ c.toNat ∧ c.toNat ≤ 57
theorem span2 (hb : s.length ≤ 20000) : ∀ (R : List UInt8) (n : Int) (K : Nat), At s n R → R.length + 1 ≤ K →
    ∃ D R', R = D ++ R' ∧ (∀ c ∈ D, isD c) ∧ f405_l28 s K n = some (.b0 (n + ((D.length : Nat) : Int))) ∧ f350_l27 s K n = some (.b0 (n + ((D.length : Nat) : Int))) := by
  intro R
  induction R with
  | nil =>
    intro n K h hK
    obtain ⟨K, rfl⟩ : ∃ i, K = i + 1 := ⟨K - 1, by omega⟩
    have hl := h.len
    rw [List.length_nil] at hl
    refine ⟨[], [], rfl, fun c h => (List.not_mem_nil h).elim, ?_, ?_⟩
    · rw [f405_l28, cdn (by omega)]; simp
    · rw [f350_l27, cdn (by omega)]; simp
  | cons c t ih =>
    intro n K h hK
    rw [List.length_cons] at hK
    obtain ⟨K, rfl⟩ : ∃ i, K = i + 1 := ⟨K - 1, by omega⟩
    have hl := h.len
    rw [List.length_cons] at hl
    by_cases hd : isD c
    · obtain ⟨D, R', e, h1, h2, h3⟩ := ih (n + 1) K h.next (by omega)
      have hd' := hd
      unfold isD at hd'
      refine ⟨c :: D, R', by rw [e]; rfl, fun x hx => ?_, ?_, ?_⟩
      · rcases List.mem_cons.1 hx with rfl | hx
        · exact hd
        · exact h1 x hx
      · rw [f405_l28, cdp (by omega), gdp (by omega), h.get, cdp (by omega), gdp (by omega), cdp (by omega), i64w (by omega), h2, List.length_cons]
        congr 2; omega
      · rw [f350_l27, cdp (by omega), gdp (by omega), h.get, cdp (by omega), gdp (by omega), cdp (by omega), i64w (by omega), h3, List.length_cons]
        congr 2; omega
    · refine ⟨[], c :: t, rfl, fun c h => (List.not_mem_nil h).elim, ?_, ?_⟩
      · unfold isD at hd
        rw [f405_l28, cdp (by omega), gdp (by omega), h.get]
        by_cases h1 : c.toNat < 48
        · rw [cdn (by omega)]; simp
        · rw [cdp (by omega), gdp (by omega), cdn (by omega)]; simp
      · unfold isD at hd
        rw [f350_l27, cdp (by omega), gdp (by omega), h.get]
        by_cases h1 : c.toNat < 48
        · rw [cdn (by omega)]; simp
        · rw [cdp (by omega), gdp (by omega), cdn (by omega)]; simp
theorem all_digits {D : List UInt8} (hb : D.length ≤ 20000) : ∀ (R : List UInt8) (n : Int) (K : Nat), (∀ c ∈ R, isD c) → At D n R → R.length + 1 ≤ K → f406_l44 D K n = some (.b0 ()) := by
  intro R
  induction R with
  | nil =>
    intro n K hd h hK
    obtain ⟨K, rfl⟩ : ∃ i, K = i + 1 := ⟨K - 1, by omega⟩
    have hl := h.len
    rw [List.length_nil] at hl
    rw [f406_l44, cdn (by omega)]
  | cons c t ih =>
    intro n K hd h hK
    rw [List.length_cons] at hK
    obtain ⟨K, rfl⟩ : ∃ i, K = i + 1 := ⟨K - 1, by omega⟩
    have hl := h.len
    rw [List.length_cons] at hl
    have hc := hd c (List.mem_cons_self ..)
    unfold isD at hc
    rw [f406_l44, cdp (by omega), gdp (by omega), h.get, cdn (by omega), gdp (by omega), cdn (by omega), i64w (by omega)]
    exact ih (n + 1) K (fun x hx => hd x (List.mem_cons_of_mem _ hx)) h.next (by omega)
/-- digits as they may be -/
def okD (D : List UInt8) : Bool := decide (D = [48]) || (decide (1 ≤ D.length) && decide (D.length ≤ 19) && decide (D.getD 0 0 ≠ 48))
theorem j37_at (K : Nat) (D : List UInt8) (hd : ∀ c ∈ D, isD c) (hb : D.length ≤ 20000) (hK : D.length + 1 ≤ K) : f406_j37 K D = some (okD D) := by
  unfold f406_j37
  rw [all_digits hb D 0 K hd (At.start D) hK, Option.bind_some]
  show f406_j85 K D = _
  unfold f406_j85 okD
  by_cases h0 : D = [48]
  · rw [cdp h0, decide_eq_true h0]
    rfl
  · rw [cdn h0, decide_eq_false h0, Bool.false_or]
    by_cases h1 : 1 ≤ D.length
    · rw [cdp (by omega), decide_eq_true h1, Bool.true_and]
      by_cases h2 : D.length ≤ 19
      · rw [cdp (by omega), decide_eq_true h2, Bool.true_and, gdp (by omega)]
        congr 1
        show decide ((((D.getD 0 0).toNat : Nat) : Int) ≠ 48) = decide (D.getD 0 0 ≠ 48)
        rw [decide_eq_decide]
        constructor
        · intro h e
          rw [e] at h
          exact h rfl
        · intro h e
          exact h (UInt8.toNat.inj (by rw [show (48 : UInt8).toNat = 48 from rfl]; omega))
      · rw [cdn (by omega), decide_eq_false h2, Bool.false_and]
    · rw [cdn (by omega), decide_eq_false h1, Bool.false_and, Bool.false_and]
theorem num_pos (K : Nat) (D : List UInt8) (hd : ∀ c ∈ D, isD c) (hb : D.length ≤ 20000) (hK : D.length + 1 ≤ K) : f406 K D = some (okD D) := by
  unfold f406
  cases D with
  | nil =>
    rw [cdn (by simp)]
    show f406_j37 K [] = _
    exact j37_at K [] hd hb hK
  | cons c t =>
    have hc := hd c (List.mem_cons_self ..)
    unfold isD at hc
    rw [cdp (by simp only [List.length_cons]; omega), gdp (by simp only [List.length_cons]; omega)]
    show f406_j17 K (c :: t) (decide ((c.toNat : Int) = 45)) = _
    rw [decide_eq_false (by omega)]
    exact j37_at K (c :: t) hd hb hK
theorem num_neg (K : Nat) (D : List UInt8) (hd : ∀ c ∈ D, isD c) (hb : D.length ≤ 20000) (hK : D.length + 1 ≤ K) : f406 K (45 :: D) = some (!decide (D = [48]) && okD D) := by
  have hA : At (45 :: D) 1 D := ⟨[45], rfl, rfl⟩
  unfold f406
  rw [cdp (by simp only [List.length_cons]; omega), gdp (by simp only [List.length_cons]; omega)]
  show f406_j17 K (45 :: D) true = _
  unfold f406_j17
  rw [cond_true, gdp (by simp only [List.length_cons]; omega), hA.sl]
  by_cases h0 : D = [48]
  · rw [cdp h0, decide_eq_true h0]
    rfl
  · rw [cdn h0, decide_eq_false h0, j37_at K D hd hb hK]
    simp
theorem numbers (hb : s.length ≤ 20000) (K : Nat) (h : At s n R) (hK : R.length + 2 ≤ K) :
    (∃ t n' R', f405 K s n = some (0, 4, t, n') ∧ f350 K s n 0 = some (t, n', 0) ∧ At s n' R' ∧ R'.length < R.length) ∨
    ((∃ n1, f405 K s n = some (4, 0, [], n1)) ∧ ∃ n2 R2, f350 K s n 0 = some ([], n2, 4) ∧ At s n2 R2 ∧ R2.length ≤ R.length) := by
  obtain ⟨neg, R1, hneg⟩ : ∃ (neg : Bool) (R1 : List UInt8), R = cond neg [45] [] ++ R1 ∧ (neg = false → ∀ c t, R1 = c :: t → c ≠ 45) := by
    match R with
    | [] => exact ⟨false, [], rfl, fun _ c t e => by cases e⟩
    | c :: t =>
      by_cases hc : c = 45
      · subst hc; exact ⟨true, t, rfl, fun e => by cases e⟩
      · exact ⟨false, c :: t, rfl, fun _ c' t' e => by cases e; exact hc⟩
  obtain ⟨hR, hnn⟩ := hneg
  obtain ⟨m, hm⟩ : ∃ m : Nat, m = (cond neg [(45 : UInt8)] []).length := ⟨_, rfl⟩
  have h' : At s n (cond neg [45] [] ++ R1) := hR ▸ h
  have h1 : At s (n + (m : Int)) R1 := by rw [hm]; exact h'.skip
  have hm1 : m ≤ 1 := by rw [hm]; cases neg <;> simp
  have hRl : R.length = m + R1.length := by rw [hR, List.length_append, hm]
  have p1 : f401 K s n 45 = some (neg, n + (m : Int)) := by
    cases neg with
    | true => rw [hm]; exact is_yes K (R := R1) h' hb
    | false =>
      have : m = 0 := hm
      subst this
      rw [show n + ((0 : Nat) : Int) = n by omega]
      match R1, h', hnn with
      | [], h', hnn => exact is_end K 45 h'
      | c :: t, h', hnn => exact is_no K h' (fun e => hnn rfl c t rfl (UInt8.toNat.inj (by omega)))
  have r1 : f299 K s n 0 [45] = some (neg, n + (m : Int)) := by
    cases neg with
    | true => rw [hm]; exact ris_yes K 0 [45] (R := R1) h' hb
    | false =>
      have : m = 0 := hm
      subst this
      rw [show n + ((0 : Nat) : Int) = n by omega]
      match R1, h', hnn with
      | [], h', hnn => exact ris_0 K 0 45 [] h' hb (by simp)
      | c :: t, h', hnn => exact ris_1 K 0 45 h' hb (hnn rfl c t rfl)
  obtain ⟨D, R', eD, hd, pl, rl⟩ := span2 hb R1 (n + (m : Int)) K h1 (by omega)
  have hl := h.len
  have eL : R1.length = D.length + R'.length := by rw [eD, List.length_append]
  have h2 : At s (n + (m : Int) + ((D.length : Nat) : Int)) R' := by rw [eD] at h1; exact h1.skip
  have hsl : Abs.sl s n (n + (m : Int) + ((D.length : Nat) : Int)) = cond neg [45] [] ++ D := by
    have := h.slk (m + D.length) (by omega)
    rw [show n + ((m + D.length : Nat) : Int) = n + (m : Int) + ((D.length : Nat) : Int) by omega] at this
    rw [this, hR, eD, ← List.append_assoc, List.take_left' (by rw [List.length_append, hm])]
  obtain ⟨x, hx⟩ : ∃ x, n + (m : Int) + ((D.length : Nat) : Int) = x := ⟨_, rfl⟩
  rw [hx] at pl rl h2 hsl
  obtain ⟨T, hT⟩ : ∃ T, cond neg [(45 : UInt8)] [] ++ D = T := ⟨_, rfl⟩
  rw [hT] at hsl
  have h6 : f406 K T = some (cond neg (!decide (D = [48]) && okD D) (okD D)) := by
    rw [← hT]
    cases neg with
    | true => exact num_neg K D hd (by omega) (by omega)
    | false => exact num_pos K D hd (by omega) (by omega)
  have eT : T = [45, 48] ↔ neg = true ∧ D = [48] := by
    rw [← hT]
    cases neg with
    | true => simp
    | false =>
      simp only [cond_false, List.nil_append, Bool.false_eq_true, false_and, iff_false]
      intro e
      have := hd 45 (by rw [e]; simp)
      unfold isD at this
      rw [show (45 : UInt8).toNat = 45 from rfl] at this
      omega
  have p : f405 K s n = cond (!(cond neg (!decide (D = [48]) && okD D) (okD D))) (cond (decide (T ≠ ([45, 48] : List UInt8))) (f405_j116 K x s n true) (f405_j116 K x s n (decide (((D.length : Nat) : Int) > (19 : Int))))) (f405_j116 K x s n (decide (((D.length : Nat) : Int) > (19 : Int)))) := by
    unfold f405
    rw [p1, Option.bind_some]
    show Option.bind (f405_l28 s K (n + (m : Int))) _ = _
    rw [pl, Option.bind_some]
    show gd (0 ≤ n ∧ n ≤ x ∧ x ≤ ((s.length : Nat) : Int)) ((f406 K (Abs.sl s n x)).bind fun r101 => cond (!r101) (cond (decide ((Abs.sl s n x) ≠ ([45, 48] : List UInt8))) (f405_j116 K x s n true) (f405_j116 K x s n (decide ((IntKind.i64.wrap (x - (n + (m : Int)))) > (19 : Int))))) (f405_j116 K x s n (decide ((IntKind.i64.wrap (x - (n + (m : Int)))) > (19 : Int))))) = _
    rw [gdp (by omega), hsl, h6, Option.bind_some, show x - (n + (m : Int)) = ((D.length : Nat) : Int) by omega, i64w (by omega)]
  have r : f350 K s n 0 = cond (decide (((D.length : Nat) : Int) < (1 : Int))) (f350_j114 K s x 0 n true) (cond (decide (((D.length : Nat) : Int) > (19 : Int))) (f350_j114 K s x 0 n true) (cond (decide (((D.length : Nat) : Int) > (1 : Int))) (gd (0 ≤ n + (m : Int) ∧ n + (m : Int) < ((s.length : Nat) : Int)) (f350_j114 K s x 0 n (decide ((((s.getD (n + (m : Int)).toNat 0).toNat : Nat) : Int) = (48 : Int))))) (f350_j114 K s x 0 n false))) := by
    unfold f350
    rw [r1, Option.bind_some]
    show Option.bind (f350_l27 s K (n + (m : Int))) _ = _
    rw [rl, Option.bind_some]
    show cond (decide ((IntKind.i64.wrap (x - (n + (m : Int)))) < (1 : Int))) (f350_j114 K s x 0 n true) (cond (decide ((IntKind.i64.wrap (x - (n + (m : Int)))) > (19 : Int))) (f350_j114 K s x 0 n true) (cond (decide ((IntKind.i64.wrap (x - (n + (m : Int)))) > (1 : Int))) (gd (0 ≤ n + (m : Int) ∧ n + (m : Int) < ((s.length : Nat) : Int)) (f350_j114 K s x 0 n (decide ((((s.getD (n + (m : Int)).toNat 0).toNat : Nat) : Int) = (48 : Int))))) (f350_j114 K s x 0 n false))) = _
    rw [show x - (n + (m : Int)) = ((D.length : Nat) : Int) by omega, i64w (by omega)]
  have pt : f405_j116 K x s n true = some (4, 0, [], x) := rfl
  have rt : f350_j114 K s x 0 n true = some ([], x, 4) := rfl
  have pf : f405_j116 K x s n false = some (0, 4, (if T = [45, 48] then [48] else T), x) := by
    unfold f405_j116
    rw [cond_false, hsl]
    by_cases e : T = [45, 48]
    · rw [cdp e, if_pos e]; rfl
    · rw [cdn e, if_neg e]; rfl
  have rf : f350_j114 K s x 0 n false = some ((if T = [45, 48] then [48] else T), x, 0) := by
    unfold f350_j114
    rw [cond_false, gdp (by omega), hsl]
    by_cases e : T = [45, 48]
    · rw [cdp e, if_pos e]
    · rw [cdn e, gdp (by omega), if_neg e]
  have bad : f405 K s n = some (4, 0, [], x) → f350 K s n 0 = some ([], x, 4) → ((∃ n1, f405 K s n = some (4, 0, [], n1)) ∧ ∃ n2 R2, f350 K s n 0 = some ([], n2, 4) ∧ At s n2 R2 ∧ R2.length ≤ R.length) := fun a b => ⟨⟨x, a⟩, x, R', b, h2, by omega⟩
  have good : f405 K s n = some (0, 4, (if T = [45, 48] then [48] else T), x) → f350 K s n 0 = some ((if T = [45, 48] then [48] else T), x, 0) → 1 ≤ D.length → (∃ t n' R', f405 K s n = some (0, 4, t, n') ∧ f350 K s n 0 = some (t, n', 0) ∧ At s n' R' ∧ R'.length < R.length) := fun a b l => ⟨_, x, R', a, b, h2, by omega⟩
  by_cases l0 : D.length < 1
  · right
    have hD : D = [] := List.length_eq_zero_iff.1 (by omega)
    have : okD D = false := by rw [hD]; rfl
    have hne : T ≠ [45, 48] := fun e => by
      have := (eT.1 e).2
      rw [hD] at this
      cases this
    refine bad ?_ ?_
    · rw [p, this]
      have : (!(cond neg (!decide (D = [48]) && false) false)) = true := by cases neg <;> simp
      rw [this, cond_true, cdp hne, pt]
    · rw [r, cdp (by omega), rt]
  · by_cases l1 : D.length > 19
    · right
      refine bad ?_ ?_
      · rw [p, decide_eq_true (p := ((D.length : Nat) : Int) > 19) (by omega), pt]
        cases (!(cond neg (!decide (D = [48]) && okD D) (okD D))) <;> cases (decide (T ≠ [45, 48])) <;> rfl
      · rw [r, cdn (by omega), cdp (by omega), rt]
    · have r' : f350 K s n 0 = f350_j114 K s x 0 n (decide (D.length > 1) && decide (D.getD 0 0 = 48)) := by
        rw [r, cdn (by omega), cdn (by omega)]
        by_cases l2 : D.length > 1
        · have hg : s.getD (n + (m : Int)).toNat 0 = D.getD 0 0 := by
            cases D with
            | nil => simp at l2
            | cons c t =>
              rw [eD] at h1
              exact At.get (R := t ++ R') h1
          rw [cdp (by omega), gdp (by omega), hg, decide_eq_true l2, Bool.true_and]
          congr 1
          rw [decide_eq_decide]
          constructor
          · intro e
            exact UInt8.toNat.inj (by rw [show (48 : UInt8).toNat = 48 from rfl]; omega)
          · intro e
            rw [e]
            rfl
        · rw [cdn (by omega), decide_eq_false l2, Bool.false_and]
      have p' : f405 K s n = f405_j116 K x s n (decide (D.length > 1) && decide (D.getD 0 0 = 48)) := by
        rw [p, decide_eq_false (p := ((D.length : Nat) : Int) > 19) (by omega)]
        by_cases l2 : D.length > 1
        · have hne : D ≠ [48] := fun e => by rw [e] at l2; simp at l2
          have hne2 : T ≠ [45, 48] := fun e => hne (eT.1 e).2
          have : okD D = decide (D.getD 0 0 ≠ 48) := by
            unfold okD
            rw [decide_eq_false hne, decide_eq_true (by omega), decide_eq_true (by omega)]
            simp
          have e3 : cond neg (!decide (D = [48]) && okD D) (okD D) = decide (D.getD 0 0 ≠ 48) := by
            rw [decide_eq_false hne, this]
            cases neg <;> simp
          rw [e3, decide_eq_true l2, Bool.true_and]
          by_cases e4 : D.getD 0 0 = 48
          · rw [decide_eq_false (p := D.getD 0 0 ≠ 48) (fun q => q e4), decide_eq_true e4]
            show cond (decide (T ≠ [45, 48])) _ _ = _
            rw [cdp hne2]
          · rw [decide_eq_true (p := D.getD 0 0 ≠ 48) e4, decide_eq_false e4]
            rfl
        · rw [decide_eq_false l2, Bool.false_and]
          obtain ⟨c, rfl⟩ : ∃ c, D = [c] := by
            match D, l0, l2 with
            | [c], _, _ => exact ⟨c, rfl⟩
            | [], l0, _ => simp at l0
            | _ :: _ :: _, _, l2 => simp at l2
          have ok1 : okD [c] = true := by
            unfold okD
            by_cases e : c = 48
            · subst e; rfl
            · simp [e]
          rw [ok1]
          by_cases e4 : T = [45, 48]
          · cases (!(cond neg (!decide ([c] = [48]) && true) true)) with
            | true =>
              rw [cond_true, cdn (fun q => q e4)]
            | false => rfl
          · have : (cond neg (!decide ([c] = [48]) && true) true) = true := by
              cases neg with
              | false => rfl
              | true =>
                have : ¬ ([c] = [48]) := fun e => e4 (eT.2 ⟨rfl, e⟩)
                rw [decide_eq_false this]
                rfl
            rw [this]
            rfl
      cases hq : (decide (D.length > 1) && decide (D.getD 0 0 = 48)) with
      | true =>
        rw [hq] at p' r'
        exact .inr (bad (p'.trans pt) (r'.trans rt))
      | false =>
        rw [hq] at p' r'
        exact .inl (good (p'.trans pf) (r'.trans rf) (by omega))
end Go.Proofs.Abs
