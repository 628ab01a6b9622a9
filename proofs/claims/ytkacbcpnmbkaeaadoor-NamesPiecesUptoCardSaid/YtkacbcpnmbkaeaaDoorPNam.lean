/- The laws of chapter 03 over the Lean functions: names. -/
import Derived.Test.YtkacbcpnmbkaeaaDoorGNamb
import Derived.Test.YtkacbcpnmbkaeaaDoorAbsxc
set_option linter.unusedSimpArgs false
namespace Go.Proofs.Abs
open Go
set_option linter.unusedVariables false
set_option maxRecDepth 10000
/-- may a byte stand in a name -/
def okc (f : Bool) (n : Int) : Bool := (decide (97 ≤ n) && decide (n ≤ 122)) || (decide (65 ≤ n) && decide (n ≤ 90)) || decide (n = 95) || (!f && decide (48 ≤ n) && decide (n ≤ 57))
def sc : Bool → List UInt8 → Bool
  | _, [] => true
  | f, c :: l => okc f ((c.toNat : Nat) : Int) && sc false l
/-- a simple name -/
def sim (a : List UInt8) : Bool := sc true a && (decide (0 < a.length) && decide (a.length ≤ 100))
/-- the pieces between points -/
def pcsA : List UInt8 → List UInt8 → List (List UInt8)
  | cur, [] => [cur]
  | cur, c :: l => if c = 46 then cur :: pcsA [] l else pcsA (cur ++ [c]) l
def fulln (a : List UInt8) : Bool := decide (a.length ≤ 100) && (pcsA [] a).all sim
/-- the place of the last point -/
def lsn : List UInt8 → Int
  | [] => -1
  | c :: l => if 0 ≤ lsn l then lsn l + 1 else if c = 46 then 0 else -1
theorem getD_drop {a : List UInt8} {i : Nat} (h : i < a.length) : a.drop i = a.getD i 0 :: a.drop (i + 1) := by
  rw [List.drop_eq_getElem_cons h]
  simp [List.getD, List.getElem?_eq_getElem h]
theorem sc_loop {a : List UInt8} (hn : a.length ≤ 1048576000) : ∀ (d i k : Nat), i + d = a.length → d < k → f320_l12 a k (i : Int) = some (cond (sc (decide (i = 0)) (a.drop i)) (.b0 ()) (.r false)) := by
  intro d
  induction d with
  | zero =>
    intro i k hi hk
    obtain ⟨k, rfl, _⟩ := succ_of_pos (show 0 < k by omega)
    rw [f320_l12, cdn (by omega), List.drop_of_length_le (by omega)]
    simp [sc]
  | succ d ih =>
    intro i k hi hk
    obtain ⟨k, rfl, _⟩ := succ_of_pos (show 0 < k by omega)
    have h1 := ih (i + 1) k (by omega) (by omega)
    have h0 : (decide (i + 1 = 0)) = false := by simp
    have hw : IntKind.i64.wrap ((i : Int) + 1) = ((i + 1 : Nat) : Int) := by rw [i64w (by omega)]; omega
    have hf : decide ((i : Int) > 0) = !(decide (i = 0)) := by by_cases c : i = 0 <;> simp [c]; omega
    rw [h0] at h1
    rw [f320_l12, cdp (by omega), gdp (by omega), getD_drop (by omega)]
    simp only [f320_j48, f320_j60]
    generalize hx : (((a.getD (i : Int).toNat 0).toNat : Nat) : Int) = n
    have hx' : (((a.getD i 0).toNat : Nat) : Int) = n := by rw [← hx, Int.toNat_natCast]
    simp only [hw, h1, sc, hf, hx']
    generalize sc false (List.drop (i + 1) a) = z
    generalize decide (i = 0) = f
    simp only [okc]
    by_cases c1 : n ≥ 97 <;> by_cases c2 : n ≤ 122 <;> by_cases c3 : n ≥ 65 <;> by_cases c4 : n ≤ 90 <;> by_cases c5 : n = 95 <;> by_cases c6 : n ≥ 48 <;> by_cases c7 : n ≤ 57 <;> first | (exfalso; omega) | (cases f <;> cases z <;> simp [c1, c2, c3, c4, c5, c6, c7])
theorem sc_loop2 {a : List UInt8} (hn : a.length ≤ 1048576000) : ∀ (d i k : Nat), i + d = a.length → d < k → f339_l10 a k (i : Int) = some (cond (sc (decide (i = 0)) (a.drop i)) (.b0 ()) (.r false)) := by
  intro d
  induction d with
  | zero =>
    intro i k hi hk
    obtain ⟨k, rfl, _⟩ := succ_of_pos (show 0 < k by omega)
    rw [f339_l10, cdn (by omega), List.drop_of_length_le (by omega)]
    simp [sc]
  | succ d ih =>
    intro i k hi hk
    obtain ⟨k, rfl, _⟩ := succ_of_pos (show 0 < k by omega)
    have h1 := ih (i + 1) k (by omega) (by omega)
    have h0 : (decide (i + 1 = 0)) = false := by simp
    have hw : IntKind.i64.wrap ((i : Int) + 1) = ((i + 1 : Nat) : Int) := by rw [i64w (by omega)]; omega
    have hf : decide ((i : Int) > 0) = !(decide (i = 0)) := by by_cases c : i = 0 <;> simp [c]; omega
    rw [h0] at h1
    rw [f339_l10, cdp (by omega), gdp (by omega), getD_drop (by omega)]
    generalize hx : (((a.getD (i : Int).toNat 0).toNat : Nat) : Int) = n
    have hx' : (((a.getD i 0).toNat : Nat) : Int) = n := by rw [← hx, Int.toNat_natCast]
    simp only [hw, h1, sc, hf, hx']
    generalize sc false (List.drop (i + 1) a) = z
    generalize decide (i = 0) = f
    simp only [okc]
    by_cases c1 : n ≥ 97 <;> by_cases c2 : n ≤ 122 <;> by_cases c3 : n ≥ 65 <;> by_cases c4 : n ≤ 90 <;> by_cases c5 : n = 95 <;> by_cases c6 : n ≥ 48 <;> by_cases c7 : n ≤ 57 <;> first | (exfalso; omega) | (cases f <;> cases z <;> simp [c1, c2, c3, c4, c5, c6, c7])
theorem simple1 {a : List UInt8} (hn : a.length ≤ 1048576000) {k : Nat} (hk : a.length < k) : f320 k a = some (sim a) := by
  have h := sc_loop hn a.length 0 k (by omega) hk
  rw [f320, show f320_l12 a k (0 : Int) = _ from h]
  simp only [List.drop_zero, decide_true, Option.bind_some, f320_j94, sim]
  cases sc true a
  · rfl
  · simp only [cond_true, Bool.true_and]
    by_cases c : 0 < a.length
    · rw [cdp (by omega), decide_eq_true c, Bool.true_and]; congr 1; simp; omega
    · rw [cdn (by omega), decide_eq_false c, Bool.false_and]
theorem simple2 {a : List UInt8} (hn : a.length ≤ 1048576000) {k : Nat} (hk : a.length < k) : f339 k a = some (sim a) := by
  have h := sc_loop2 hn a.length 0 k (by omega) hk
  rw [f339, show f339_l10 a k (0 : Int) = _ from h]
  simp only [List.drop_zero, decide_true, Option.bind_some, f339_j78, sim]
  cases sc true a
  · rfl
  · simp only [cond_true, Bool.true_and]
    by_cases c : 0 < a.length
    · rw [cdp (by omega), decide_eq_true c, Bool.true_and]; congr 1; simp; omega
    · rw [cdn (by omega), decide_eq_false c, Bool.false_and]
theorem pre1 {k : Nat} {a : List UInt8} : f318 k a [46] = some (decide (a.take 1 = [46])) := by
  cases a with
  | nil => rfl
  | cons c l => 
    rw [f318, f319, cdp (by simp; omega), gdp (by simp; omega)]
    simp [sl]
/-- the place of the first point -/
theorem idx1 {k : Nat} {a : List UInt8} (h : 0 < a.length) : f322 k a [46] = some (Lib.indexByte a 46) := by
  rw [f322, f323, cdn (by simp)]
  by_cases c : ([46] : List UInt8) = a
  · subst c; rw [f323_j24]; rfl
  · rw [decide_eq_false c, f323_j24, cond_false, cdp (by simp), gdp (by simp)]
    rfl
theorem idx0 {k : Nat} : f322 k [] [46] = some (-1) := by rfl
theorem ix_nil : Lib.indexByte ([] : List UInt8) 46 = -1 := rfl
theorem idx {k : Nat} {a : List UInt8} : f322 k a [46] = some (Lib.indexByte a 46) := by
  cases a with
  | nil => rfl
  | cons c l => exact idx1 (by simp)
theorem ix_spec : ∀ (a : List UInt8), (Lib.indexByte a 46 = -1 ∧ 46 ∉ a ∧ ∀ cur, pcsA cur a = [cur ++ a]) ∨ (∃ i : Nat, Lib.indexByte a 46 = (i : Int) ∧ i < a.length ∧ 46 ∈ a ∧ ∀ cur, pcsA cur a = (cur ++ a.take i) :: pcsA [] (a.drop (i + 1)))
  | [] => .inl ⟨rfl, by simp, by simp [pcsA]⟩
  | c :: l => by
    by_cases hc : c = 46
    · subst hc
      exact .inr ⟨0, by simp [Lib.indexByte], by simp, by simp, by simp [pcsA]⟩
    · rcases ix_spec l with ⟨h1, h2, h3⟩ | ⟨i, h1, h2, h3, h4⟩
      · refine .inl ⟨?_, ?_, fun cur => ?_⟩
        · simp [Lib.indexByte, hc, h1]
        · simp only [List.mem_cons, not_or]; exact ⟨fun e => hc e.symm, h2⟩
        · simp only [pcsA, if_neg hc, h3]; simp
      · refine .inr ⟨i + 1, ?_, by simp; omega, by simp [h3], fun cur => ?_⟩
        · simp only [Lib.indexByte, h1, beq_iff_eq, if_neg hc]
          rw [if_neg (by omega)]; omega
        · simp only [pcsA, if_neg hc, h4]; simp
theorem has1 {k : Nat} {a : List UInt8} : f321 k a [46] = some (decide (46 ∈ a)) := by
  rw [f321, idx]
  simp only [Option.bind_some]
  rcases ix_spec a with ⟨h1, h2, _⟩ | ⟨i, h1, _, h2, _⟩
  · rw [h1]; simp [h2]
  · rw [h1]; simp [h2]
theorem split_loop : ∀ (n k : Nat) (y : List UInt8), y.length ≤ n → y.length ≤ 1048576000 → y.length * 2 + 2 < k →
    (∃ x pre, f335_l55 [46] 0 false k y = some (.b0 x) ∧ pcsA [] y = pre ++ [x] ∧ pre.all sim = true ∧ x.length ≤ y.length) ∨ (∃ z, f335_l55 [46] 0 false k y = some (.r (.inr z)) ∧ (pcsA [] y).all sim = false) := by
  intro n
  induction n with
  | zero =>
    intro k y hy hb hk
    obtain rfl : y = [] := List.eq_nil_of_length_eq_zero (by omega)
    obtain ⟨k, rfl, _⟩ := succ_of_pos (show 0 < k by omega)
    refine .inl ⟨[], [], ?_, rfl, rfl, Nat.le_refl _⟩
    rw [f335_l55, idx]
    rfl
  | succ n ih =>
    intro k y hy hb hk
    obtain ⟨k, rfl, _⟩ := succ_of_pos (show 0 < k by omega)
    rw [f335_l55, idx]
    simp only [Option.bind_some]
    rcases ix_spec y with ⟨h1, _, h3⟩ | ⟨i, h1, h2, _, h4⟩
    · refine .inl ⟨y, [], ?_, h3 [], rfl, Nat.le_refl _⟩
      rw [h1]; rfl
    · have w1 : IntKind.i64.wrap ((i : Int) + 0) = (i : Int) := by rw [i64w (by omega)]; omega
      have w2 : IntKind.i64.wrap ((i : Int) + (((([46] : List UInt8).length : Nat)) : Int)) = ((i + 1 : Nat) : Int) := by rw [i64w (by simp; omega)]; simp
      have s1 : sl y 0 (i : Int) = y.take i := by simp [sl]
      have s2 : sl y ((i + 1 : Nat) : Int) ((y.length : Nat) : Int) = y.drop (i + 1) := by simp only [sl, Int.toNat_natCast, List.take_length]
      rw [h1, cdn (by omega)]
      simp only [w1, w2, s1, s2]
      rw [gdp (by omega), b332_26, simple1 (by simp; omega) (by simp; omega), h4]
      simp only [Option.bind_some, List.nil_append]
      cases hs : sim (y.take i)
      · exact .inr ⟨y, rfl, by simp [hs]⟩
      · simp only [Bool.not_true, cond_false, Option.bind_some]
        rw [gdp (by omega)]
        have hl : (y.drop (i + 1)).length = y.length - (i + 1) := by simp
        rcases ih k (y.drop (i + 1)) (by omega) (by omega) (by omega) with ⟨x, pre, e1, e2, e3, e4⟩ | ⟨z, e1, e2⟩
        · exact .inl ⟨x, y.take i :: pre, e1, by rw [e2]; rfl, by simp [hs, e3], by omega⟩
        · exact .inr ⟨z, e1, by simp [e2]⟩
theorem full1 {a : List UInt8} (hn : a.length ≤ 1048576000) {k : Nat} (hk : a.length * 2 + 2 < k) : f332 k a = some (fulln a) := by
  rw [f332, fulln]
  by_cases c : a.length ≤ 100
  · rw [cdn (by omega), decide_eq_true c, Bool.true_and, f333, f334]
    simp only [Option.bind_some]
    rw [f335, cdn (by simp)]
    rcases split_loop _ k a (Nat.le_refl _) hn hk with ⟨x, pre, e1, e2, e3, e4⟩ | ⟨z, e1, e2⟩
    · rw [e1, e2]
      simp only [Option.bind_some, b332_26]
      rw [simple1 (by omega) (by omega)]
      simp only [Option.bind_some, List.all_append, e3, List.all_cons, List.all_nil, Bool.and_true, Bool.true_and]
      cases sim x <;> rfl
    · rw [e1, e2]; rfl
  · rw [cdp (by omega), decide_eq_false c, Bool.false_and]
theorem pcsA_nodot : ∀ (x cur : List UInt8), 46 ∉ x → ∀ l, pcsA cur (x ++ l) = pcsA (cur ++ x) l
  | [], cur, _, l => by simp
  | c :: x, cur, h, l => by
    simp only [List.mem_cons, not_or] at h
    have hc : ¬ c = 46 := fun e => h.1 e.symm
    simp only [List.cons_append, pcsA, if_neg hc]
    rw [pcsA_nodot x _ h.2]; simp
theorem full2_loop {a : List UInt8} (hn : a.length ≤ 1048576000) : ∀ (d j i k : Nat), j + d = a.length → i ≤ j → a.length + d + 2 < k →
    f340_l14 a k (i : Int) (j : Int) = some (cond ((pcsA ((a.take j).drop i) (a.drop j)).all sim) (.b0 ()) (.r false)) := by
  intro d
  induction d with
  | zero =>
    intro j i k hj hi hk
    obtain ⟨k, rfl, _⟩ := succ_of_pos (show 0 < k by omega)
    rw [f340_l14, cdp (by omega), cdp (by omega), f340_j42, cond_true, gdp (by omega)]
    have s1 : sl a (i : Int) (j : Int) = (a.take j).drop i := by simp only [sl, Int.toNat_natCast]
    rw [s1, simple2 (by simp; omega) (by simp; omega), List.drop_of_length_le (l := a) (i := j) (by omega)]
    simp only [Option.bind_some, pcsA, List.all_cons, List.all_nil, Bool.and_true]
    cases sim ((a.take j).drop i)
    · rfl
    · have hw : IntKind.i64.wrap ((j : Int) + 1) = ((j + 1 : Nat) : Int) := by rw [i64w (by omega)]; omega
      obtain ⟨k, rfl, _⟩ := succ_of_pos (show 0 < k by omega)
      simp only [Bool.not_true, cond_false, hw]
      rw [f340_l14, cdn (by omega)]
      rfl
  | succ d ih =>
    intro j i k hj hi hk
    obtain ⟨k, rfl, _⟩ := succ_of_pos (show 0 < k by omega)
    have hw : IntKind.i64.wrap ((j : Int) + 1) = ((j + 1 : Nat) : Int) := by rw [i64w (by omega)]; omega
    rw [f340_l14, cdp (by omega), cdn (by omega), gdp (by omega), getD_drop (a := a) (i := j) (by omega)]
    simp only [f340_j42, Int.toNat_natCast, hw, pcsA]
    have s1 : sl a (i : Int) (j : Int) = (a.take j).drop i := by simp only [sl, Int.toNat_natCast]
    by_cases c : a.getD j 0 = 46
    · have c' : (((a.getD j 0).toNat : Nat) : Int) = 46 := by rw [c]; rfl
      rw [cdp c', gdp (by omega), s1, simple2 (by simp; omega) (by simp; omega), if_pos c, ih (j + 1) (j + 1) k (by omega) (by omega) (by omega)]
      simp only [Option.bind_some, List.all_cons]
      have e : (a.take (j + 1)).drop (j + 1) = [] := by rw [List.drop_of_length_le]; simp; omega
      rw [e]
      cases sim ((a.take j).drop i) <;> rfl
    · have c' : ¬ (((a.getD j 0).toNat : Nat) : Int) = 46 := by
        intro h
        apply c
        apply UInt8.toNat_inj.1
        exact Int.ofNat_inj.1 h
      rw [cdn c', if_neg c, ih (j + 1) i k (by omega) (by omega) (by omega)]
      have e : (a.take (j + 1)).drop i = (a.take j).drop i ++ [a.getD j 0] := by
        rw [List.take_add_one, List.getElem?_eq_getElem (show j < a.length by omega), List.drop_append]
        have : i - (a.take j).length = 0 := by simp; omega
        rw [this]
        simp [List.getD, List.getElem?_eq_getElem (show j < a.length by omega)]
      rw [e]
theorem full2 {a : List UInt8} (hn : a.length ≤ 1048576000) {k : Nat} (hk : a.length * 2 + 2 < k) : f340 k a = some (fulln a) := by
  have h := full2_loop hn a.length 0 0 k (by omega) (Nat.le_refl _) (by omega)
  rw [f340, show f340_l14 a k (0 : Int) (0 : Int) = _ from h]
  simp only [List.take_zero, List.drop_nil, List.drop_zero, fulln]
  cases (pcsA [] a).all sim
  · simp
  · simp only [cond_true, Option.bind_some, f340_j71, Bool.and_true]; congr 1; simp; omega
theorem lsn_app : ∀ (l : List UInt8) (c : UInt8), lsn (l ++ [c]) = if c = 46 then ((l.length : Nat) : Int) else lsn l
  | [], c => by by_cases h : c = 46 <;> simp [lsn, h]
  | x :: l, c => by
    simp only [List.cons_append, lsn, lsn_app l c]
    by_cases h : c = 46
    · simp only [if_pos h]; rw [if_pos (by omega)]; simp
    · simp only [if_neg h]
theorem lsn_lt : ∀ (l : List UInt8), -1 ≤ lsn l ∧ lsn l < ((l.length : Nat) : Int)
  | [] => by simp [lsn]
  | c :: l => by
    have := lsn_lt l
    simp only [lsn, List.length_cons]
    split
    · omega
    · split <;> omega
theorem lsn_mem : ∀ (l : List UInt8), 0 ≤ lsn l ↔ 46 ∈ l
  | [] => by simp [lsn]
  | c :: l => by
    have := lsn_mem l
    simp only [lsn, List.mem_cons]
    split
    · rename_i h; constructor
      · intro _; exact .inr (this.1 h)
      · intro _; omega
    · rename_i h
      split
      · rename_i h2; simp [h2]
      · rename_i h2; constructor
        · intro h3; omega
        · rintro (h3 | h3)
          · exact absurd h3.symm h2
          · exact absurd (this.2 h3) h
theorem last_loop {a : List UInt8} (hn : a.length ≤ 1048576000) : ∀ (j k : Nat), j ≤ a.length → j < k → f257_l13 a k ((j : Int) - 1) = some (if 0 ≤ lsn (a.take j) then .r (lsn (a.take j)) else .b0 ()) := by
  intro j
  induction j with
  | zero =>
    intro k hj hk
    obtain ⟨k, rfl, _⟩ := succ_of_pos hk
    rw [f257_l13, cdn (by omega)]
    simp [lsn]
  | succ j ih =>
    intro k hj hk
    obtain ⟨k, rfl, _⟩ := succ_of_pos (show 0 < k by omega)
    have e : a.take (j + 1) = a.take j ++ [a.getD j 0] := by
      rw [List.take_add_one, List.getElem?_eq_getElem (show j < a.length by omega)]
      simp [List.getD, List.getElem?_eq_getElem (show j < a.length by omega)]
    have w : (((j + 1 : Nat) : Int) - 1) = (j : Int) := by omega
    rw [w, f257_l13, cdp (by omega), gdp (by omega), e, lsn_app]
    simp only [Int.toNat_natCast]
    by_cases c : a.getD j 0 = 46
    · have c' : (((a.getD j 0).toNat : Nat) : Int) = 46 := by rw [c]; rfl
      rw [cdp c']
      have hl : (a.take j).length = j := by simp; omega
      simp only [if_pos c, hl]
      rw [if_pos (by omega)]
    · have c' : ¬ (((a.getD j 0).toNat : Nat) : Int) = 46 := by
        intro h
        apply c
        apply UInt8.toNat_inj.1
        exact Int.ofNat_inj.1 h
      rw [cdn c', i64w (by omega), ih k (by omega) (by omega)]
      simp only [if_neg c]
theorem last2 {a : List UInt8} (hn : a.length ≤ 1048576000) {k : Nat} (hk : a.length < k) : f257 k a = some (lsn a) := by
  have h := last_loop hn a.length k (Nat.le_refl _) hk
  rw [List.take_length] at h
  rw [f257, i64w (by omega), h]
  by_cases c : 0 ≤ lsn a
  · simp only [if_pos c, Option.bind_some]
  · simp only [if_neg c, Option.bind_some]
    have := (lsn_lt a).1
    congr 1; omega
theorem last_loop1 {a : List UInt8} (hn : a.length ≤ 1048576000) : ∀ (j k : Nat), j ≤ a.length → j < k → f238_l13 a 46 k ((j : Int) - 1) = some (if 0 ≤ lsn (a.take j) then .r (lsn (a.take j)) else .b0 ()) := by
  intro j
  induction j with
  | zero =>
    intro k hj hk
    obtain ⟨k, rfl, _⟩ := succ_of_pos hk
    rw [f238_l13, cdn (by omega)]
    simp [lsn]
  | succ j ih =>
    intro k hj hk
    obtain ⟨k, rfl, _⟩ := succ_of_pos (show 0 < k by omega)
    have e : a.take (j + 1) = a.take j ++ [a.getD j 0] := by
      rw [List.take_add_one, List.getElem?_eq_getElem (show j < a.length by omega)]
      simp [List.getD, List.getElem?_eq_getElem (show j < a.length by omega)]
    have w : (((j + 1 : Nat) : Int) - 1) = (j : Int) := by omega
    rw [w, f238_l13, cdp (by omega), gdp (by omega), e, lsn_app]
    simp only [Int.toNat_natCast]
    by_cases c : a.getD j 0 = 46
    · have c' : (((a.getD j 0).toNat : Nat) : Int) = (((46 : UInt8).toNat : Nat) : Int) := by rw [c]
      rw [cdp c']
      have hl : (a.take j).length = j := by simp; omega
      simp only [if_pos c, hl]
      rw [if_pos (by omega)]
    · have c' : ¬ (((a.getD j 0).toNat : Nat) : Int) = (((46 : UInt8).toNat : Nat) : Int) := by
        intro h
        apply c
        apply UInt8.toNat_inj.1
        exact Int.ofNat_inj.1 h
      rw [cdn c', i64w (by omega), ih k (by omega) (by omega)]
      simp only [if_neg c]
theorem last1 {a : List UInt8} (hn : a.length ≤ 1048576000) {k : Nat} (hk : a.length < k) : f237 k a 46 = some (lsn a) := by
  have h := last_loop1 hn a.length k (Nat.le_refl _) hk
  rw [List.take_length] at h
  rw [f237, f238, i64w (by omega), h]
  by_cases c : 0 ≤ lsn a
  · simp only [if_pos c, Option.bind_some]
  · simp only [if_neg c, Option.bind_some]
    have := (lsn_lt a).1
    congr 1; omega
/-- what stands behind the last point, and ahead of it -/
def shortn (a : List UInt8) : List UInt8 := a.drop (lsn a + 1).toNat
def spacen (a : List UInt8) : List UInt8 := a.take (lsn a).toNat
theorem cut1 {a : List UInt8} (hn : a.length ≤ 1048576000) {k : Nat} (hk : a.length < k) : f236 k a = some (spacen a, shortn a) := by
  have h := lsn_lt a
  rw [f236, last1 hn hk]
  simp only [Option.bind_some, spacen, shortn]
  by_cases c : lsn a < 0
  · rw [cdp c, show lsn a = -1 by omega]; rfl
  · rw [cdn c, gdp (by omega), i64w (by omega), gdp (by omega)]
    simp [sl]
theorem short1 {a : List UInt8} (hn : a.length ≤ 1048576000) {k : Nat} (hk : a.length < k) : f235 k a = some (shortn a) := by rw [f235, cut1 hn hk]; rfl
theorem space1 {a : List UInt8} (hn : a.length ≤ 1048576000) {k : Nat} (hk : a.length < k) : f342 k a = some (spacen a) := by rw [f342, cut1 hn hk]; rfl
theorem short2 {a : List UInt8} (hn : a.length ≤ 1048576000) {k : Nat} (hk : a.length < k) : f256 k a = some (shortn a) := by
  have h := lsn_lt a
  rw [f256, last2 hn hk]
  simp only [Option.bind_some]
  rw [i64w (by omega), gdp (by omega)]
  simp [sl, shortn]
theorem space2 {a : List UInt8} (hn : a.length ≤ 1048576000) {k : Nat} (hk : a.length < k) : f343 k a = some (spacen a) := by
  have h := lsn_lt a
  rw [f343, last2 hn hk]
  simp only [Option.bind_some]
  rw [gdp (by omega)]
  simp only [sl, spacen, Int.toNat_zero, List.drop_zero]
  congr 2; omega
/-- a primitive's kind -/
def prim (a : List UInt8) : Int := if a = [110, 117, 108, 108] then 1 else if a = [98, 111, 111, 108, 101, 97, 110] then 2 else if a = [105, 110, 116] then 3 else if a = [108, 111, 110, 103] then 4 else if a = [102, 108, 111, 97, 116] then 5 else if a = [100, 111, 117, 98, 108, 101] then 6 else if a = [98, 121, 116, 101, 115] then 7 else if a = [115, 116, 114, 105, 110, 103] then 8 else 0
theorem prim1 {k : Nat} {a : List UInt8} : f337 k a = some (prim a) := by
  simp only [f337, prim, cond_dec]
  repeat' split
  all_goals rfl
def prL : List (List UInt8) := [[110, 117, 108, 108], [98, 111, 111, 108, 101, 97, 110], [105, 110, 116], [108, 111, 110, 103], [102, 108, 111, 97, 116], [100, 111, 117, 98, 108, 101], [98, 121, 116, 101, 115], [115, 116, 114, 105, 110, 103]]
theorem prim_step {a : List UInt8} {k i : Nat} (h : i < 8) : f341_l15 a (k + 1) (i : Int) = if a = rd prL (i : Int) then some (.r ((i + 1 : Nat) : Int)) else f341_l15 a k ((i + 1 : Nat) : Int) := by
  have hl : prL.length = 8 := rfl
  rw [f341_l15]
  change cond (decide ((i : Int) < ((prL.length : Nat) : Int))) (gd (0 ≤ (i : Int) ∧ (i : Int) < ((prL.length : Nat) : Int)) (cond (decide (rd prL (i : Int) = a)) _ _)) _ = _
  rw [cdp (by omega), gdp (by omega), i64w (by omega)]
  by_cases c : a = rd prL (i : Int)
  · rw [cdp c.symm, if_pos c]; rfl
  · rw [cdn (fun e => c e.symm), if_neg c]; rfl
theorem prim2 {k : Nat} {a : List UInt8} : f341 (k + 9) a = some (prim a) := by
  have e0 := prim_step (a := a) (k := k + 8) (i := 0) (by decide)
  have e1 := prim_step (a := a) (k := k + 7) (i := 1) (by decide)
  have e2 := prim_step (a := a) (k := k + 6) (i := 2) (by decide)
  have e3 := prim_step (a := a) (k := k + 5) (i := 3) (by decide)
  have e4 := prim_step (a := a) (k := k + 4) (i := 4) (by decide)
  have e5 := prim_step (a := a) (k := k + 3) (i := 5) (by decide)
  have e6 := prim_step (a := a) (k := k + 2) (i := 6) (by decide)
  have e7 := prim_step (a := a) (k := k + 1) (i := 7) (by decide)
  have e8 : f341_l15 a (k + 1) ((8 : Nat) : Int) = some (.b0 ()) := by rw [f341_l15, cdn (by decide)]
  have r0 : rd prL ((0 : Nat) : Int) = [110, 117, 108, 108] := rfl
  have r1 : rd prL ((1 : Nat) : Int) = [98, 111, 111, 108, 101, 97, 110] := rfl
  have r2 : rd prL ((2 : Nat) : Int) = [105, 110, 116] := rfl
  have r3 : rd prL ((3 : Nat) : Int) = [108, 111, 110, 103] := rfl
  have r4 : rd prL ((4 : Nat) : Int) = [102, 108, 111, 97, 116] := rfl
  have r5 : rd prL ((5 : Nat) : Int) = [100, 111, 117, 98, 108, 101] := rfl
  have r6 : rd prL ((6 : Nat) : Int) = [98, 121, 116, 101, 115] := rfl
  have r7 : rd prL ((7 : Nat) : Int) = [115, 116, 114, 105, 110, 103] := rfl
  rw [f341, show f341_l15 a (k + 9) (0 : Int) = _ from e0, r0]
  rw [show 0 + 1 = 1 from rfl, e1, r1, show 1 + 1 = 2 from rfl, e2, r2, show 2 + 1 = 3 from rfl, e3, r3, show 3 + 1 = 4 from rfl, e4, r4, show 4 + 1 = 5 from rfl, e5, r5, show 5 + 1 = 6 from rfl, e6, r6, show 6 + 1 = 7 from rfl, e7, r7, show 7 + 1 = 8 from rfl, e8]
  unfold prim
  repeat' split
  all_goals rfl
theorem sc_nodot : ∀ (f : Bool) (a : List UInt8), sc f a = true → 46 ∉ a
  | _, [], _ => by simp
  | f, c :: l, h => by
    simp only [sc, Bool.and_eq_true] at h
    have h2 := sc_nodot false l h.2
    simp only [List.mem_cons, not_or]
    refine ⟨fun e => ?_, h2⟩
    rw [← e] at h
    have := h.1
    revert this
    cases f <;> decide
theorem sim_nodot {a : List UInt8} (h : sim a = true) : 46 ∉ a := by
  simp only [sim, Bool.and_eq_true] at h
  exact sc_nodot _ _ h.1
theorem sim_len {a : List UInt8} (h : sim a = true) : 0 < a.length ∧ a.length ≤ 100 := by
  simp only [sim, Bool.and_eq_true, decide_eq_true_eq] at h
  exact h.2
theorem pcs_one {a : List UInt8} (h : 46 ∉ a) : pcsA [] a = [a] := by
  have := pcsA_nodot a [] h []
  simpa [pcsA] using this
theorem full_one {a : List UInt8} (h : 46 ∉ a) : fulln a = sim a := by
  rw [fulln, pcs_one h]
  simp only [List.all_cons, List.all_nil, Bool.and_true]
  cases hs : sim a
  · simp
  · simp [(sim_len hs).2]
theorem prim_dot {a : List UInt8} (h : 46 ∈ a) : prim a = 0 := by
  unfold prim
  repeat' split
  all_goals first | rfl | (rename_i e; subst e; revert h; decide)
/-- a full name out of a name and a space -/
def mk (f : List UInt8) : List UInt8 × Bool := if fulln f = true ∧ prim f = 0 then (f, true) else ([], false)
def makeN (n s : List UInt8) : List UInt8 × Bool :=
  if n.take 1 = [46] then (if sim (n.drop 1) = true then mk (n.drop 1) else ([], false))
  else if 46 ∈ n then mk n
  else if sim n = true ∧ (s = [] ∨ fulln s = true) then mk (if s = [] then n else s ++ [46] ++ n) else ([], false)
theorem mk1 {f : List UInt8} (hn : f.length ≤ 1048576000) {k : Nat} (hk : f.length * 2 + 2 < k) : f317_j86 k f = some (mk f) := by
  rw [f317_j86, full1 hn hk, prim1]
  simp only [Option.bind_some, mk]
  cases fulln f
  · rfl
  · by_cases c : prim f = 0
    · simp only [Bool.not_true, cond_false]; rw [cdn (by omega), if_pos ⟨trivial, c⟩]
    · simp only [Bool.not_true, cond_false]; rw [cdp c, if_neg (fun h => c h.2)]
theorem make1 {n s : List UInt8} (h1 : n.length ≤ 1048576) (h2 : s.length ≤ 1048576) {k : Nat} (hk : (n.length + s.length + 1) * 2 + 2 < k) : f317 k n s = some (makeN n s) := by
  rw [f317, pre1, has1]
  simp only [Option.bind_some, makeN]
  by_cases c1 : n.take 1 = [46]
  · rw [cdp c1, if_pos c1]
    have hl : 1 ≤ n.length := by
      cases n with
      | nil => simp at c1
      | cons => simp
    have s1 : sl n 1 ((n.length : Nat) : Int) = n.drop 1 := by simp [sl]
    rw [gdp (by omega), s1, simple1 (by simp; omega) (by simp; omega)]
    simp only [Option.bind_some]
    cases sim (n.drop 1)
    · simp
    · simp only [Bool.not_true, cond_false, if_true]; exact mk1 (by simp; omega) (by simp; omega)
  · rw [cdn c1, if_neg c1]
    by_cases c2 : 46 ∈ n
    · rw [cdp c2, if_pos c2]; exact mk1 (by omega) (by omega)
    · rw [cdn c2, if_neg c2, simple1 (by omega) (by omega)]
      simp only [Option.bind_some]
      cases hs : sim n
      · simp [f317_j64]
      · simp only [Bool.not_true, cond_false]
        by_cases c3 : s = []
        · subst c3
          rw [cdn (by simp), f317_j64, cond_false, cdn (by simp)]
          simp only [true_or, and_true, if_true]
          exact mk1 (by omega) (by omega)
        · rw [cdp c3, full1 (by omega) (by omega)]
          simp only [Option.bind_some, f317_j64]
          cases hf : fulln s
          · simp [c3]
          · simp only [Bool.not_true, cond_false]
            rw [cdp c3, gdp (by simp; omega), gdp (by simp; omega), if_pos ⟨trivial, .inr trivial⟩, if_neg c3]
            exact mk1 (by simp; omega) (by simp; omega)
theorem awake3 {k : Nat} (hk : 20 < k) : f316 k = some true := by
  rw [f316, make1 (by decide) (by decide) (by simp; omega), simple1 (by decide) (by simp; omega)]
  have h : makeN [97] [98, 46, 99] = ([98, 46, 99, 46, 97], true) := by decide
  rw [h]
  rfl
theorem mk2 {f : List UInt8} (hn : f.length ≤ 1048576000) {k : Nat} (hk : f.length < k) (h9 : 9 ≤ k) (hf : fulln f = true) : f338_j125 k f = some (mk f) := by
  obtain ⟨k, rfl⟩ : ∃ j, k = j + 9 := ⟨k - 9, by omega⟩
  rw [f338_j125, last2 hn hk]
  simp only [Option.bind_some, mk, f338_j145]
  by_cases c : lsn f < 0
  · rw [cdp c, prim2]
    simp only [Option.bind_some]
    by_cases c2 : prim f = 0
    · rw [cdn (by omega), if_pos ⟨hf, c2⟩]
    · rw [cdp c2, if_neg (fun h => c2 h.2)]
  · rw [cdn c, if_pos ⟨hf, prim_dot ((lsn_mem f).1 (by omega))⟩]
theorem pcsA_dot : ∀ (x cur y : List UInt8), pcsA cur (x ++ 46 :: y) = pcsA cur x ++ pcsA [] y
  | [], cur, y => by simp [pcsA]
  | c :: x, cur, y => by
    simp only [List.cons_append, pcsA]
    split
    · rw [pcsA_dot x]; rfl
    · rw [pcsA_dot x]
theorem full_dot {s n : List UInt8} (h : fulln (s ++ [46] ++ n) = true) : fulln s = true := by
  simp only [fulln, Bool.and_eq_true, decide_eq_true_eq] at h ⊢
  obtain ⟨h1, h2⟩ := h
  rw [List.append_assoc, List.singleton_append, pcsA_dot, List.all_append, Bool.and_eq_true] at h2
  simp at h1
  exact ⟨by omega, h2.1⟩
theorem make2 {n s : List UInt8} (h1 : n.length ≤ 1048576) (h2 : s.length ≤ 1048576) {k : Nat} (hk : (n.length + s.length + 1) * 2 + 12 < k) : f338 k n s = some (makeN n s) := by
  rw [f338]
  by_cases c0 : n = []
  · subst c0
    rw [cdp rfl]
    rfl
  have hl : 0 < n.length := List.length_pos_iff.2 c0
  rw [cdn c0, gdp (by omega)]
  simp only [show (0 : Int).toNat = 0 from rfl]
  have ht : n.take 1 = [n.getD 0 0] := by
    cases n with
    | nil => exact absurd rfl c0
    | cons c l => rfl
  simp only [makeN, ht, List.cons.injEq, and_true]
  by_cases c1 : n.getD 0 0 = 46
  · have c' : (((n.getD 0 0).toNat : Nat) : Int) = 46 := by rw [c1]; rfl
    have s1 : sl n 1 ((n.length : Nat) : Int) = n.drop 1 := by simp [sl]
    rw [cdp c', if_pos c1, gdp (by omega), s1, simple2 (by simp; omega) (by simp; omega)]
    simp only [Option.bind_some]
    cases hs : sim (n.drop 1)
    · simp
    · simp only [Bool.not_true, cond_false, if_true]
      exact mk2 (by simp; omega) (by simp; omega) (by omega) (by rw [full_one (sim_nodot hs)]; exact hs)
  · have c' : ¬ (((n.getD 0 0).toNat : Nat) : Int) = 46 := by
      intro h
      apply c1
      apply UInt8.toNat_inj.1
      exact Int.ofNat_inj.1 h
    rw [cdn c', if_neg c1, last2 (by omega) (by omega)]
    simp only [Option.bind_some]
    by_cases c2 : 46 ∈ n
    · have := (lsn_mem n).2 c2
      rw [cdp (by omega), if_pos c2, full2 (by omega) (by omega)]
      simp only [Option.bind_some]
      cases hf : fulln n
      · simp [mk, hf]
      · simp only [Bool.not_true, cond_false]; exact mk2 (by omega) (by omega) (by omega) hf
    · have : ¬ 0 ≤ lsn n := fun h => c2 ((lsn_mem n).1 h)
      rw [cdn (by omega), if_neg c2, simple2 (by omega) (by omega)]
      simp only [Option.bind_some]
      cases hs : sim n
      · simp
      · simp only [Bool.not_true, cond_false]
        by_cases c3 : s = []
        · subst c3
          rw [cdn (by simp)]
          simp only [true_or, and_true, if_true]
          exact mk2 (by omega) (by omega) (by omega) (by rw [full_one c2]; exact hs)
        · rw [cdp c3, gdp (by simp; omega), gdp (by simp; omega), full2 (by omega) (by omega), full2 (by simp; omega) (by simp; omega)]
          simp only [Option.bind_some]
          cases hf : fulln s
          · simp [c3]
          · simp only [Bool.not_true, cond_false]
            rw [if_pos ⟨trivial, .inr trivial⟩, if_neg c3]
            cases hg : fulln (s ++ [46] ++ n)
            · rw [show mk (s ++ [46] ++ n) = ([], false) from if_neg (fun h => by rw [hg] at h; cases h.1)]; rfl
            · simp only [Bool.not_true, cond_false]
              exact mk2 (by simp; omega) (by simp; omega) (by omega) hg
theorem law_NamesMake (a0 : (List UInt8)) (a1 : (List UInt8)) (w0 : True) (w1 : True) (hb : (a0.length + 1) + (a1.length + 1) ≤ 1048576) : ∃ k, f315 k a0 a1 = some true := by
  refine ⟨(a0.length + a1.length + 1) * 2 + 50, ?_⟩
  generalize hk : (a0.length + a1.length + 1) * 2 + 50 = k
  simp only [f315, awake3 (show 20 < k by omega), make1 (show a0.length ≤ 1048576 by omega) (show a1.length ≤ 1048576 by omega) (show (a0.length + a1.length + 1) * 2 + 2 < k by omega), make2 (show a0.length ≤ 1048576 by omega) (show a1.length ≤ 1048576 by omega) (show (a0.length + a1.length + 1) * 2 + 12 < k by omega), Option.bind_some, cond_dec]
  split
  · rfl
  · split
    · rfl
    · simp
theorem law_NamesTell (a0 : (List UInt8)) (w0 : True) (hb : (a0.length + 1) ≤ 1048576) : ∃ k, f327 k a0 = some true := by
  refine ⟨a0.length * 2 + 41 + 9, ?_⟩
  have hp := prim2 (k := a0.length * 2 + 41) (a := a0)
  generalize hk : a0.length * 2 + 41 + 9 = k at hp ⊢
  have e1 : f344 k a0 = f345 k a0 := by
    rw [f344, f345, has1, last2 (by omega) (by omega)]
    simp only [Option.bind_some]
    by_cases c : 46 ∈ a0
    · have := (lsn_mem a0).2 c
      rw [cdp c, cdp (by omega)]
    · have : ¬ 0 ≤ lsn a0 := fun h => c ((lsn_mem a0).1 h)
      rw [cdn c, cdn (by omega)]
  have e2 : ∃ z, f345 k a0 = some z := by
    rw [f345, last2 (by omega) (by omega)]
    simp only [Option.bind_some]
    by_cases c : lsn a0 ≥ 0
    · rw [cdp c]; exact ⟨_, rfl⟩
    · rw [cdn c, gdp (by simp; omega)]; exact ⟨_, rfl⟩
  obtain ⟨z, e2⟩ := e2
  simp only [f327, awake3 (show 20 < k by omega), Option.bind_some, cond_dec]
  split
  · rfl
  rw [simple1 (by omega) (by omega), simple2 (by omega) (by omega), full1 (by omega) (by omega), full2 (by omega) (by omega), short1 (by omega) (by omega), short2 (by omega) (by omega), space1 (by omega) (by omega), space2 (by omega) (by omega), prim1, hp, e1, e2]
  simp
theorem mk_cases (f : List UInt8) : mk f = ([], false) ∨ (mk f = (f, true) ∧ fulln f = true ∧ prim f = 0) := by
  unfold mk
  split
  · rename_i h; exact .inr ⟨rfl, h⟩
  · exact .inl rfl
theorem make_cases (n s : List UInt8) : makeN n s = ([], false) ∨ ∃ f, makeN n s = (f, true) ∧ fulln f = true ∧ prim f = 0 := by
  unfold makeN
  split
  · split
    · rcases mk_cases (n.drop 1) with h | h
      · exact .inl h
      · exact .inr ⟨_, h⟩
    · exact .inl rfl
  · split
    · rcases mk_cases n with h | h
      · exact .inl h
      · exact .inr ⟨_, h⟩
    · split
      · rcases mk_cases (if s = [] then n else s ++ [46] ++ n) with h | h
        · exact .inl h
        · exact .inr ⟨_, h⟩
      · exact .inl rfl
theorem lsn_split : ∀ (t : List UInt8), 0 ≤ lsn t → t = spacen t ++ 46 :: shortn t ∧ 46 ∉ shortn t
  | [], h => by simp [lsn] at h
  | c :: l, h => by
    by_cases c1 : 0 ≤ lsn l
    · obtain ⟨h1, h2⟩ := lsn_split l c1
      have e : lsn (c :: l) = lsn l + 1 := by simp only [lsn, if_pos c1]
      have e1 : (lsn l + 1).toNat = (lsn l).toNat + 1 := by omega
      have e2 : (lsn l + 1 + 1).toNat = (lsn l + 1).toNat + 1 := by omega
      have s1 : spacen (c :: l) = c :: spacen l := by simp only [spacen, e, e1, List.take_succ_cons]
      have s2 : shortn (c :: l) = shortn l := by simp only [shortn, e, e2, List.drop_succ_cons]
      rw [s1, s2]
      exact ⟨by rw [List.cons_append, ← h1], h2⟩
    · by_cases c2 : c = 46
      · have e : lsn (c :: l) = 0 := by simp only [lsn, if_neg c1, if_pos c2]
        have s1 : spacen (c :: l) = [] := by simp [spacen, e]
        have s2 : shortn (c :: l) = l := by simp [shortn, e]
        rw [s1, s2]
        exact ⟨by rw [c2]; rfl, fun h => c1 ((lsn_mem l).2 h)⟩
      · exfalso
        simp only [lsn, if_neg c1, if_neg c2] at h
        omega
theorem lsn_none {t : List UInt8} (h : 46 ∉ t) : lsn t = -1 ∧ shortn t = t ∧ spacen t = [] := by
  have h1 : ¬ 0 ≤ lsn t := fun e => h ((lsn_mem t).1 e)
  have h2 := (lsn_lt t).1
  have e : lsn t = -1 := by omega
  exact ⟨e, by simp [shortn, e], by simp [spacen, e]⟩
theorem take_dot {t : List UInt8} (h : 46 ∉ t) : ¬ t.take 1 = [46] := by
  cases t with
  | nil => simp
  | cons c l =>
    intro e
    simp only [List.take_succ_cons, List.take_zero, List.cons.injEq, and_true] at e
    exact h (by simp [e])
theorem sim_nil : sim [] = false := rfl
theorem back1 {t : List UInt8} (h : fulln t = true) (hp : prim t = 0) : makeN (shortn t) (spacen t) = (t, true) := by
  have hm : mk t = (t, true) := if_pos ⟨h, hp⟩
  by_cases c : 46 ∈ t
  · obtain ⟨h1, h2⟩ := lsn_split t ((lsn_mem t).2 c)
    have hf := h
    rw [h1] at hf
    have hs : fulln (spacen t) = true := full_dot (n := shortn t) (by simpa using hf)
    simp only [fulln, Bool.and_eq_true] at hf
    obtain ⟨_, hf⟩ := hf
    rw [pcsA_dot, pcs_one h2, List.all_append, Bool.and_eq_true] at hf
    have hsh : sim (shortn t) = true := by simpa using hf.2
    have hne : ¬ spacen t = [] := by
      intro e
      rw [e] at hf
      have := hf.1
      simp [pcsA, sim_nil] at this
    unfold makeN
    rw [if_neg (take_dot h2), if_neg h2, if_pos ⟨hsh, .inr hs⟩, if_neg hne]
    rw [List.append_assoc, List.singleton_append, ← h1, hm]
  · obtain ⟨_, h1, h2⟩ := lsn_none c
    rw [h1, h2]
    unfold makeN
    rw [if_neg (take_dot c), if_neg c, if_pos ⟨by rw [← full_one c]; exact h, .inl rfl⟩, if_pos rfl, hm]
theorem back2 {t o : List UInt8} (h : fulln t = true) (hp : prim t = 0) : makeN (if 46 ∈ t then t else 46 :: t) o = (t, true) := by
  have hm : mk t = (t, true) := if_pos ⟨h, hp⟩
  by_cases c : 46 ∈ t
  · rw [if_pos c]
    unfold makeN
    rw [if_neg, if_pos c, hm]
    intro e
    cases t with
    | nil => simp at e
    | cons x l =>
      simp only [List.take_succ_cons, List.take_zero, List.cons.injEq, and_true] at e
      subst e
      simp [fulln, pcsA, sim_nil] at h
  · rw [if_neg c]
    unfold makeN
    rw [if_pos (by rfl), List.drop_succ_cons, List.drop_zero, if_pos (by rw [← full_one c]; exact h), hm]
theorem full_len {t : List UInt8} (h : fulln t = true) : t.length ≤ 100 := by
  simp only [fulln, Bool.and_eq_true, decide_eq_true_eq] at h
  exact h.1
theorem write1 {a : List UInt8} (hn : a.length ≤ 1048576) {k : Nat} : f344 k a = some (if 46 ∈ a then a else 46 :: a) := by
  rw [f344, has1]
  simp only [Option.bind_some]
  by_cases c : 46 ∈ a
  · rw [cdp c, if_pos c]
  · rw [cdn c, if_neg c, gdp (by simp; omega)]; rfl
theorem law_NamesBack (a0 : (List UInt8)) (a1 : (List UInt8)) (a2 : (List UInt8)) (w0 : True) (w1 : True) (w2 : True) (hb : (a0.length + 1) + (a1.length + 1) + (a2.length + 1) ≤ 1048576) : ∃ k, f328 k a0 a1 a2 = some true := by
  refine ⟨(a0.length + a1.length + a2.length + 1) * 2 + 500, ?_⟩
  generalize hk : (a0.length + a1.length + a2.length + 1) * 2 + 500 = k
  have haw := awake3 (show 20 < k by omega)
  have hm1 := make1 (n := a0) (s := a1) (k := k) (by omega) (by omega) (by omega)
  simp only [f328, haw, Option.bind_some, cond_dec]
  split
  · rfl
  split
  · rfl
  split
  · rfl
  rw [hm1]
  simp only [Option.bind_some, Bool.not_true, cond_false]
  rcases make_cases a0 a1 with h | ⟨t, h, hf, hp⟩
  · rw [h]
    simp only [Bool.not_false, f328_j51, cond_true, haw, Option.bind_some, decide_true]
  · rw [h]
    have hl := full_len hf
    have hs : (shortn t).length ≤ 100 := by simp [shortn]; omega
    have hs2 : (spacen t).length ≤ 100 := by simp [spacen]; omega
    have hw : (if 46 ∈ t then t else 46 :: t).length ≤ 101 := by split <;> first | omega | (simp; omega)
    simp only [Bool.not_true, f328_j51, cond_false]
    rw [short1 (by omega) (by omega), space1 (by omega) (by omega), write1 (by omega), full1 (by omega) (by omega)]
    simp only [Option.bind_some]
    rw [make1 (by omega) (by omega) (by omega), make1 (by omega) (by omega) (by omega), back1 hf hp, back2 hf hp, hf]
    simp
/-- what the loop over the pieces has -/
def Inv3 (pre : List (List UInt8)) (A : List UInt8) (G : Bool) (S : List UInt8) : Prop :=
  A.length ≤ 201 * pre.length ∧ G = pre.all sim ∧ ((pre = [] ∧ A = [] ∧ S = []) ∨ (pcsA [] A = pre ∧ ((∃ p, pre = [p] ∧ A = p ∧ S = [] ∧ 46 ∉ p) ∨ ∃ q p, pre = q ++ [p] ∧ A = S ++ 46 :: p ∧ 46 ∉ p)))
theorem dot_loop {a0 : List (List UInt8)} {p : List UInt8} {i : Nat} (hi : i < a0.length) (hp : rd a0 (i : Int) = p) (hl : p.length ≤ 200) : ∀ (d j k : Nat), j + d = p.length → d + 30 < k →
    f326_l74 (i : Int) a0 k (j : Int) = some (if 46 ∈ p.drop j then .r true else .b0 ()) := by
  intro d
  induction d with
  | zero =>
    intro j k hj hk
    obtain ⟨k, rfl, _⟩ := succ_of_pos (show 0 < k by omega)
    rw [f326_l74, gdp (by omega), hp, cdn (by omega), List.drop_of_length_le (by omega)]
    simp
  | succ d ih =>
    intro j k hj hk
    obtain ⟨k, rfl, _⟩ := succ_of_pos (show 0 < k by omega)
    rw [f326_l74, gdp (by omega), hp, cdp (by omega), gdp (by omega), gdp (by omega), getD_drop (a := p) (i := j) (by omega)]
    simp only [Int.toNat_natCast]
    by_cases c : p.getD j 0 = 46
    · have c' : (((p.getD j 0).toNat : Nat) : Int) = 46 := by rw [c]; rfl
      rw [cdp c', awake3 (by omega), if_pos (by rw [c]; exact List.mem_cons_self ..)]
      rfl
    · have c' : ¬ (((p.getD j 0).toNat : Nat) : Int) = 46 := by
        intro h
        apply c
        apply UInt8.toNat_inj.1
        exact Int.ofNat_inj.1 h
      rw [cdn c', i64w (by omega), show ((j : Int) + 1) = ((j + 1 : Nat) : Int) by omega, ih (j + 1) k (by omega) (by omega)]
      have e : (46 ∈ p.getD j 0 :: p.drop (j + 1)) ↔ 46 ∈ p.drop (j + 1) := by
        rw [List.mem_cons]
        exact ⟨fun h => h.resolve_left (fun e => c e.symm), .inr⟩
      by_cases c2 : 46 ∈ p.drop (j + 1)
      · rw [if_pos c2, if_pos (e.2 c2)]
      · rw [if_neg c2, if_neg (fun h => c2 (e.1 h))]
theorem parts_loop {a0 : List (List UInt8)} (h60 : a0.length ≤ 60) : ∀ (rest pre : List (List UInt8)) (k : Nat) (A S : List UInt8) (G : Bool), a0 = pre ++ rest → rest.length + 300 < k → Inv3 pre A G S →
    f326_l36 a0 k A G S ((pre.length : Nat) : Int) = some (.r true) ∨ ∃ A' G' S', f326_l36 a0 k A G S ((pre.length : Nat) : Int) = some (.b0 (A', G', S')) ∧ Inv3 a0 A' G' S' := by
  intro rest
  induction rest with
  | nil =>
    intro pre k A S G ha hk hI
    obtain ⟨k, rfl, _⟩ := succ_of_pos (show 0 < k by omega)
    rw [List.append_nil] at ha
    refine .inr ⟨A, G, S, ?_, by rw [ha]; exact hI⟩
    rw [f326_l36, cdn (by rw [ha]; omega)]
  | cons p rest ih =>
    intro pre k A S G ha hk hI
    obtain ⟨k, rfl, _⟩ := succ_of_pos (show 0 < k by omega)
    have hrd : rd a0 ((pre.length : Nat) : Int) = p := by subst ha; exact rd_mid
    have hl : a0.length = pre.length + rest.length + 1 := by rw [ha]; simp; omega
    simp only [List.length_cons] at hk
    rw [f326_l36, cdp (by omega), gdp (by omega), hrd]
    by_cases c1 : p.length > 200
    · rw [cdp (by omega), awake3 (by omega)]; exact .inl rfl
    rw [cdn (by omega), show (0 : Int) = ((0 : Nat) : Int) from rfl, dot_loop (by omega) hrd (by omega) p.length 0 k (by omega) (by omega), List.drop_zero]
    by_cases c2 : 46 ∈ p
    · rw [if_pos c2]; exact .inl rfl
    rw [if_neg c2]
    simp only [Option.bind_some]
    obtain ⟨hA, hG, hS⟩ := hI
    have hw : IntKind.i64.wrap (((pre.length : Nat) : Int) + 1) = (((pre ++ [p]).length : Nat) : Int) := by rw [i64w (by omega)]; simp
    have key : ∀ (B T : List UInt8), B.length ≤ 201 * pre.length + 1 → Inv3 (pre ++ [p]) (B ++ p) (G && sim p) T →
        f326_j133 (f326_l36 a0 k) k ((pre.length : Nat) : Int) a0 G B T = some (.r true) ∨ ∃ A' G' S', f326_j133 (f326_l36 a0 k) k ((pre.length : Nat) : Int) a0 G B T = some (.b0 (A', G', S')) ∧ Inv3 a0 A' G' S' := by
      intro B T hB hI2
      have h := ih (pre ++ [p]) k (B ++ p) T (G && sim p) (by rw [ha]; simp) (by omega) hI2
      rw [f326_j133, gdp (by omega), hrd, gdp (by omega), hw]
      cases G
      · exact h
      · rw [cond_true, gdp (by omega), simple1 (by omega) (by omega)]
        exact h
    have hG2 : (G && sim p) = (pre ++ [p]).all sim := by rw [hG]; simp
    rw [f326_j115]
    by_cases c3 : pre.length > 0
    · rw [cdp (by omega), gdp (by simp; omega)]
      refine key _ _ (by simp; omega) ⟨by simp; omega, hG2, .inr ?_⟩
      rcases hS with ⟨h1, _⟩ | ⟨h1, _⟩
      · subst h1; simp at c3
      · exact ⟨by rw [List.append_assoc, List.singleton_append, pcsA_dot, h1, pcs_one c2], .inr ⟨pre, p, rfl, by simp, c2⟩⟩
    · rw [cdn (by omega)]
      have hp0 : pre = [] := List.eq_nil_of_length_eq_zero (by omega)
      subst hp0
      rcases hS with ⟨_, h1, h2⟩ | ⟨h1, _⟩
      · subst h1; subst h2
        refine key _ _ (by simp) ⟨by simp; omega, hG2, .inr ⟨by simpa using pcs_one c2, .inl ⟨p, rfl, rfl, rfl, c2⟩⟩⟩
      · exfalso
        revert h1
        have : ∀ (x cur : List UInt8), pcsA cur x ≠ [] := by
          intro x
          induction x with
          | nil => intro cur; simp [pcsA]
          | cons c l ih => intro cur; simp only [pcsA]; split <;> simp [ih]
        exact this _ _
theorem lsn_dot {p : List UInt8} (h : 46 ∉ p) : ∀ (x : List UInt8), lsn (x ++ 46 :: p) = ((x.length : Nat) : Int)
  | [] => by
    have := (lsn_none h).1
    simp only [List.nil_append, lsn, this]
    simp
  | c :: x => by
    simp only [List.cons_append, lsn, lsn_dot h x]
    rw [if_pos (by omega)]; simp
theorem law_NamesPieces (a0 : (List (List UInt8))) (w0 : (∀ e0 ∈ a0, True)) (hb : ((a0.map (fun s => s.length + 1)).sum + 1) ≤ 1048576) : ∃ k, f326 k a0 = some true := by
  refine ⟨30000, ?_⟩
  generalize hk : 30000 = k
  have haw := awake3 (show 20 < k by omega)
  simp only [f326, haw, Option.bind_some, cond_dec]
  split
  · rfl
  split
  · rfl
  rename_i c1 c2
  have h := parts_loop (a0 := a0) (by omega) a0 [] k [] [] true rfl (by omega) ⟨by simp, rfl, .inl ⟨rfl, rfl, rfl⟩⟩
  simp only [List.length_nil] at h
  rcases h with h | ⟨A, G, S, h, hA, hG, hS⟩
  · rw [show f326_l36 a0 k [] true [] 0 = _ from h]; rfl
  rw [show f326_l36 a0 k [] true [] 0 = _ from h]
  rcases hS with ⟨h1, _⟩ | ⟨h1, h2⟩
  · subst h1; simp at c1
  have e1 : IntKind.i64.wrap (((a0.length : Nat) : Int) - 1) = ((a0.length : Nat) : Int) - 1 := i64w (by omega)
  have hsh : shortn A = rd a0 (((a0.length : Nat) : Int) - 1) ∧ spacen A = S := by
    rcases h2 with ⟨p, h3, h4, h5, h6⟩ | ⟨q, p, h3, h4, h5⟩
    · obtain ⟨_, h7, h8⟩ := lsn_none h6
      rw [h4, h5, h7, h8, h3]
      exact ⟨rfl, rfl⟩
    · have h6 := lsn_dot h5 S
      rw [← h4] at h6
      constructor
      · rw [shortn, h6, h4, h3, show (((S.length : Nat) : Int) + 1).toNat = S.length + 1 by omega, show ((((q ++ [p]).length : Nat) : Int) - 1) = ((q.length : Nat) : Int) by simp]
        rw [rd_mid (pre := q) (rest := [])]
        simp [List.drop_append]
      · rw [spacen, h6, h4]; simp
  simp only [Option.bind_some, f326_j159, haw, cond_true, e1]
  rw [full1 (by omega) (by omega), short1 (by omega) (by omega), space1 (by omega) (by omega)]
  simp only [Option.bind_some, fulln, h1, ← hG]
  rw [gdp (by omega), hsh.1, hsh.2]
  have e2 : decide (((A.length : Nat) : Int) ≤ 100) = decide (A.length ≤ 100) := by simp; omega
  rw [e2]
  cases G
  · simp
  · simp
end Go.Proofs.Abs
