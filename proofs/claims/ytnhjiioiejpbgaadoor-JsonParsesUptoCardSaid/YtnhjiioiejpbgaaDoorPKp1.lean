/- Two parsers of json at the same place: white, what stands there, four digits. -/
import Derived.Test.YtnhjiioiejpbgaaDoorPKat
set_option linter.unusedSimpArgs false
namespace Go.Proofs.Abs
open Go
set_option linter.unusedVariables false
set_option maxRecDepth 100000
variable {s R : List UInt8} {n : Int} {c : UInt8}
def isW (c : UInt8) : Prop := c.toNat = 32 ∨ c.toNat = 9 ∨ c.toNat = 10 ∨ c.toNat = 13
theorem white2 (hb : s.length ≤ 20000) : ∀ (R : List UInt8) (n : Int) (K : Nat), At s n R → R.length + 1 ≤ K →
    ∃ n' R', At s n' R' ∧ R'.length ≤ R.length ∧ f398_l4 s K n = some (.b0 n') ∧ f297_l1 s K n = some (.b0 n') ∧ (∀ c t, R' = c :: t → ¬ isW c) := by
  intro R
  induction R with
  | nil =>
    intro n K h hK
    obtain ⟨K, rfl⟩ : ∃ j, K = j + 1 := ⟨K - 1, by omega⟩
    have hl := h.len
    rw [List.length_nil] at hl
    refine ⟨n, [], h, Nat.le_refl _, ?_, ?_, fun c t e => by cases e⟩
    · rw [f398_l4, cdn (by omega)]
    · rw [f297_l1, cdn (by omega)]
  | cons c t ih =>
    intro n K h hK
    rw [List.length_cons] at hK
    obtain ⟨K, rfl⟩ : ∃ j, K = j + 1 := ⟨K - 1, by omega⟩
    have hl := h.len
    rw [List.length_cons] at hl
    by_cases hw : isW c
    · obtain ⟨n', R', h1, h2, h3, h4, h5⟩ := ih (n + 1) K h.next (by omega)
      refine ⟨n', R', h1, by simp; omega, ?_, ?_, h5⟩
      · rw [f398_l4, cdp (by omega), gdp (by omega), h.get]
        have e : f398_j69 (f398_l4 s K) K n = some (.b0 n') := by unfold f398_j69; rw [i64w (by omega), h3]
        rw [e]
        by_cases a1 : ((c.toNat : Nat) : Int) = 32
        · rw [cdp a1, cdp a1]
        · rw [cdn a1]
          by_cases a2 : ((c.toNat : Nat) : Int) = 9
          · rw [cdp a2, cdp a2]
          · rw [cdn a2]
            by_cases a3 : ((c.toNat : Nat) : Int) = 10
            · rw [cdp a3, cdp a3]
            · rw [cdn a3, cdp (by unfold isW at hw; omega)]
      · rw [f297_l1, cdp (by omega), gdp (by omega), h.get]
        have e : ∀ a b c d e f, f297_j68 (f297_l1 s K) K n a b c d e f = some (.b0 n') := by intro a b c d e f; unfold f297_j68; rw [i64w (by omega), h4]
        by_cases a1 : ((c.toNat : Nat) : Int) = 32
        · rw [cdp a1, e]
        · rw [cdn a1, gdp (by omega)]
          by_cases a2 : ((c.toNat : Nat) : Int) = 9
          · rw [cdp a2, e]
          · rw [cdn a2, gdp (by omega)]
            by_cases a3 : ((c.toNat : Nat) : Int) = 10
            · rw [cdp a3, e]
            · rw [cdn a3, gdp (by omega), cdp (by unfold isW at hw; omega), e]
    · refine ⟨n, c :: t, h, Nat.le_refl _, ?_, ?_, fun c' t' e => by cases e; exact hw⟩
      · unfold isW at hw
        rw [f398_l4, cdp (by omega), gdp (by omega), h.get, cdn (by omega), cdn (by omega), cdn (by omega), cdn (by omega)]
      · unfold isW at hw
        rw [f297_l1, cdp (by omega), gdp (by omega), h.get, cdn (by omega), gdp (by omega), cdn (by omega), gdp (by omega), cdn (by omega), gdp (by omega), cdn (by omega)]
theorem whites (hb : s.length ≤ 20000) (K : Nat) (h : At s n R) (hK : R.length + 1 ≤ K) :
    ∃ n' R', At s n' R' ∧ R'.length ≤ R.length ∧ f398 K s n = some n' ∧ (∀ e, f297 K s n e = some n') ∧ (∀ c t, R' = c :: t → ¬ isW c) := by
  obtain ⟨n', R', h1, h2, h3, h4, h5⟩ := white2 hb R n K h hK
  refine ⟨n', R', h1, h2, ?_, fun e => ?_, h5⟩
  · unfold f398; rw [h3]; rfl
  · unfold f297; rw [h4]; rfl
theorem At.slk (h : At s n R) (m : Nat) (hm : m ≤ R.length) : Abs.sl s n (n + (m : Int)) = R.take m := by
  obtain ⟨P, rfl, rfl⟩ := h
  unfold Abs.sl
  rw [show (((P.length : Nat) : Int) + (m : Int)).toNat = P.length + m by omega, Int.toNat_natCast, List.take_append, List.take_of_length_le (by omega), show P.length + m - P.length = m by omega, List.drop_left]
theorem ris_yes (k : Nat) (e : Int) (a : List UInt8) (h : At s n (a ++ R)) (hb : s.length ≤ 20000) : f299 k s n e a = some (true, n + ((a.length : Nat) : Int)) := by
  have hl := h.len
  rw [List.length_append] at hl
  unfold f299
  rw [i64w (by omega), cdp (by omega), i64w (by omega), gdp (by omega), h.slk a.length (by simp), List.take_left, decide_eq_true rfl]
  unfold f299_j42
  rw [cond_true, i64w (by omega)]
theorem ris_no (k : Nat) (e : Int) (a : List UInt8) (h : At s n R) (hb : s.length ≤ 20000) (ha : a.length ≤ 100) (hn : R.take a.length ≠ a) : f299 k s n e a = some (false, n) := by
  have hl := h.len
  unfold f299
  by_cases hr : a.length ≤ R.length
  · rw [i64w (by omega), cdp (by omega), i64w (by omega), gdp (by omega), h.slk a.length hr, decide_eq_false hn]
    rfl
  · rw [i64w (by omega), cdn (by omega)]
    rfl
theorem ris_1 (k : Nat) (e : Int) (a : UInt8) (h : At s n (c :: R)) (hb : s.length ≤ 20000) (hn : c ≠ a) : f299 k s n e [a] = some (false, n) :=
  ris_no k e [a] h hb (by simp) (by simpa using hn)
theorem ris_0 (k : Nat) (e : Int) (a : UInt8) (t : List UInt8) (h : At s n []) (hb : s.length ≤ 20000) (ht : t.length ≤ 50) : f299 k s n e (a :: t) = some (false, n) :=
  ris_no k e (a :: t) h hb (by simp; omega) (by simp)
theorem is_end (k : Nat) (d : UInt8) (h : At s n []) : f401 k s n d = some (false, n) := by
  have hl := h.len
  rw [List.length_nil] at hl
  unfold f401
  rw [cdn (by omega)]
  rfl
/-- a digit of 16 -/
def hv (c : UInt8) : Option Nat := if 48 ≤ c.toNat ∧ c.toNat ≤ 57 then some (c.toNat - 48) else if 97 ≤ c.toNat ∧ c.toNat ≤ 102 then some (c.toNat - 87) else if 65 ≤ c.toNat ∧ c.toNat ≤ 70 then some (c.toNat - 55) else none
def hvI (c : UInt8) : Int := match hv c with | some d => (d : Int) | none => -1
theorem hv_le {d : Nat} (h : hv c = some d) : d ≤ 15 := by
  unfold hv at h
  split at h
  · cases h; omega
  · split at h
    · cases h; omega
    · split at h
      · cases h; omega
      · cases h
theorem digit_fin : ∀ x : Fin 256, f303 0 (UInt8.ofNat x.val) = some (hvI (UInt8.ofNat x.val)) := by decide
theorem digit_at (k : Nat) (c : UInt8) : f303 k c = some (hvI c) := by
  have := digit_fin ⟨c.toNat, c.toNat_lt⟩
  simp only [UInt8.ofNat_toNat] at this
  exact this
def dg : Nat → Int → List UInt8 → Option (Int × List UInt8)
  | 0, v, R => some (v, R)
  | _ + 1, _, [] => none
  | j + 1, v, c :: t => match hv c with
    | some d => dg j (16 * v + (d : Int)) t
    | none => none
def lim : Nat → Int
  | 0 => 65535 | 1 => 4095 | 2 => 255 | 3 => 15 | _ => 0
theorem lim_step {j : Nat} {v : Int} {d : Nat} (hj : j < 4) (h : v ≤ lim (j + 1)) (hd : d ≤ 15) : 16 * v + (d : Int) ≤ lim j := by
  match j, hj with
  | 0, _ => simp only [lim] at *; omega
  | 1, _ => simp only [lim] at *; omega
  | 2, _ => simp only [lim] at *; omega
  | 3, _ => simp only [lim] at *; omega
theorem lim_le (j : Nat) : lim j ≤ 65535 := by unfold lim; split <;> omega
theorem lim_le1 (j : Nat) : lim (j + 1) ≤ 4095 := by unfold lim; split <;> omega
theorem rfour (hb : s.length ≤ 20000) : ∀ (j : Nat) (v : Int) (n : Int) (R : List UInt8) (K : Nat), j ≤ 4 → j + 1 ≤ K → At s n R → 0 ≤ v → v ≤ lim j →
    (∃ v' R', dg j v R = some (v', R') ∧ f302_l14 s K v (4 - (j : Int)) n = some (.b0 (v', n + (j : Int))) ∧ At s (n + (j : Int)) R' ∧ 0 ≤ v' ∧ v' ≤ 65535 ∧ R'.length ≤ R.length) ∨
    (dg j v R = none ∧ ∃ n2 R2, f302_l14 s K v (4 - (j : Int)) n = some (.r (-1, n2)) ∧ At s n2 R2 ∧ R2.length ≤ R.length)
  | 0, v, n, R, K, hj, hK, h, h0, h1 => by
    obtain ⟨K, rfl⟩ : ∃ i, K = i + 1 := ⟨K - 1, by omega⟩
    refine .inl ⟨v, R, rfl, ?_, by simpa using h, h0, h1, Nat.le_refl _⟩
    rw [f302_l14, cdn (by omega)]
    simp
  | j + 1, v, n, R, K, hj, hK, h, h0, h1 => by
    obtain ⟨K, rfl⟩ : ∃ i, K = i + 1 := ⟨K - 1, by omega⟩
    have hl := h.len
    have hv4 := lim_le1 j
    cases R with
    | nil =>
      rw [List.length_nil] at hl
      refine .inr ⟨rfl, n, [], ?_, h, Nat.le_refl _⟩
      rw [f302_l14, cdp (by omega), cdp (by omega)]
    | cons c t =>
      rw [List.length_cons] at hl
      cases hd : hv c with
      | none =>
        refine .inr ⟨by simp only [dg, hd], n, c :: t, ?_, h, Nat.le_refl _⟩
        rw [f302_l14, cdp (by omega), cdn (by omega), gdp (by omega), h.get, digit_at, Option.bind_some, cdp (by simp only [hvI, hd]; omega)]
      | some d =>
        have hd15 := hv_le hd
        have e : f302_l14 s (K + 1) v (4 - ((j + 1 : Nat) : Int)) n = f302_l14 s K (16 * v + (d : Int)) (4 - (j : Int)) (n + 1) := by
          rw [f302_l14, cdp (by omega), cdn (by omega), gdp (by omega), h.get, digit_at, Option.bind_some]
          simp only [hvI, hd]
          rw [cdn (by omega), gdp (by omega), Option.bind_some, i64w (n := 16 * v) (by omega), i64w (n := 16 * v + (d : Int)) (by omega), i64w (n := 4 - ((j + 1 : Nat) : Int) + 1) (by omega), i64w (n := n + 1) (by omega), show (4 : Int) - ((j + 1 : Nat) : Int) + 1 = 4 - (j : Int) by omega]
        have edg : dg (j + 1) v (c :: t) = dg j (16 * v + (d : Int)) t := by simp only [dg, hd]
        rw [e, edg]
        rcases rfour hb j (16 * v + (d : Int)) (n + 1) t K (by omega) (by omega) h.next (by omega) (lim_step (by omega) h1 hd15) with ⟨v', R', g1, g2, g3, g4, g5, g6⟩ | ⟨g1, n2, R2, g2, g3, g4⟩
        · refine .inl ⟨v', R', g1, ?_, ?_, g4, g5, by simp; omega⟩
          · rw [g2, show n + 1 + (j : Int) = n + ((j + 1 : Nat) : Int) by omega]
          · rwa [show n + 1 + (j : Int) = n + ((j + 1 : Nat) : Int) by omega] at g3
        · exact .inr ⟨g1, n2, R2, g2, g3, by simp; omega⟩
end Go.Proofs.Abs
