/- How a text is quoted; numbers; keys that are looked for. -/
import Derived.Test.YtnhjiioiejpbgaaDoorPJtx
set_option linter.unusedSimpArgs false
namespace Go.Proofs.Abs
open Go
set_option linter.unusedVariables false
set_option maxRecDepth 100000
variable {s R : List UInt8} {n : Int} {c : UInt8} {ks : List (List UInt8)}
abbrev hexs : List UInt8 := [48, 49, 50, 51, 52, 53, 54, 55, 56, 57, 97, 98, 99, 100, 101, 102]
abbrev loI (c : Int) : Int := (((u8 (bitsA .and .u8 c (15 : Int))).toNat : Nat) : Int)
abbrev loJ (c : Int) : Int := (((u8 (IntKind.u8.wrap (loI c + (1 : Int)))).toNat : Nat) : Int)
abbrev hiI (c : Int) : Int := Int.fdiv c (2 ^ (min ((4 : Int)).toNat IntKind.u8.bits))
abbrev hiJ (c : Int) : Int := (((u8 (IntKind.u8.wrap (hiI c + (1 : Int)))).toNat : Nat) : Int)
theorem ctl_at : ∀ c : Fin 32, (0 ≤ hiI (c.val : Int) ∧ hiI (c.val : Int) ≤ hiJ (c.val : Int) ∧ hiJ (c.val : Int) ≤ 16) ∧ (0 ≤ loI (c.val : Int) ∧ loI (c.val : Int) ≤ loJ (c.val : Int) ∧ loJ (c.val : Int) ≤ 16) ∧
    sl hexs (hiI (c.val : Int)) (hiJ (c.val : Int)) = [hexd (c.val / 16)] ∧ sl hexs (loI (c.val : Int)) (loJ (c.val : Int)) = [hexd (c.val % 16)] := by decide
theorem escB_len (c : UInt8) : (escB c).length ≤ 6 := by
  unfold escB
  split
  · simp
  · split <;> simp
theorem escT_len : ∀ l : List UInt8, (escT l).length ≤ 6 * l.length
  | [] => Nat.le_refl _
  | c :: t => by
    have := escB_len c
    have := escT_len t
    rw [escT_cons, List.length_append, List.length_cons]
    omega
theorem quote_loop (hs : s.length ≤ 2000000) : ∀ (rest y : List UInt8) (n : Int) (K : Nat), At s n rest → rest.length + 1 ≤ K → y.length + 6 * rest.length ≤ 100000000 → f356_l14 s K y n = some (.b0 (y ++ escT rest)) := by
  intro rest
  induction rest with
  | nil =>
    intro y n K h hK hy
    obtain ⟨K, rfl⟩ : ∃ j, K = j + 1 := ⟨K - 1, by omega⟩
    have hl := h.len
    rw [List.length_nil] at hl
    rw [f356_l14, cdn (by omega)]
    simp [escT]
  | cons c t ih =>
    intro y n K h hK hy
    rw [List.length_cons] at hK hy
    obtain ⟨K, rfl⟩ : ∃ j, K = j + 1 := ⟨K - 1, by omega⟩
    have hl := h.len
    rw [List.length_cons] at hl
    have hcl := c.toNat_lt
    have hY : ∀ z : List UInt8, (y ++ z).length = y.length + z.length := fun z => List.length_append
    have q : (c.toNat = 34 ∨ c.toNat = 92) → f356_j47 (f356_l14 s K) K y n s true = some (.b0 (y ++ escT (c :: t))) := by
      intro hq
      have eB : escB c = [92, c] := if_pos hq
      unfold f356_j47
      rw [cond_true, gdp (by simp only [List.length_cons, List.length_nil]; omega), i64w (by omega), gdp (by omega), h.sl1, gdp (by simp only [List.length_append, List.length_cons, List.length_nil]; omega), ih _ _ _ h.next (by omega) (by simp only [List.length_append, List.length_cons, List.length_nil]; omega), escT_cons, eB]
      simp
    rw [f356_l14, cdp (by omega), gdp (by omega), h.get]
    by_cases h1 : c.toNat = 34
    · rw [cdp (by omega)]
      exact q (.inl h1)
    · rw [cdn (by omega)]
      by_cases h2 : c.toNat = 92
      · rw [decide_eq_true (by omega)]
        exact q (.inr h2)
      · rw [decide_eq_false (by omega)]
        unfold f356_j47
        rw [cond_false, h.get]
        by_cases h3 : c.toNat < 32
        · have eB : escB c = [92, 117, 48, 48, hexd (c.toNat / 16), hexd (c.toNat % 16)] := by unfold escB; rw [if_neg (by omega), if_pos h3]
          obtain ⟨g1, g2, e1, e2⟩ := ctl_at ⟨c.toNat, h3⟩
          simp only at g1 g2 e1 e2
          rw [cdp (by omega), gdp (by simp only [List.length_cons, List.length_nil]; omega)]
          show gd (0 ≤ hiI (c.toNat : Int) ∧ hiI (c.toNat : Int) ≤ hiJ (c.toNat : Int) ∧ hiJ (c.toNat : Int) ≤ 16) (gd ((y ++ [92, 117, 48, 48]).length + (sl hexs (hiI (c.toNat : Int)) (hiJ (c.toNat : Int))).length ≤ 9223372036854775807) (gd (0 ≤ loI (c.toNat : Int) ∧ loI (c.toNat : Int) ≤ loJ (c.toNat : Int) ∧ loJ (c.toNat : Int) ≤ 16) (gd (((y ++ [92, 117, 48, 48]) ++ sl hexs (hiI (c.toNat : Int)) (hiJ (c.toNat : Int))).length + (sl hexs (loI (c.toNat : Int)) (loJ (c.toNat : Int))).length ≤ 9223372036854775807) (f356_l14 s K (((y ++ [92, 117, 48, 48]) ++ sl hexs (hiI (c.toNat : Int)) (hiJ (c.toNat : Int))) ++ sl hexs (loI (c.toNat : Int)) (loJ (c.toNat : Int))) (IntKind.i64.wrap (n + 1)))))) = _
          rw [gdp g1, gdp (by rw [e1]; simp only [List.length_append, List.length_cons, List.length_nil]; omega), gdp g2, gdp (by rw [e1, e2]; simp only [List.length_append, List.length_cons, List.length_nil]; omega), e1, e2, i64w (by omega), ih _ _ _ h.next (by omega) (by simp only [List.length_append, List.length_cons, List.length_nil]; omega), escT_cons, eB]
          simp
        · have eB : escB c = [c] := by unfold escB; rw [if_neg (by omega), if_neg h3]
          rw [cdn (by omega), i64w (by omega), gdp (by omega), h.sl1, gdp (by simp only [List.length_cons, List.length_nil]; omega), ih _ _ _ h.next (by omega) (by simp only [List.length_append, List.length_cons, List.length_nil]; omega), escT_cons, eB]
          simp
theorem quote_at (K : Nat) (s : List UInt8) (hs : s.length ≤ 2000000) (hK : s.length + 1 ≤ K) : f356 K s = some (quo s) := by
  have := escT_len s
  unfold f356
  rw [quote_loop hs s [34] 0 K (At.start s) hK (by simp; omega), Option.bind_some]
  show f356_j100 K ([34] ++ escT s) = _
  unfold f356_j100
  rw [gdp (by simp only [List.length_append, List.length_cons, List.length_nil]; omega)]
  simp [quo]
theorem quo_len (t : List UInt8) : (quo t).length ≤ 6 * t.length + 2 := by
  have := escT_len t
  simp only [quo, List.length_cons, List.length_append, List.length_nil]
  omega
/-- a small number's digits -/
def dig (i : Nat) : List UInt8 := if i < 10 then [UInt8.ofNat (48 + i)] else [49, UInt8.ofNat (48 + i % 10)]
/-- no digit comes -/
def Nd (R : List UInt8) : Prop := ∀ d R', R = d :: R' → d.toNat < 48 ∨ 57 < d.toNat
theorem idx_no (q : List UInt8) (hb : ks.length ≤ 1000000) : ∀ (rest pre : List (List UInt8)) (K : Nat), ks = pre ++ rest → rest.length + 1 ≤ K → q ∉ rest → f240_l12 ks q K ((pre.length : Nat) : Int) = some (.b0 ()) := by
  intro rest
  induction rest with
  | nil =>
    intro pre K e hK hq
    obtain ⟨K, rfl⟩ : ∃ j, K = j + 1 := ⟨K - 1, by omega⟩
    rw [f240_l12, cdn (by rw [e]; simp)]
  | cons x t ih =>
    intro pre K e hK hq
    rw [List.length_cons] at hK
    obtain ⟨K, rfl⟩ : ∃ j, K = j + 1 := ⟨K - 1, by omega⟩
    have hl : ks.length = pre.length + (t.length + 1) := by rw [e]; simp
    have hm : rd ks ((pre.length : Nat) : Int) = x := by rw [e]; exact rd_mid
    simp only [List.mem_cons, not_or] at hq
    rw [f240_l12, cdp (by omega), gdp (by omega), hm, cdn hq.1, i64w (by omega)]
    have := ih (pre ++ [x]) K (by rw [e]; simp) (by omega) hq.2
    simpa using this
theorem idx_at (q : List UInt8) (hb : ks.length ≤ 1000000) (b : List (List UInt8)) : ∀ (a pre : List (List UInt8)) (K : Nat), ks = pre ++ (a ++ q :: b) → a.length + 1 ≤ K → q ∉ a → f240_l12 ks q K ((pre.length : Nat) : Int) = some (.r (((pre.length + a.length : Nat) : Nat) : Int)) := by
  intro a
  induction a with
  | nil =>
    intro pre K e hK hq
    obtain ⟨K, rfl⟩ : ∃ j, K = j + 1 := ⟨K - 1, by omega⟩
    have hl : ks.length = pre.length + (b.length + 1) := by rw [e]; simp
    have hm : rd ks ((pre.length : Nat) : Int) = q := by rw [e]; exact rd_mid
    rw [f240_l12, cdp (by omega), gdp (by omega), hm, cdp rfl]
    rfl
  | cons x t ih =>
    intro pre K e hK hq
    rw [List.length_cons] at hK
    obtain ⟨K, rfl⟩ : ∃ j, K = j + 1 := ⟨K - 1, by omega⟩
    have hl : ks.length = pre.length + (t.length + 1 + (b.length + 1)) := by rw [e]; simp; omega
    have hm : rd ks ((pre.length : Nat) : Int) = x := by rw [e]; exact rd_mid
    simp only [List.mem_cons, not_or] at hq
    rw [f240_l12, cdp (by omega), gdp (by omega), hm, cdn hq.1, i64w (by omega)]
    have := ih (pre ++ [x]) K (by rw [e]; simp) (by omega) hq.2
    rw [List.length_append] at this
    simp only [List.length_cons, List.length_nil] at this ⊢
    rw [show pre.length + (t.length + 1) = pre.length + (0 + 1) + t.length by omega]
    exact this
theorem index_at (K : Nat) (a b : List (List UInt8)) (q : List UInt8) (hb : (a ++ q :: b).length ≤ 1000000) (hK : a.length + 1 ≤ K) (hq : q ∉ a) : f240 K (a ++ q :: b) q = some ((a.length : Nat) : Int) := by
  have := idx_at (ks := a ++ q :: b) q hb b a [] K rfl hK hq
  unfold f240
  show (f240_l12 (a ++ q :: b) q K (((([] : List (List UInt8)).length : Nat)) : Int)).bind _ = _
  rw [this, Option.bind_some]
  simp
theorem has_no (K : Nat) (ks : List (List UInt8)) (q : List UInt8) (hb : ks.length ≤ 1000000) (hK : ks.length + 1 ≤ K) (hq : q ∉ ks) : f239 K ks q = some false := by
  have := idx_no (ks := ks) q hb ks [] K rfl hK hq
  unfold f239 f240
  show (Option.bind (f240_l12 ks q K (((([] : List (List UInt8)).length : Nat)) : Int)) _).bind _ = _
  rw [this]
  rfl
theorem first_mem (q : List UInt8) : ∀ ks : List (List UInt8), q ∈ ks → ∃ a b, ks = a ++ q :: b ∧ q ∉ a
  | [], h => by cases h
  | x :: t, h => by
    by_cases hx : q = x
    · exact ⟨[], t, by rw [hx]; rfl, by simp⟩
    · have : q ∈ t := by
        rcases List.mem_cons.1 h with h | h
        · exact absurd h hx
        · exact h
      obtain ⟨a, b, e, hn⟩ := first_mem q t this
      exact ⟨x :: a, b, by rw [e]; rfl, by simp [hx, hn]⟩
theorem has_yes (K : Nat) (ks : List (List UInt8)) (q : List UInt8) (hb : ks.length ≤ 1000000) (hK : ks.length + 1 ≤ K) (hq : q ∈ ks) : f239 K ks q = some true := by
  obtain ⟨a, b, rfl, h⟩ := first_mem q ks hq
  rw [List.length_append] at hK
  unfold f239
  rw [index_at K a b q hb (by omega) h, Option.bind_some, decide_eq_true (by omega)]
end Go.Proofs.Abs
