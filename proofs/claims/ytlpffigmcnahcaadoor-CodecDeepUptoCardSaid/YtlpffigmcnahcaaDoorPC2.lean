/- Reading numbers and texts: what the reader's functions come to. -/
import Derived.Test.YtlpffigmcnahcaaDoorPC1
set_option linter.unusedSimpArgs false
namespace Go.Proofs.Abs
open Go
set_option linter.unusedVariables false
set_option maxRecDepth 10000
theorem and127 (n : Nat) (h : n < 256) : bitsA .and .u8 (n : Int) 127 = ((n % 128 : Nat) : Int) := by
  have : ∀ x, x < 256 → bitsA .and .u8 ((x : Nat) : Int) 127 = ((x % 128 : Nat) : Int) := by decide +kernel
  exact this n h
theorem orAdd {v x i : Nat} (hv : v < 2 ^ i) (h1 : v < 18446744073709551616) (h : x * 2 ^ i < 18446744073709551616) : bitsA .or .u64 (v : Int) ((x * 2 ^ i : Nat) : Int) = ((v + x * 2 ^ i : Nat) : Int) := by
  rw [or64 h1 h]
  have := Nat.two_pow_add_eq_or_of_lt (i := i) hv x
  rw [Nat.or_comm, Nat.mul_comm x, ← this, Nat.add_comm]
theorem shl64 {x i : Nat} (hi : i ≤ 9) (h : x * 2 ^ (7 * i) < 18446744073709551616) : IntKind.u64.wrap ((x : Int) * 2 ^ (min ((IntKind.i64.wrap ((7 : Int) * (i : Int)))).toNat IntKind.u64.bits)) = ((x * 2 ^ (7 * i) : Nat) : Int) := by
  rw [i64w (by omega), show ((7 : Int) * (i : Int)).toNat = 7 * i by omega, show IntKind.u64.bits = 64 from rfl, Nat.min_eq_left (by omega)]
  rw [show ((x : Int) * 2 ^ (7 * i)) = ((x * 2 ^ (7 * i) : Nat) : Int) by push_cast; rfl]
  exact u64w (by omega)
theorem dig_lt {c i : Nat} (hc : c < 128) (hi : i ≤ 9) (h9 : i = 9 → c ≤ 1) : c * 2 ^ (7 * i) < 18446744073709551616 := by
  by_cases h3 : i = 9
  · subst h3
    have := h9 rfl
    have : c * 2 ^ (7 * 9) = c * 9223372036854775808 := rfl
    omega
  · have h4 : 2 ^ (7 * i) ≤ 2 ^ 56 := Nat.pow_le_pow_right (by decide) (by omega)
    have h5 : c * 2 ^ (7 * i) ≤ 127 * 2 ^ 56 := Nat.mul_le_mul (by omega) h4
    exact Nat.lt_of_le_of_lt h5 (by decide)
theorem l37 {b : List UInt8} {e : Int} (hb : b.length ≤ 100000000) : ∀ (rest pre : List UInt8) (i v k : Nat), b = pre ++ rest → i ≤ 9 → v < 2 ^ (7 * i) → 10 ≤ k + i →
    (∀ e', rdN i v rest = .inl e' → ∃ q, f39_l37 b e k (v : Int) (i : Int) ((pre.length : Nat) : Int) = some (.b0 (e', q))) ∧
    (∀ w n, rdN i v rest = .inr (w, n) → f39_l37 b e k (v : Int) (i : Int) ((pre.length : Nat) : Int) = some (.r ((w : Int), ((pre.length + (n - i) : Nat) : Int), e))) := by
  intro rest
  induction rest with
  | nil =>
    intro pre i v k hpre hi hv hk
    obtain ⟨k, rfl, _⟩ := succ_of_pos (show 0 < k by omega)
    have hl : b.length = pre.length := by rw [hpre]; simp
    refine ⟨fun e' h => ⟨((pre.length : Nat) : Int), ?_⟩, fun w n h => by simp [rdN] at h⟩
    simp only [rdN, Sum.inl.injEq] at h
    rw [f39_l37, cond_dec, if_neg (by omega), h]
  | cons c rest ih =>
    intro pre i v k hpre hi hv hk
    obtain ⟨k, rfl, _⟩ := succ_of_pos (show 0 < k by omega)
    have hl : b.length = pre.length + rest.length + 1 := by rw [hpre]; simp; omega
    have hrd : rd b ((pre.length : Nat) : Int) = c := by rw [hpre]; exact rd_mid
    have hc := c.toNat_lt
    have hw : IntKind.i64.wrap (((pre.length : Nat) : Int) + 1) = (((pre ++ [c]).length : Nat) : Int) := by
      rw [i64w (by omega)]; simp
    have hwi : IntKind.i64.wrap ((i : Int) + 1) = ((i + 1 : Nat) : Int) := by rw [i64w (by omega)]; omega
    have key : f39_l37 b e (k + 1) (v : Int) (i : Int) ((pre.length : Nat) : Int) = if i = 9 ∧ 1 < c.toNat ∨ 0 < i ∧ c.toNat = 0 then some (.b0 (4, (((pre ++ [c]).length : Nat) : Int))) else if c.toNat < 128 then some (.r (((v + c.toNat * 2 ^ (7 * i) : Nat) : Int), (((pre ++ [c]).length : Nat) : Int), e)) else f39_l37 b e k ((v + c.toNat % 128 * 2 ^ (7 * i) : Nat) : Int) ((i + 1 : Nat) : Int) (((pre ++ [c]).length : Nat) : Int) := by
      rw [f39_l37, cond_dec, if_pos (by omega), gd_pos (by omega), gd_pos (by rw [i64w (by omega)]; omega)]
      have hv64 : v < 18446744073709551616 := Nat.lt_of_lt_of_le hv (Nat.le_trans (Nat.pow_le_pow_right (by decide) (show 7 * i ≤ 64 by omega)) (by decide))
      have e2 : ¬ (i = 9 ∧ 1 < c.toNat ∨ 0 < i ∧ c.toNat = 0) → (bitsA .or .u64 (v : Int) (IntKind.u64.wrap ((IntKind.u64.wrap (((u8 (bitsA .and .u8 ((c.toNat : Nat) : Int) (127 : Int))).toNat : Nat) : Int)) * 2 ^ (min ((IntKind.i64.wrap ((7 : Int) * (i : Int)))).toNat IntKind.u64.bits)))) = ((v + c.toNat % 128 * 2 ^ (7 * i) : Nat) : Int) := by
        intro hn
        have hd := dig_lt (c := c.toNat % 128) (i := i) (by omega) hi (by omega)
        rw [and127 _ hc, u8i _ (by omega), u64w (n := ((c.toNat % 128 : Nat) : Int)) (by omega), shl64 hi hd, orAdd hv hv64 hd]
      have e3 : f39_j118 (f39_l37 b e k) k ((pre.length : Nat) : Int) b (v : Int) (i : Int) e true = some (.b0 (4, (((pre ++ [c]).length : Nat) : Int))) := by
        simp only [f39_j118, cond_true, hw]
      have e4 : ¬ (i = 9 ∧ 1 < c.toNat ∨ 0 < i ∧ c.toNat = 0) → f39_j118 (f39_l37 b e k) k ((pre.length : Nat) : Int) b (v : Int) (i : Int) e false = if c.toNat < 128 then some (.r (((v + c.toNat * 2 ^ (7 * i) : Nat) : Int), (((pre ++ [c]).length : Nat) : Int), e)) else f39_l37 b e k ((v + c.toNat % 128 * 2 ^ (7 * i) : Nat) : Int) ((i + 1 : Nat) : Int) (((pre ++ [c]).length : Nat) : Int) := by
        intro hn
        simp only [f39_j118, cond_false, cond_dec, hrd, e2 hn, hw, hwi]
        by_cases h : c.toNat < 128
        · rw [if_pos (by omega), if_pos h, Nat.mod_eq_of_lt h]
        · rw [if_neg (by omega), if_neg h]
      have e5 : ∀ x : Bool, f39_j107 (f39_l37 b e k) k ((pre.length : Nat) : Int) b (v : Int) (i : Int) e x = f39_j118 (f39_l37 b e k) k ((pre.length : Nat) : Int) b (v : Int) (i : Int) e (x || decide (0 < i ∧ c.toNat = 0)) := by
        intro x
        cases x
        · simp only [f39_j107, cond_false, cond_dec, hrd, Bool.false_or]
          by_cases h : 0 < i
          · rw [if_pos (by omega)]
            congr 1
            simp only [decide_eq_decide]
            omega
          · rw [if_neg (by omega)]
            congr 1
            simp [h]
        · simp only [f39_j107, cond_true, Bool.true_or]
      simp only [e5, cond_dec, hrd]
      by_cases h1 : i = 9 ∧ 1 < c.toNat ∨ 0 < i ∧ c.toNat = 0
      · rw [if_pos h1]
        by_cases h9 : i = 9
        · rw [if_pos (by omega)]
          rw [show (decide (((c.toNat : Nat) : Int) > 1) || decide (0 < i ∧ c.toNat = 0)) = true by simp; omega]
          exact e3
        · rw [if_neg (by omega)]
          rw [show (false || decide (0 < i ∧ c.toNat = 0)) = true by simp; omega]
          exact e3
      · rw [if_neg h1]
        by_cases h9 : i = 9
        · rw [if_pos (by omega)]
          rw [show (decide (((c.toNat : Nat) : Int) > 1) || decide (0 < i ∧ c.toNat = 0)) = false by simp; omega]
          exact e4 h1
        · rw [if_neg (by omega)]
          rw [show (false || decide (0 < i ∧ c.toNat = 0)) = false by simp; omega]
          exact e4 h1
    rw [key]
    refine ⟨fun e' h => ?_, fun w n h => ?_⟩
    · rw [rdN] at h
      by_cases h1 : i = 9 ∧ 1 < c.toNat ∨ 0 < i ∧ c.toNat = 0
      · rw [if_pos h1] at h ⊢
        cases h
        exact ⟨_, rfl⟩
      · rw [if_neg h1] at h ⊢
        by_cases h2 : c.toNat < 128
        · rw [if_pos h2] at h; cases h
        · rw [if_neg h2] at h ⊢
          have hv' : v + c.toNat % 128 * 2 ^ (7 * i) < 2 ^ (7 * (i + 1)) := by
            rw [pow7]
            have : c.toNat % 128 * 2 ^ (7 * i) ≤ 127 * 2 ^ (7 * i) := Nat.mul_le_mul_right _ (by omega)
            omega
          exact (ih (pre ++ [c]) (i + 1) _ k (by rw [hpre]; simp) (by omega) hv' (by omega)).1 e' h
    · rw [rdN] at h
      by_cases h1 : i = 9 ∧ 1 < c.toNat ∨ 0 < i ∧ c.toNat = 0
      · rw [if_pos h1] at h; cases h
      · rw [if_neg h1] at h ⊢
        by_cases h2 : c.toNat < 128
        · rw [if_pos h2] at h ⊢
          simp only [Sum.inr.injEq, Prod.mk.injEq] at h
          rw [h.1, ← h.2]
          simp
        · rw [if_neg h2] at h ⊢
          have hv' : v + c.toNat % 128 * 2 ^ (7 * i) < 2 ^ (7 * (i + 1)) := by
            rw [pow7]
            have : c.toNat % 128 * 2 ^ (7 * i) ≤ 127 * 2 ^ (7 * i) := Nat.mul_le_mul_right _ (by omega)
            omega
          have hn := rdN_back _ _ _ _ _ (by omega) h
          obtain ⟨u, _, _, _, hn, _⟩ := hn
          have := nb_pos u
          rw [(ih (pre ++ [c]) (i + 1) _ k (by rw [hpre]; simp) (by omega) hv' (by omega)).2 w n h]
          congr 4
          simp
          omega
theorem num_read {b : List UInt8} {p : Nat} {e : Int} (hb : b.length ≤ 100000000) (hp : p ≤ b.length) {k : Nat} (hk : 10 ≤ k) : f39 k b (p : Int) e = some (((rNum b p e).1 : Int), ((rNum b p e).2.1 : Int), (rNum b p e).2.2) := by
  simp only [f39, f84, Option.bind_some]
  by_cases he : e = 0
  · subst he
    have h := l37 (e := 0) hb (b.drop p) (b.take p) 0 0 k (List.take_append_drop _ _).symm (by omega) (by simp) (by omega)
    rw [List.length_take, Nat.min_eq_left hp] at h
    simp only [rNum, if_true]
    simp only [decide_true, Bool.not_true, cond_false]
    cases hr : rdN 0 0 (b.drop p) with
    | inl e' =>
      obtain ⟨q, h2⟩ := h.1 e' hr
      rw [show f39_l37 b 0 k 0 0 (p : Int) = _ from h2]
      rfl
    | inr x =>
      obtain ⟨w, n⟩ := x
      have h2 := h.2 w n hr
      rw [show f39_l37 b 0 k 0 0 (p : Int) = _ from h2]
      rfl
  · rw [show (!decide (e = 0)) = true by simp [he], cond_true]
    simp only [rNum, if_neg he]
    rfl
end Go.Proofs.Abs
