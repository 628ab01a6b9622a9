/- The law CrcBurst over the Lean functions: no burst of up to 32 bits is lost. -/
import Derived.Test.YtgimibhacllcpaaPCrd
namespace Go.Proofs.Abs
open Go
set_option linter.unusedVariables false
set_option maxRecDepth 10000

theorem u64_range' (n : Int) : 0 ≤ IntKind.u64.wrap n := by
  simp only [IntKind.wrap, IntKind.signed, IntKind.bits]
  simp
  omega
/-- a message as one number -/
def msg : List UInt8 → Nat
  | [] => 0
  | b :: r => b.toNat ^^^ (msg r * 2 ^ 8)
theorem runC_msg : ∀ (bs : List UInt8) (c : Nat), runC c bs = it (8 * bs.length) (c ^^^ msg bs)
  | [], c => by show c = it 0 (c ^^^ 0); rw [Nat.xor_zero]; rfl
  | b :: r, c => by
    rw [show 8 * (b :: r).length = 8 + 8 * r.length by simp; omega, it_add]
    show runC (it 8 (c ^^^ b.toNat)) r = _
    rw [runC_msg r, show c ^^^ msg (b :: r) = (c ^^^ b.toNat) ^^^ (msg r * 2 ^ 8) from (Nat.xor_assoc ..).symm, it_xor 8 (c ^^^ b.toNat) (msg r * 2 ^ 8), it_shl 8]
theorem mul_xor (a b n : Nat) : (a ^^^ b) * 2 ^ n = (a * 2 ^ n) ^^^ (b * 2 ^ n) := by
  apply Nat.eq_of_testBit_eq
  intro i
  simp only [Nat.testBit_xor, Nat.testBit_mul_two_pow]
  by_cases h : n ≤ i <;> simp [h]
theorem msg_set : ∀ (bs : List UInt8) (j : Nat) (v : UInt8), j < bs.length → msg (bs.set j (bs.getD j default ^^^ v)) = msg bs ^^^ (v.toNat * 2 ^ (8 * j))
  | [], j, v, h => by simp at h
  | b :: r, 0, v, h => by
    show (b ^^^ v).toNat ^^^ (msg r * 2 ^ 8) = b.toNat ^^^ (msg r * 2 ^ 8) ^^^ (v.toNat * 2 ^ 0)
    rw [UInt8.toNat_xor, Nat.pow_zero, Nat.mul_one, Nat.xor_assoc, Nat.xor_comm v.toNat, ← Nat.xor_assoc]
  | b :: r, j + 1, v, h => by
    have := msg_set r j v (by simp at h; omega)
    show b.toNat ^^^ (msg (r.set j (r.getD j default ^^^ v)) * 2 ^ 8) = b.toNat ^^^ (msg r * 2 ^ 8) ^^^ _
    rw [this, mul_xor, Nat.xor_assoc, Nat.mul_assoc, ← Nat.pow_add, show 8 * j + 8 = 8 * (j + 1) by omega]
/-- one more of the low bits -/
theorem mod_succ (x i : Nat) : x % 2 ^ (i + 1) = x % 2 ^ i ^^^ ((x / 2 ^ i % 2) * 2 ^ i) := by
  apply Nat.eq_of_testBit_eq
  intro q
  rw [Nat.testBit_xor, Nat.testBit_mod_two_pow, Nat.testBit_mod_two_pow, Nat.testBit_mul_two_pow]
  rw [show x / 2 ^ i % 2 = (x / 2 ^ i) % 2 ^ 1 from rfl, Nat.testBit_mod_two_pow, Nat.testBit_div_two_pow]
  by_cases h1 : q < i
  · simp [h1, show q < i + 1 by omega, show ¬ i ≤ q by omega]
  · by_cases h2 : q = i
    · subst h2; simp
    · simp [h1, show ¬ q < i + 1 by omega, show ¬ q - i < 1 by omega]
theorem bit_zero {x i : Nat} (h : x / 2 ^ i % 2 = 0) : x % 2 ^ (i + 1) = x % 2 ^ i := by
  rw [mod_succ, h, Nat.zero_mul, Nat.xor_zero]
theorem bit_one {x i : Nat} (h : x / 2 ^ i % 2 = 1) : x % 2 ^ (i + 1) = x % 2 ^ i ^^^ 2 ^ i ∧ x % 2 ^ (i + 1) ≠ 0 := by
  have e : x % 2 ^ (i + 1) = x % 2 ^ i ^^^ 2 ^ i := by rw [mod_succ, h, Nat.one_mul]
  refine ⟨e, fun h0 => ?_⟩
  have := congrArg (fun y => y / 2 ^ i % 2) h0
  simp only [Nat.zero_div, Nat.zero_mod] at this
  rw [Nat.pow_succ, Nat.mod_mul_right_div_self] at this
  omega

theorem l60 {a0 : List UInt8} {u a2 p n : Nat} {a1 : Int} (hn : a0.length = n) (hn0 : 0 < n) (hn1 : n ≤ 1048576) (hu : IntKind.u64.wrap a1 = (u : Int)) (hp : u % (8 * n) = p) (h2 : a2 < 4294967296) :
    ∀ (m i k : Nat) (L : List UInt8), m + i = min 32 (8 * n - p) → m + 1 < k → L.length = n → msg L = msg a0 ^^^ ((a2 % 2 ^ i) * 2 ^ p) →
    ∃ L', f219_l60 a1 a0 (a2 : Int) k (decide (a2 % 2 ^ i ≠ 0)) (i : Int) L = some (.b0 (decide (a2 % 2 ^ min 32 (8 * n - p) ≠ 0), L')) ∧ L'.length = n ∧ msg L' = msg a0 ^^^ ((a2 % 2 ^ min 32 (8 * n - p)) * 2 ^ p) := by
  have hp8 : p < 8 * n := by rw [← hp]; exact Nat.mod_lt _ (by omega)
  have e8 : IntKind.i64.wrap ((8 : Int) * ((a0.length : Nat) : Int)) = ((8 * n : Nat) : Int) := by rw [i64w (by omega)]; omega
  have e9 : IntKind.u64.wrap ((8 * n : Nat) : Int) = ((8 * n : Nat) : Int) := u64w (by omega)
  have eA : IntKind.i64.wrap (Int.tmod (u : Int) ((8 * n : Nat) : Int)) = (p : Int) := by
    rw [show Int.tmod (u : Int) ((8 * n : Nat) : Int) = ((u % (8 * n) : Nat) : Int) from rfl, hp, i64w (by omega)]
  intro m
  induction m with
  | zero =>
    intro i k L hm hk hL hmsg
    obtain ⟨k, rfl, _⟩ := succ_of_pos (show 0 < k by omega)
    rw [Nat.zero_add] at hm
    refine ⟨L, ?_, hL, by rw [← hm]; exact hmsg⟩
    rw [← hm, f219_l60]
    simp only [hu, e8, e9, eA, cond_dec]
    by_cases c : ((i : Nat) : Int) < 32
    · rw [if_pos c, i64w (by omega), if_neg (by omega)]
    · rw [if_neg c]
  | succ m ih =>
    intro i k L hm hk hL hmsg
    obtain ⟨k, rfl, hk'⟩ := succ_of_pos (show 0 < k by omega)
    have eB : IntKind.i64.wrap ((p : Int) + (i : Int)) = ((p + i : Nat) : Int) := by rw [i64w (by omega)]; omega
    have eC : IntKind.u64.wrap (i : Int) = (i : Int) := u64w (by omega)
    have eD : IntKind.i64.wrap (Int.tdiv ((p + i : Nat) : Int) 8) = (((p + i) / 8 : Nat) : Int) := by
      rw [show Int.tdiv ((p + i : Nat) : Int) 8 = (((p + i) / 8 : Nat) : Int) from rfl, i64w (by omega)]
    have eE : IntKind.u64.wrap (Int.tmod ((p + i : Nat) : Int) 8) = (((p + i) % 8 : Nat) : Int) := by
      rw [show Int.tmod ((p + i : Nat) : Int) 8 = (((p + i) % 8 : Nat) : Int) from rfl, u64w (by omega)]
    have eF : Int.fdiv (a2 : Int) (2 ^ (min i IntKind.u32.bits)) = ((a2 / 2 ^ i : Nat) : Int) := by
      rw [fdivN, show min i IntKind.u32.bits = i from Nat.min_eq_left (by simp [IntKind.bits]; omega)]
    have hd : a2 / 2 ^ i < 4294967296 := Nat.lt_of_le_of_lt (Nat.div_le_self _ _) h2
    have eG : bitsA .and .u32 ((a2 / 2 ^ i : Nat) : Int) 1 = ((a2 / 2 ^ i % 2 : Nat) : Int) := by
      rw [← and_one]; exact and32 (b := 1) hd (by decide)
    have eH : IntKind.i64.wrap ((i : Int) + 1) = ((i + 1 : Nat) : Int) := by rw [i64w (by omega)]; omega
    have hm8 : (p + i) % 8 < 8 := Nat.mod_lt _ (by decide)
    have hj : (p + i) / 8 < L.length := by omega
    have hv : 2 ^ ((p + i) % 8) < 256 := by
      have : 2 ^ ((p + i) % 8) < 2 ^ 8 := Nat.pow_lt_pow_right (by decide) hm8
      exact this
    have eI : IntKind.u8.wrap ((1 : Int) * 2 ^ (min ((p + i) % 8) IntKind.u8.bits)) = ((2 ^ ((p + i) % 8) : Nat) : Int) := by
      rw [show min ((p + i) % 8) IntKind.u8.bits = (p + i) % 8 from Nat.min_eq_left (by simp [IntKind.bits]; omega), Int.one_mul,
        show ((2 : Int) ^ ((p + i) % 8)) = ((2 ^ ((p + i) % 8) : Nat) : Int) from by push_cast; rfl, u8wN, Nat.mod_eq_of_lt hv]
    have eJ : u8 (bitsA .xor .u8 (((L.getD ((p + i) / 8) default).toNat : Nat) : Int) ((2 ^ ((p + i) % 8) : Nat) : Int)) = L.getD ((p + i) / 8) default ^^^ UInt8.ofNat (2 ^ ((p + i) % 8)) := by
      generalize L.getD ((p + i) / 8) default = z
      rw [xor8 z.toNat_lt hv]
      simp only [u8, Int.toNat_natCast]
      apply UInt8.toNat_inj.1
      rw [UInt8.toNat_ofNat', UInt8.toNat_xor, UInt8.toNat_ofNat', Nat.mod_eq_of_lt hv]
      exact Nat.mod_eq_of_lt (Nat.xor_lt_two_pow (n := 8) z.toNat_lt hv)
    rw [f219_l60]
    simp only [hu, e8, e9, eA, eB, eC, eD, eE, eF, eG, eH, eI, eJ, cond_dec, Int.toNat_natCast]
    rw [if_pos (by omega), if_pos (by omega), gd_pos (by omega)]
    by_cases hbit : a2 / 2 ^ i % 2 = 1
    · obtain ⟨b1, b2⟩ := bit_one hbit
      rw [if_pos (by rw [hbit]; rfl), gd_pos (by omega), gd_pos hj, gd_pos (by omega), gd_pos (by omega), gd_pos hj]
      have := ih (i + 1) k (L.set ((p + i) / 8) (L.getD ((p + i) / 8) default ^^^ UInt8.ofNat (2 ^ ((p + i) % 8)))) (by omega) (by omega) (by simp [hL]) (by
        rw [msg_set L _ _ hj, hmsg, b1, mul_xor, Nat.xor_assoc]
        congr 2
        rw [UInt8.toNat_ofNat', Nat.mod_eq_of_lt hv, ← Nat.pow_add, ← Nat.pow_add]
        congr 1
        omega)
      rw [show decide (a2 % 2 ^ (i + 1) ≠ 0) = true from decide_eq_true b2] at this
      exact this
    · have b0 : a2 / 2 ^ i % 2 = 0 := by omega
      rw [if_neg (by rw [b0]; decide)]
      have := ih (i + 1) k L (by omega) (by omega) hL (by rw [bit_zero b0]; exact hmsg)
      rw [bit_zero b0] at this
      exact this
theorem law_CrcBurst (a0 : (List UInt8)) (a1 : Int) (a2 : Int) (w0 : (∀ e0 ∈ a0, True)) (w1 : (-9223372036854775808 ≤ a1 ∧ a1 ≤ 9223372036854775807)) (w2 : (0 ≤ a2 ∧ a2 ≤ 4294967295)) (hb : ((a0.map (fun _ => 1)).sum + 1) + 1 + 1 ≤ 1048576) : ∃ k, f219 k a0 a1 a2 = some true := by
  have hn0 := len_sum (sz := fun _ : UInt8 => 1) (fun _ => Nat.le_refl _) a0
  obtain ⟨c, rfl⟩ := Int.eq_ofNat_of_zero_le w2.1
  refine ⟨a0.length + 400, ?_⟩
  simp only [f219, awake17 (show 300 < a0.length + 400 by omega), Option.bind_some, Bool.not_true, cond_false, cond_dec]
  by_cases c1 : ((a0.length : Nat) : Int) = 0
  · rw [if_pos c1]
  by_cases c2 : (c : Int) = 0
  · rw [if_neg c1, if_pos c2]
  rw [if_neg c1, if_neg c2, if_neg (by omega)]
  have hw := u64_range' a1
  obtain ⟨u, hu⟩ := Int.eq_ofNat_of_zero_le hw
  have e8 : IntKind.i64.wrap ((8 : Int) * ((a0.length : Nat) : Int)) = ((8 * a0.length : Nat) : Int) := by rw [i64w (by omega)]; omega
  have e9 : IntKind.u64.wrap ((8 * a0.length : Nat) : Int) = ((8 * a0.length : Nat) : Int) := u64w (by omega)
  have hp8 : u % (8 * a0.length) < 8 * a0.length := Nat.mod_lt _ (by omega)
  obtain ⟨L, h1, h2, h3⟩ := l60 (a1 := a1) (a2 := c) rfl (show 0 < a0.length by omega) (by omega) hu rfl (by omega) (min 32 (8 * a0.length - u % (8 * a0.length))) 0 (a0.length + 400) a0 (by omega) (by omega) rfl (by simp [Nat.mod_one])
  rw [show decide (c % 2 ^ 0 ≠ 0) = false from by simp [Nat.mod_one]] at h1
  simp only [f97v2, e8, e9]
  rw [gd_pos (by omega)]
  simp only [Option.bind_some]
  rw [gd_pos (by omega), show f219_l60 a1 a0 (c : Int) (a0.length + 400) false 0 a0 = _ from h1]
  simp only [Option.bind_some, f219_j126]
  rw [sum_crc2 (by omega) h2 (by omega), sum_crc (by omega) (by omega)]
  simp only [Option.bind_some]
  generalize hW : c % 2 ^ min 32 (8 * a0.length - u % (8 * a0.length)) = W at h3 ⊢
  have hWl : W < 4294967296 := by rw [← hW]; exact Nat.lt_of_le_of_lt (Nat.mod_le _ _) (by omega)
  have key : addC 0 L = addC 0 a0 ↔ W = 0 := by
    have e1 : runC (0 ^^^ 4294967295) L = runC (0 ^^^ 4294967295) a0 ^^^ it (8 * a0.length - u % (8 * a0.length)) W := by
      rw [runC_msg, runC_msg, h2, h3, ← Nat.xor_assoc, it_xor]
      congr 1
      generalize u % (8 * a0.length) = p at hp8 ⊢
      have : ∀ X, it (8 * a0.length) X = it (8 * a0.length - p) (it p X) := fun X => by
        rw [← it_add]; congr 1; omega
      rw [this, it_shl]
    simp only [addC]
    rw [e1]
    generalize runC (0 ^^^ 4294967295) a0 = z
    constructor
    · intro h
      apply it_zero (n := 8 * a0.length - u % (8 * a0.length)) hWl
      generalize it (8 * a0.length - u % (8 * a0.length)) W = y at h
      have := congrArg (fun t => z ^^^ (t ^^^ 4294967295)) h
      simp only [Nat.xor_assoc, Nat.xor_self, Nat.xor_zero] at this
      rw [← Nat.xor_assoc, Nat.xor_self, Nat.zero_xor] at this
      exact this
    · intro h
      subst h
      have : ∀ n, it n 0 = 0 := by
        intro n
        induction n with
        | zero => rfl
        | succ n ih => simp only [it]; exact ih
      rw [this, Nat.xor_zero]
  congr 1
  by_cases hW0 : W = 0
  · have := key.2 hW0
    simp [hW0, this]
  · have : addC 0 L ≠ addC 0 a0 := fun h => hW0 (key.1 h)
    have h9 : ¬ (((addC 0 L : Nat) : Int) = ((addC 0 a0 : Nat) : Int)) := fun h => this (Int.ofNat_inj.1 h)
    simp [hW0, h9]
end Go.Proofs.Abs
