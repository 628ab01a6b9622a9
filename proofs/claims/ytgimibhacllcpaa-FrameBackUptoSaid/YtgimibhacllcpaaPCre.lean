/- The law CrcBurst over the Lean functions: no burst of up to 32 bits is lost. -/
import Derived.Test.YtgimibhacllcpaaPCrd
set_option linter.unusedSimpArgs false
namespace Go.Proofs.Abs
open Go
set_option linter.unusedVariables false
set_option maxRecDepth 10000

theorem u64_range' (n : Int) : 0 ≤ IntKind.u64.wrap n := by
  simp only [IntKind.wrap, IntKind.signed, IntKind.bits]
  simp
  omega
/-- a message as one number -/
def msg : List UInt8 → Nat
  | [] => 0
  | b :: r => b.toNat ^^^ (msg r * 2 ^ 8)
theorem runC_msg : ∀ (bs : List UInt8) (c : Nat), runC c bs = it (8 * bs.length) (c ^^^ msg bs)
  | [], c => by show c = it 0 (c ^^^ 0); rw [Nat.xor_zero]; rfl
  | b :: r, c => by
    rw [show 8 * (b :: r).length = 8 + 8 * r.length by simp; omega, it_add]
    show runC (it 8 (c ^^^ b.toNat)) r = _
    rw [runC_msg r, show c ^^^ msg (b :: r) = (c ^^^ b.toNat) ^^^ (msg r * 2 ^ 8) from (Nat.xor_assoc ..).symm, it_xor 8 (c ^^^ b.toNat) (msg r * 2 ^ 8), it_shl 8]
theorem mul_xor (a b n : Nat) : (a ^^^ b) * 2 ^ n = (a * 2 ^ n) ^^^ (b * 2 ^ n) := by
  apply Nat.eq_of_testBit_eq
  intro i
  simp only [Nat.testBit_xor, Nat.testBit_mul_two_pow]
  by_cases h : n ≤ i <;> simp [h]
theorem msg_set : ∀ (bs : List UInt8) (j : Nat) (v : UInt8), j < bs.length → msg (bs.set j (bs.getD j default ^^^ v)) = msg bs ^^^ (v.toNat * 2 ^ (8 * j))
  | [], j, v, h => by simp at h
  | b :: r, 0, v, h => by
    show (b ^^^ v).toNat ^^^ (msg r * 2 ^ 8) = b.toNat ^^^ (msg r * 2 ^ 8) ^^^ (v.toNat * 2 ^ 0)
    rw [UInt8.toNat_xor, Nat.pow_zero, Nat.mul_one, Nat.xor_assoc, Nat.xor_comm v.toNat, ← Nat.xor_assoc]
  | b :: r, j + 1, v, h => by
    have := msg_set r j v (by simp at h; omega)
    show b.toNat ^^^ (msg (r.set j (r.getD j default ^^^ v)) * 2 ^ 8) = b.toNat ^^^ (msg r * 2 ^ 8) ^^^ _
    rw [this, mul_xor, Nat.xor_assoc, Nat.mul_assoc, ← Nat.pow_add, show 8 * j + 8 = 8 * (j + 1) by omega]
/-- one more of the low bits -/
theorem mod_succ (x i : Nat) : x % 2 ^ (i + 1) = x % 2 ^ i ^^^ ((x / 2 ^ i % 2) * 2 ^ i) := by
  apply Nat.eq_of_testBit_eq
  intro q
  rw [Nat.testBit_xor, Nat.testBit_mod_two_pow, Nat.testBit_mod_two_pow, Nat.testBit_mul_two_pow]
  rw [show x / 2 ^ i % 2 = (x / 2 ^ i) % 2 ^ 1 from rfl, Nat.testBit_mod_two_pow, Nat.testBit_div_two_pow]
  by_cases h1 : q < i
  · simp [h1, show q < i + 1 by omega, show ¬ i ≤ q by omega]
  · by_cases h2 : q = i
    · subst h2; simp
    · simp [h1, show ¬ q < i + 1 by omega, show ¬ q - i < 1 by omega]
theorem bit_zero {x i : Nat} (h : x / 2 ^ i % 2 = 0) : x % 2 ^ (i + 1) = x % 2 ^ i := by
  rw [mod_succ, h, Nat.zero_mul, Nat.xor_zero]
theorem bit_one {x i : Nat} (h : x / 2 ^ i % 2 = 1) : x % 2 ^ (i + 1) = x % 2 ^ i ^^^ 2 ^ i ∧ x % 2 ^ (i + 1) ≠ 0 := by
  have e : x % 2 ^ (i + 1) = x % 2 ^ i ^^^ 2 ^ i := by rw [mod_succ, h, Nat.one_mul]
  refine ⟨e, fun h0 => ?_⟩
  have := congrArg (fun y => y / 2 ^ i % 2) h0
  simp only [Nat.zero_div, Nat.zero_mod] at this
  rw [Nat.pow_succ, Nat.mod_mul_right_div_self] at this
  omega

end Go.Proofs.Abs
