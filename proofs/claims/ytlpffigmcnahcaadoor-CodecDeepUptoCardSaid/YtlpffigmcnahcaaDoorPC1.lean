/- Numbers and texts: what the functions of code, and those of the reference, come to. -/
import Derived.Test.YtlpffigmcnahcaaDoorGCdc
import Derived.Test.YtlpffigmcnahcaaDoorAbsxc
set_option linter.unusedSimpArgs false
namespace Go.Proofs.Abs
open Go
set_option linter.unusedVariables false
set_option maxRecDepth 10000
theorem u8N (n : Nat) : u8 ((n : Nat) : Int) = UInt8.ofNat n := rfl
theorem u8mod (n : Nat) : UInt8.ofNat (n % 256) = UInt8.ofNat n := by
  apply UInt8.toNat_inj.1
  rw [UInt8.toNat_ofNat', UInt8.toNat_ofNat']
  omega
theorem u8i (n : Nat) (h : n < 256) : (((u8 (n : Int)).toNat : Nat) : Int) = (n : Int) := by
  rw [u8N, UInt8.toNat_ofNat']
  omega
theorem c23 : ∀ (n : Nat) (b : List UInt8) (k : Nat), n < 18446744073709551616 → b.length + (nb n).length ≤ 1000 → (nb n).length ≤ 50 → (nb n).length ≤ k →
    ((f23_l10 k (n : Int) b).bind fun o10 => match o10 with | .b0 (x10_1, x10_2) => gd ((x10_2.length + ([(u8 (IntKind.u8.wrap x10_1))] : List UInt8).length) * 2 * 1 ≤ 281474976710656) (some (x10_2 ++ ([(u8 (IntKind.u8.wrap x10_1))] : List UInt8))) | _ => none) = some (b ++ nb n) := by
  intro n
  induction n using Nat.strongRecOn with
  | ind n ih =>
    intro b k hn hb hl hk
    obtain ⟨k, rfl, hk'⟩ := succ_of_pos (Nat.lt_of_lt_of_le (nb_pos n) hk)
    rw [f23_l10, cond_dec]
    by_cases c : n < 128
    · rw [if_neg (by omega)]
      simp only [Option.bind_some]
      rw [gd_pos (by simp only [List.length_cons, List.length_nil]; omega), nb_lt c, u8wN, u8N, u8mod]
    · rw [if_pos (by omega), gd_pos (by simp only [List.length_cons, List.length_nil]; omega)]
      rw [nb_ge c] at hl hk hb ⊢
      simp only [List.length_cons] at hl hk hb
      have := ih (n / 128) (by omega) (b ++ [UInt8.ofNat (n % 128 + 128)]) k (by omega) (by simp only [List.length_append, List.length_cons, List.length_nil]; omega) (by omega) (by omega)
      rw [u8wN, u8i _ (by omega), or128, u8N, show (2 ^ (min ((7 : Int)).toNat IntKind.u64.bits) : Int) = 2 ^ 7 from rfl, fdivN]
      rw [show n / 2 ^ 7 = n / 128 from rfl, this]
      simp
theorem num_code {n : Nat} (h : n < 18446744073709551616) {k : Nat} (hk : 10 ≤ k) : f23 k (n : Int) = some (nb n) := by
  have := nb_len10 h
  have := c23 n [] k h (by simp only [List.length_nil]; omega) (by omega) (by omega)
  exact this
theorem zig_code {a : Int} (h : -9223372036854775808 ≤ a ∧ a ≤ 9223372036854775807) {k : Nat} (hk : 10 ≤ k) : f25 k a = some (nb (zg a)) := by
  have e := fold_eq h
  rw [f25, f82, Option.bind_some, show (2 ^ (min ((1 : Int)).toNat IntKind.u64.bits) : Int) = 2 from rfl, show (2 ^ (min ((63 : Int)).toNat IntKind.i64.bits) : Int) = 9223372036854775808 from rfl, e, num_code (zg_lt h) hk]
  rfl
/-- a text's bytes -/
def tb (t : List UInt8) : List UInt8 := nb (zg t.length) ++ t
theorem text_code {t : List UInt8} (h : t.length ≤ 10000000) {k : Nat} (hk : 10 ≤ k) : f27 k t = some (tb t) := by
  have hz := nb_len10 (zg_lt (a := (t.length : Int)) (by omega))
  rw [f27, zig_code (by omega) hk, Option.bind_some, gd_pos (by omega)]; rfl
theorem num_code' {a : Int} (h : 0 ≤ a ∧ a ≤ 18446744073709551615) {k : Nat} (hk : 10 ≤ k) : f23 k a = some (nb a.toNat) := by
  have := num_code (n := a.toNat) (by omega) hk
  rwa [show ((a.toNat : Nat) : Int) = a by omega] at this
theorem nb_len' {a : Int} (h : 0 ≤ a ∧ a ≤ 18446744073709551615) : (nb a.toNat).length ≤ 10 := nb_len10 (by omega)
theorem tb_len {t : List UInt8} (h : t.length ≤ 10000000) : (tb t).length ≤ t.length + 10 := by
  have := nb_len10 (zg_lt (a := (t.length : Int)) (by omega))
  simp only [tb, List.length_append]
  omega
end Go.Proofs.Abs
