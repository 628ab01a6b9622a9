/- Reading: numbers with signs, bytes and texts, by the program's reader. -/
import Derived.Test.YtlpffigmcnahcaaDoorPC2
set_option linter.unusedSimpArgs false
namespace Go.Proofs.Abs
open Go
set_option linter.unusedVariables false
set_option maxRecDepth 10000
theorem ixor0 {n : Nat} (h : n < 9223372036854775808) : bitsA .xor .i64 (n : Int) 0 = (n : Int) := by
  show IntKind.i64.wrap (((BitVec.ofInt 64 (n : Int) ^^^ BitVec.ofInt 64 (0 : Int)).toNat : Nat) : Int) = _
  rw [BitVec.ofInt_natCast, show (0 : Int) = ((0 : Nat) : Int) from rfl, BitVec.ofInt_natCast, BitVec.toNat_xor, BitVec.toNat_ofNat, BitVec.toNat_ofNat]
  rw [Nat.mod_eq_of_lt (show n < 2 ^ 64 by omega)]
  simp only [Nat.zero_mod, Nat.xor_zero]
  exact i64w (by omega)
theorem i64w_big {n : Nat} (h : n < 9223372036854775808) : IntKind.i64.wrap ((18446744073709551615 - n : Nat) : Int) = -(n : Int) - 1 := by
  simp only [IntKind.wrap, IntKind.signed, IntKind.bits]
  simp
  omega
theorem ixor1 {n : Nat} (h : n < 9223372036854775808) : bitsA .xor .i64 (n : Int) (-1) = -(n : Int) - 1 := by
  have h2 : (BitVec.ofNat 64 n ^^^ BitVec.ofInt 64 (-1)).toNat = 18446744073709551615 - n := by
    rw [show BitVec.ofInt 64 (-1) = BitVec.allOnes 64 by decide, BitVec.xor_allOnes, BitVec.toNat_not, BitVec.toNat_ofNat, Nat.mod_eq_of_lt (show n < 2 ^ 64 by omega)]
  show IntKind.i64.wrap (((BitVec.ofInt 64 (n : Int) ^^^ BitVec.ofInt 64 (-1 : Int)).toNat : Nat) : Int) = _
  rw [BitVec.ofInt_natCast, h2, i64w_big h]
/-- what the program makes of a number that was read -/
theorem unfold_eq {v : Nat} (h : v < 18446744073709551616) : bitsA .xor .i64 (IntKind.i64.wrap (Int.fdiv (v : Int) (2 ^ (min ((1 : Int)).toNat IntKind.u64.bits)))) (IntKind.i64.wrap (0 - (IntKind.i64.wrap (bitsA .and .u64 (v : Int) (1 : Int))))) = unz v := by
  rw [show (2 ^ (min ((1 : Int)).toNat IntKind.u64.bits) : Int) = 2 ^ 1 from rfl, fdivN, show (1 : Int) = ((1 : Nat) : Int) from rfl, and64 h (by decide), and_one, show v / 2 ^ 1 = v / 2 from rfl]
  rw [i64w (n := ((v / 2 : Nat) : Int)) (by omega), i64w (n := ((v % 2 : Nat) : Int)) (by omega), i64w (by omega), unz]
  by_cases c : v % 2 = 0
  · rw [if_pos c, c]; exact ixor0 (by omega)
  · rw [if_neg c, show v % 2 = 1 by omega]; exact ixor1 (by omega)
theorem rNum_lt (b : List UInt8) (p : Nat) (e : Int) : (rNum b p e).1 < 18446744073709551616 := by
  unfold rNum
  split
  · split
    · exact (by decide : (0 : Nat) < 18446744073709551616)
    · rename_i h; exact (rdN_len h).2.2.1
  · exact (by decide : (0 : Nat) < 18446744073709551616)
theorem rNum_at {b : List UInt8} {p : Nat} {e : Int} (hp : p ≤ b.length) : (rNum b p e).2.1 ≤ b.length := by
  unfold rNum
  split
  · split
    · exact hp
    · rename_i h
      have := (rdN_len h).2.1
      simp only [List.length_drop] at this
      show p + _ ≤ _
      omega
  · exact hp
theorem rNum_err {b : List UInt8} {p : Nat} : (rNum b p 0).2.2 = 0 ∨ (rNum b p 0).2.2 = 3 ∨ (rNum b p 0).2.2 = 4 := by
  unfold rNum
  rw [if_pos rfl]
  split
  · rename_i h; exact .inr (rdN_err _ _ _ _ h)
  · exact .inl rfl
theorem zig_read {b : List UInt8} {p : Nat} {e : Int} (hb : b.length ≤ 100000000) (hp : p ≤ b.length) {k : Nat} (hk : 10 ≤ k) : f40 k b (p : Int) e = some ((rZig b p e).1, (((rZig b p e).2.1 : Nat) : Int), (rZig b p e).2.2) := by
  simp only [f40, num_read hb hp hk, Option.bind_some, f88]
  rw [unfold_eq (rNum_lt b p e)]
  rfl
theorem sl_nat {b : List UInt8} {p n : Nat} : sl b (p : Int) ((p + n : Nat) : Int) = (b.drop p).take n := by
  simp only [sl, Int.toNat_natCast]
  rw [List.drop_take]
  congr 1
  omega
theorem rZig_at {b : List UInt8} {p : Nat} {e : Int} (hp : p ≤ b.length) : (rZig b p e).2.1 ≤ b.length := rNum_at hp
theorem rText_at {b : List UInt8} {p : Nat} {e m : Int} (hp : p ≤ b.length) : (rText b p e m).2.1 ≤ b.length := by
  unfold rText
  split
  · split
    · exact hp
    · rename_i h
      have := (rdN_len h).2.1
      simp only [List.length_drop] at this
      split
      · exact hp
      · split
        · exact hp
        · split
          · exact hp
          · show _ + _ + _ ≤ _
            omega
  · exact hp
theorem rRaw_at {b : List UInt8} {p : Nat} {e m : Int} (hp : p ≤ b.length) : (rRaw b p e m).2.1 ≤ b.length := by
  unfold rRaw
  split
  · split
    · exact hp
    · split
      · exact hp
      · show _ + _ ≤ _
        omega
  · exact hp
/-- what the end says -/
def rEnd (b : List UInt8) (p : Nat) (e : Int) : Int := if e ≠ 0 then e else if p < b.length then 4 else 0
theorem rNum_put {b pre rest : List UInt8} {u : Nat} (hb : b = pre ++ (nb u ++ rest)) (hu : u < 18446744073709551616) : rNum b pre.length 0 = (u, (pre ++ nb u).length, 0) := by
  subst hb
  simp only [rNum, if_true, List.drop_left, rdN_put hu, List.length_append]
theorem rZig_put {b pre rest : List UInt8} {a : Int} (hb : b = pre ++ (nb (zg a) ++ rest)) (ha : -9223372036854775808 ≤ a ∧ a ≤ 9223372036854775807) : rZig b pre.length 0 = (a, (pre ++ nb (zg a)).length, 0) := by
  simp only [rZig, rNum_put hb (zg_lt ha), unz_zg]
theorem rText_put {b pre rest t : List UInt8} {m : Int} (hb : b = pre ++ (tb t ++ rest)) (ht : ((t.length : Nat) : Int) ≤ m) (hm : m ≤ 9223372036854775807) : rText b pre.length 0 m = (t, (pre ++ tb t).length, 0) := by
  have hz := zg_lt (a := (t.length : Int)) (by omega)
  subst hb
  rw [tb, List.append_assoc]
  simp only [rText, if_true, List.drop_left, rdN_put hz, unz_zg]
  rw [if_neg (by omega), if_neg (by omega), if_neg (by simp only [List.length_append]; omega)]
  have e : (pre ++ (nb (zg t.length) ++ (t ++ rest))).drop (pre.length + (nb (zg t.length)).length) = t ++ rest := by
    rw [← List.append_assoc, ← List.length_append, List.drop_left]
  rw [e, Int.toNat_natCast, List.take_left]
  simp only [List.length_append, Nat.add_assoc]
end Go.Proofs.Abs
