/- Places in a text; what the parser of json does at them. -/
import Derived.Test.YtnhjiioiejpbgaaDoorGJbc
import Derived.Test.YtnhjiioiejpbgaaDoorAbsxc
set_option linter.unusedSimpArgs false
namespace Go.Proofs.Abs
open Go
set_option linter.unusedVariables false
set_option maxRecDepth 100000
/-- the place n of a text s: R stands there -/
def At (s : List UInt8) (n : Int) (R : List UInt8) : Prop := ∃ P, s = P ++ R ∧ n = ((P.length : Nat) : Int)
theorem At.len {s R : List UInt8} {n : Int} (h : At s n R) : 0 ≤ n ∧ ((s.length : Nat) : Int) = n + ((R.length : Nat) : Int) := by
  obtain ⟨P, rfl, rfl⟩ := h
  simp
theorem At.get {s R : List UInt8} {n : Int} {c : UInt8} (h : At s n (c :: R)) : s.getD n.toNat 0 = c := by
  obtain ⟨P, rfl, rfl⟩ := h
  simp
theorem At.next {s R : List UInt8} {n : Int} {c : UInt8} (h : At s n (c :: R)) : At s (n + 1) R := by
  obtain ⟨P, rfl, rfl⟩ := h
  exact ⟨P ++ [c], by simp, by simp⟩
theorem At.sl {s R : List UInt8} {n : Int} (h : At s n R) : sl s n ((s.length : Nat) : Int) = R := by
  obtain ⟨P, rfl, rfl⟩ := h
  unfold Abs.sl
  rw [Int.toNat_natCast, Int.toNat_natCast, List.take_length]
  simp
theorem At.sl1 {s R : List UInt8} {n : Int} {c : UInt8} (h : At s n (c :: R)) : Abs.sl s n (n + 1) = [c] := by
  obtain ⟨P, rfl, rfl⟩ := h
  unfold Abs.sl
  have : (((P.length : Nat) : Int) + 1).toNat = P.length + 1 := by omega
  rw [Int.toNat_natCast, this, List.take_append, List.take_of_length_le (by omega), show P.length + 1 - P.length = 1 by omega, List.take_succ_cons, List.take_zero, List.drop_left]
theorem At.start (s : List UInt8) : At s 0 s := ⟨[], rfl, rfl⟩
theorem At.skip {s A R : List UInt8} {n : Int} (h : At s n (A ++ R)) : At s (n + ((A.length : Nat) : Int)) R := by
  obtain ⟨P, rfl, rfl⟩ := h
  exact ⟨P ++ A, by simp, by simp⟩
variable {s R : List UInt8} {n : Int} {c : UInt8}
theorem white_at (k : Nat) (h : At s n (c :: R)) (h1 : ¬ ((c.toNat : Nat) : Int) = 32) (h2 : ¬ ((c.toNat : Nat) : Int) = 9) (h3 : ¬ ((c.toNat : Nat) : Int) = 10) (h4 : ¬ ((c.toNat : Nat) : Int) = 13) : f398 (k + 1) s n = some n := by
  have hl := h.len
  rw [List.length_cons] at hl
  have g := h.get
  unfold f398
  rw [f398_l4, cdp (by omega), gdp (by omega), g, cdn h1, cdn h2, cdn h3, cdn h4]
  rfl
theorem white_end (k : Nat) (h : At s n []) : f398 (k + 1) s n = some n := by
  have hl := h.len
  rw [List.length_nil] at hl
  unfold f398
  rw [f398_l4, cdn (by omega)]
  rfl
theorem is_yes (k : Nat) (h : At s n (c :: R)) (hb : s.length ≤ 20000) : f401 k s n c = some (true, n + 1) := by
  have hl := h.len
  rw [List.length_cons] at hl
  unfold f401
  rw [cdp (by omega), gdp (by omega), h.get, decide_eq_true rfl]
  unfold f401_j32
  rw [i64w (by omega)]
  rfl
theorem is_no (k : Nat) {d : UInt8} (h : At s n (c :: R)) (hd : ¬ ((c.toNat : Nat) : Int) = ((d.toNat : Nat) : Int)) : f401 k s n d = some (false, n) := by
  have hl := h.len
  rw [List.length_cons] at hl
  unfold f401
  rw [cdp (by omega), gdp (by omega), h.get, decide_eq_false hd]
  rfl
theorem i32w {n : Int} (h : -2147483648 ≤ n ∧ n ≤ 2147483647) : IntKind.i32.wrap n = n := by
  simp only [IntKind.wrap, IntKind.signed, IntKind.bits]
  simp
  omega
end Go.Proofs.Abs
