/- Places in a text; what the parser of json does at them. -/
import Derived.Test.YtnhjiioiejpbgaaDoorGJrc
import Derived.Test.YtnhjiioiejpbgaaDoorAbsxc
set_option linter.unusedSimpArgs false
namespace Go.Proofs.Abs
open Go
set_option linter.unusedVariables false
set_option maxRecDepth 100000
/-- the place n of a text s: R stands there -/
def At (s : List UInt8) (n : Int) (R : List UInt8) : Prop := ∃ P, s = P ++ R ∧ n = ((P.length : Nat) : Int)
theorem At.len {s R : List UInt8} {n : Int} (h : At s n R) : 0 ≤ n ∧ ((s.length : Nat) : Int) = n + ((R.length : Nat) : Int) := by
  obtain ⟨P, rfl, rfl⟩ := h
  simp
theorem At.get {s R : List UInt8} {n : Int} {c : UInt8} (h : At s n (c :: R)) : s.getD n.toNat 0 = c := by
  obtain ⟨P, rfl, rfl⟩ := h
  simp
theorem At.next {s R : List UInt8} {n : Int} {c : UInt8} (h : At s n (c :: R)) : At s (n + 1) R := by
  obtain ⟨P, rfl, rfl⟩ := h
  exact ⟨P ++ [c], by simp, by simp⟩
theorem At.sl {s R : List UInt8} {n : Int} (h : At s n R) : sl s n ((s.length : Nat) : Int) = R := by
  obtain ⟨P, rfl, rfl⟩ := h
  unfold Abs.sl
  rw [Int.toNat_natCast, Int.toNat_natCast, List.take_length]
  simp
theorem At.sl1 {s R : List UInt8} {n : Int} {c : UInt8} (h : At s n (c :: R)) : Abs.sl s n (n + 1) = [c] := by
  obtain ⟨P, rfl, rfl⟩ := h
  unfold Abs.sl
  have : (((P.length : Nat) : Int) + 1).toNat = P.length + 1 := by omega
  rw [Int.toNat_natCast, this, List.take_append, List.take_of_length_le (by omega), show P.length + 1 - P.length = 1 by omega, List.take_succ_cons, List.take_zero, List.drop_left]
theorem At.start (s : List UInt8) : At s 0 s := ⟨[], rfl, rfl⟩
theorem At.skip {s A R : List UInt8} {n : Int} (h : At s n (A ++ R)) : At s (n + ((A.length : Nat) : Int)) R := by
  obtain ⟨P, rfl, rfl⟩ := h
  exact ⟨P ++ A, by simp, by simp⟩
variable {s R : List UInt8} {n : Int} {c : UInt8}
theorem white_at (k : Nat) (h : At s n (c :: R)) (h1 : ¬ ((c.toNat : Nat) : Int) = 32) (h2 : ¬ ((c.toNat : Nat) : Int) = 9) (h3 : ¬ ((c.toNat : Nat) : Int) = 10) (h4 : ¬ ((c.toNat : Nat) : Int) = 13) : f398 (k + 1) s n = some n := by
  have hl := h.len
  rw [List.length_cons] at hl
  have g := h.get
  unfold f398
  rw [f398_l4, cdp (by omega), gdp (by omega), g, cdn h1, cdn h2, cdn h3, cdn h4]
  rfl
theorem white_end (k : Nat) (h : At s n []) : f398 (k + 1) s n = some n := by
  have hl := h.len
  rw [List.length_nil] at hl
  unfold f398
  rw [f398_l4, cdn (by omega)]
  rfl
theorem is_yes (k : Nat) (h : At s n (c :: R)) (hb : s.length ≤ 20000) : f401 k s n c = some (true, n + 1) := by
  have hl := h.len
  rw [List.length_cons] at hl
  unfold f401
  rw [cdp (by omega), gdp (by omega), h.get, decide_eq_true rfl]
  unfold f401_j32
  rw [i64w (by omega)]
  rfl
theorem is_no (k : Nat) {d : UInt8} (h : At s n (c :: R)) (hd : ¬ ((c.toNat : Nat) : Int) = ((d.toNat : Nat) : Int)) : f401 k s n d = some (false, n) := by
  have hl := h.len
  rw [List.length_cons] at hl
  unfold f401
  rw [cdp (by omega), gdp (by omega), h.get, decide_eq_false hd]
  rfl
theorem i32w {n : Int} (h : -2147483648 ≤ n ∧ n ≤ 2147483647) : IntKind.i32.wrap n = n := by
  simp only [IntKind.wrap, IntKind.signed, IntKind.bits]
  simp
  omega
theorem num_at (k : Nat) (h : At s n (49 :: R)) (hb : s.length ≤ 20000) (hR : ∀ d R', R = d :: R' → 57 < ((d.toNat : Nat) : Int)) : f405 (k + 3) s n = some (0, 4, [49], n + 1) := by
  have hl := h.len
  rw [List.length_cons] at hl
  have hn : At s (n + 1) R := h.next
  have hst : f405_l28 s (k + 3) n = some (.b0 (n + 1)) := by
    rw [f405_l28, cdp (by omega), gdp (by omega), h.get, cdp (by decide), gdp (by omega), cdp (by decide), i64w (by omega), f405_l28]
    cases R with
    | nil => rw [cdn (by simp only [List.length_nil] at hl; omega)]
    | cons d R' =>
      have := hR d R' rfl
      have hl2 := hn.len
      rw [List.length_cons] at hl2
      rw [cdp (by omega), gdp (by omega), hn.get, cdp (by omega), gdp (by omega), cdn (by omega)]
  have hnum : f406 (k + 3) [49] = some true := by kernel_rfl
  unfold f405
  rw [is_no _ h (by decide), Option.bind_some]
  show (f405_l28 s (k + 3) n).bind _ = _
  rw [hst, Option.bind_some]
  show gd _ _ = _
  rw [gdp (by omega), h.sl1, hnum, Option.bind_some]
  show f405_j116 _ _ _ _ _ = _
  rw [i64w (by omega), decide_eq_false (by omega)]
  unfold f405_j116
  rw [cond_false, h.sl1]
  rfl
theorem contains_nil (k : Nat) (x : List UInt8) : f239 (k + 1) [] x = some false := rfl
end Go.Proofs.Abs
