/- Small facts about the Lean functions that gen.py writes. -/
import Derived.Test.YtgimibhacllcpaaAbs42
namespace Go.Proofs.Abs
open Go
set_option linter.unusedVariables false
theorem rd_mid {α : Type} [Inhabited α] {pre rest : List α} {x : α} : rd (pre ++ x :: rest) ((pre.length : Nat) : Int) = x := by
  simp [rd]
theorem i64w {n : Int} (h : -9223372036854775808 ≤ n ∧ n ≤ 9223372036854775807) : IntKind.i64.wrap n = n := by
  simp only [IntKind.wrap, IntKind.signed, IntKind.bits]
  simp
  omega
theorem u64w {n : Int} (h : 0 ≤ n ∧ n ≤ 18446744073709551615) : IntKind.u64.wrap n = n := by
  simp only [IntKind.wrap, IntKind.signed, IntKind.bits]
  simp
  omega
theorem u32w {n : Int} (h : 0 ≤ n ∧ n ≤ 4294967295) : IntKind.u32.wrap n = n := by
  simp only [IntKind.wrap, IntKind.signed, IntKind.bits]
  simp
  omega
theorem u8w {n : Int} (h : 0 ≤ n ∧ n ≤ 255) : IntKind.u8.wrap n = n := by
  simp only [IntKind.wrap, IntKind.signed, IntKind.bits]
  simp
  omega
theorem cond_dec {α : Type} {p : Prop} [Decidable p] {x y : α} : cond (decide p) x y = if p then x else y := by
  by_cases h : p <;> simp [h]
theorem snoc_cases {α : Type} (l : List α) : l = [] ∨ ∃ l' b, l = l' ++ [b] := by
  rcases List.eq_nil_or_concat l with h | ⟨l', b, h⟩
  · exact .inl h
  · exact .inr ⟨l', b, by simpa using h⟩
/-- one more step of fuel -/
theorem succ_of_pos {n k : Nat} (h : n < k) : ∃ j, k = j + 1 ∧ n ≤ j := ⟨k - 1, by omega, by omega⟩
theorem rd_i64 {P : Program} {t : TypeId} (hu : P.underlying t = some (.int .i64)) : Rd P t (D.int .i64) (fun n => -9223372036854775808 ≤ n ∧ n ≤ 9223372036854775807) (fun _ => 1) :=
  ⟨fun h => by
    obtain ⟨a, w, r⟩ := (rd_int hu).read h
    exact ⟨a, by simpa [IntKind.min, IntKind.max, IntKind.signed, IntKind.bits] using w, r⟩⟩
theorem rd_u64 {P : Program} {t : TypeId} (hu : P.underlying t = some (.int .u64)) : Rd P t (D.int .u64) (fun n => 0 ≤ n ∧ n ≤ 18446744073709551615) (fun _ => 1) :=
  ⟨fun h => by
    obtain ⟨a, w, r⟩ := (rd_int hu).read h
    exact ⟨a, by simpa [IntKind.min, IntKind.max, IntKind.signed, IntKind.bits] using w, r⟩⟩
theorem rd_u32 {P : Program} {t : TypeId} (hu : P.underlying t = some (.int .u32)) : Rd P t (D.int .u32) (fun n => 0 ≤ n ∧ n ≤ 4294967295) (fun _ => 1) :=
  ⟨fun h => by
    obtain ⟨a, w, r⟩ := (rd_int hu).read h
    exact ⟨a, by simpa [IntKind.min, IntKind.max, IntKind.signed, IntKind.bits] using w, r⟩⟩
theorem rd_i32 {P : Program} {t : TypeId} (hu : P.underlying t = some (.int .i32)) : Rd P t (D.int .i32) (fun n => -2147483648 ≤ n ∧ n ≤ 2147483647) (fun _ => 1) :=
  ⟨fun h => by
    obtain ⟨a, w, r⟩ := (rd_int hu).read h
    exact ⟨a, by simpa [IntKind.min, IntKind.max, IntKind.signed, IntKind.bits] using w, r⟩⟩
theorem rd_u16 {P : Program} {t : TypeId} (hu : P.underlying t = some (.int .u16)) : Rd P t (D.int .u16) (fun n => 0 ≤ n ∧ n ≤ 65535) (fun _ => 1) :=
  ⟨fun h => by
    obtain ⟨a, w, r⟩ := (rd_int hu).read h
    exact ⟨a, by simpa [IntKind.min, IntKind.max, IntKind.signed, IntKind.bits] using w, r⟩⟩
theorem len_sum {α : Type} {sz : α → Nat} (h : ∀ a, 1 ≤ sz a) : ∀ xs : List α, xs.length ≤ (xs.map sz).sum
  | [] => Nat.le_refl _
  | x :: xs => by
    have := len_sum h xs
    have := h x
    simp only [List.map_cons, List.sum_cons, List.length_cons]
    omega
end Go.Proofs.Abs
