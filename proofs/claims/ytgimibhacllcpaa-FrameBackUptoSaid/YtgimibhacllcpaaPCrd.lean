/- The laws CrcLinear and CrcBurst over the Lean functions: the sum is linear, and no short burst is lost. -/
import Derived.Test.YtgimibhacllcpaaPCrc
set_option linter.unusedSimpArgs false
namespace Go.Proofs.Abs
open Go
set_option linter.unusedVariables false
set_option maxRecDepth 10000

def x3 : List UInt8 → List UInt8 → List UInt8 → List UInt8
  | a :: A, b :: B, c :: C => (a ^^^ b ^^^ c) :: x3 A B C
  | _, _, _ => []
theorem x3_len : ∀ (A B C : List UInt8), A.length ≤ B.length → A.length ≤ C.length → (x3 A B C).length = A.length
  | [], B, C, _, _ => by unfold x3; rfl
  | a :: A, [], C, h, _ => by simp at h
  | a :: A, b :: B, [], _, h => by simp at h
  | a :: A, b :: B, c :: C, h1, h2 => by
    simp only [x3, List.length_cons] at *
    rw [x3_len A B C (by omega) (by omega)]
theorem runC3 : ∀ (A B C : List UInt8) (x y z : Nat), A.length = B.length → A.length = C.length → runC (x ^^^ y ^^^ z) (x3 A B C) = runC x A ^^^ runC y B ^^^ runC z C
  | [], [], [], x, y, z, _, _ => by unfold x3; rfl
  | a :: A, b :: B, c :: C, x, y, z, h1, h2 => by
    simp only [List.length_cons] at h1 h2
    have e : x ^^^ y ^^^ z ^^^ (a ^^^ b ^^^ c).toNat = (x ^^^ a.toNat) ^^^ (y ^^^ b.toNat) ^^^ (z ^^^ c.toNat) := by
      rw [UInt8.toNat_xor, UInt8.toNat_xor]
      apply Nat.eq_of_testBit_eq
      intro i
      simp only [Nat.testBit_xor]
      cases x.testBit i <;> cases y.testBit i <;> cases z.testBit i <;> cases a.toNat.testBit i <;> cases b.toNat.testBit i <;> cases c.toNat.testBit i <;> rfl
    show runC (it 8 (x ^^^ y ^^^ z ^^^ (a ^^^ b ^^^ c).toNat)) (x3 A B C) = _
    rw [e, it_xor, it_xor, runC3 A B C _ _ _ (by omega) (by omega)]
    rfl
  | [], _ :: _, _, _, _, _, h, _ => by simp at h
  | [], [], _ :: _, _, _, _, _, h => by simp at h
  | _ :: _, [], _, _, _, _, h, _ => by simp at h
  | _ :: _, _ :: _, [], _, _, _, _, h => by simp at h
theorem x3_take : ∀ (A B C : List UInt8), A.length ≤ B.length → A.length ≤ C.length → x3 A B C = x3 A (B.take A.length) (C.take A.length)
  | [], B, C, _, _ => by unfold x3; rfl
  | a :: A, [], C, h, _ => by simp at h
  | a :: A, b :: B, [], _, h => by simp at h
  | a :: A, b :: B, c :: C, h1, h2 => by
    simp only [x3, List.length_cons, List.take_succ_cons] at *
    rw [← x3_take A B C (by omega) (by omega)]
end Go.Proofs.Abs
