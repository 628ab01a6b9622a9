/- Texts put together. -/
import Derived.Test.YtojmpoboidomeaaGRdr
import Derived.Test.YtojmpoboidomeaaAbsxc
set_option linter.unusedSimpArgs false
namespace Go.Proofs.Abs
open Go
set_option linter.unusedVariables false
set_option maxRecDepth 10000
theorem concat91_sum {L : List (List UInt8)} (hn : L.length ≤ 1048576000) : ∀ (rest pre : List (List UInt8)) (k s : Nat), L = pre ++ rest → rest.length < k → s + (rest.map List.length).sum ≤ 1048576000000 →
    f91_l16 L k (s : Int) ((pre.length : Nat) : Int) = some (.b0 ((s + (rest.map List.length).sum : Nat) : Int)) := by
  intro rest
  induction rest with
  | nil =>
    intro pre k s ha hk hs
    obtain ⟨k, rfl, _⟩ := succ_of_pos hk
    have hl : L.length = pre.length := by rw [ha]; simp
    rw [f91_l16, cond_dec, if_neg (by omega)]
    simp
  | cons x rest ih =>
    intro pre k s ha hk hs
    obtain ⟨k, rfl, hk'⟩ := succ_of_pos hk
    have hrd : rd L ((pre.length : Nat) : Int) = x := by subst ha; exact rd_mid
    have hl : L.length = pre.length + rest.length + 1 := by subst ha; simp; omega
    simp only [List.map_cons, List.sum_cons] at hs
    have hw : IntKind.i64.wrap (((pre.length : Nat) : Int) + 1) = (((pre ++ [x]).length : Nat) : Int) := by
      rw [i64w (by omega)]; simp
    have hw2 : IntKind.i64.wrap ((s : Int) + ((x.length : Nat) : Int)) = ((s + x.length : Nat) : Int) := by
      rw [i64w (by omega)]; omega
    simp only [f91_l16, cond_dec, hrd, hw, hw2]
    rw [if_pos (by omega), gd_pos (by omega), if_neg (by omega), ih (pre ++ [x]) k _ (by simp [ha]) (by simp at hk'; omega) (by omega)]
    simp only [List.map_cons, List.sum_cons, Nat.add_assoc]
theorem concat91_app {L : List (List UInt8)} (hn : L.length ≤ 1048576000) : ∀ (rest pre : List (List UInt8)) (k : Nat) (s : List UInt8), L = pre ++ rest → rest.length < k → s.length + (rest.map List.length).sum ≤ 1048576000 →
    f91_l70 L k s ((pre.length : Nat) : Int) = some (.b0 (s ++ rest.flatten)) := by
  intro rest
  induction rest with
  | nil =>
    intro pre k s ha hk hs
    obtain ⟨k, rfl, _⟩ := succ_of_pos hk
    have hl : L.length = pre.length := by rw [ha]; simp
    rw [f91_l70, cond_dec, if_neg (by omega)]
    simp
  | cons x rest ih =>
    intro pre k s ha hk hs
    obtain ⟨k, rfl, hk'⟩ := succ_of_pos hk
    have hrd : rd L ((pre.length : Nat) : Int) = x := by subst ha; exact rd_mid
    have hl : L.length = pre.length + rest.length + 1 := by subst ha; simp; omega
    simp only [List.map_cons, List.sum_cons] at hs
    have hw : IntKind.i64.wrap (((pre.length : Nat) : Int) + 1) = (((pre ++ [x]).length : Nat) : Int) := by
      rw [i64w (by omega)]; simp
    simp only [f91_l70, cond_dec, hrd, hw]
    rw [if_pos (by omega), gd_pos (by omega), gd_pos (by omega), ih (pre ++ [x]) k _ (by simp [ha]) (by simp at hk'; omega) (by simp; omega)]
    simp
theorem concat91 {L : List (List UInt8)} (hn : L.length ≤ 1048576000) (hs : (L.map List.length).sum ≤ 1048576000) {k : Nat} (hk : L.length < k) : f91 k L = some L.flatten := by
  have h1 := concat91_sum hn L [] k 0 rfl hk (by omega)
  have h2 := concat91_app hn L [] k [] rfl hk (by simpa using hs)
  simp only [f91]
  rw [show f91_l16 L k 0 0 = _ from h1]
  simp only [Option.bind_some, f91_j57, f111]
  rw [gd_pos (by omega)]
  simp only [Option.bind_some]
  rw [show f91_l70 L k [] 0 = _ from h2]
  simp
end Go.Proofs.Abs
