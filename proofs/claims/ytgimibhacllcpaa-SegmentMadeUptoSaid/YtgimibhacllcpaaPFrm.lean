/- The laws of chapter 18 that make frames, over the Lean functions. -/
import Derived.Test.YtgimibhacllcpaaGSgm
import Derived.Test.YtgimibhacllcpaaPCrc
set_option linter.unusedSimpArgs false
namespace Go.Proofs.Abs
open Go
set_option linter.unusedVariables false
set_option maxRecDepth 10000

theorem concat91_sum {L : List (List UInt8)} (hn : L.length ≤ 1048576000) : ∀ (rest pre : List (List UInt8)) (k s : Nat), L = pre ++ rest → rest.length < k → s + (rest.map List.length).sum ≤ 1048576000000 →
    f91_l16 L k (s : Int) ((pre.length : Nat) : Int) = some (.b0 ((s + (rest.map List.length).sum : Nat) : Int)) := by
  intro rest
  induction rest with
  | nil =>
    intro pre k s ha hk hs
    obtain ⟨k, rfl, _⟩ := succ_of_pos hk
    have hl : L.length = pre.length := by rw [ha]; simp
    rw [f91_l16, cond_dec, if_neg (by omega)]
    simp
  | cons x rest ih =>
    intro pre k s ha hk hs
    obtain ⟨k, rfl, hk'⟩ := succ_of_pos hk
    have hrd : rd L ((pre.length : Nat) : Int) = x := by subst ha; exact rd_mid
    have hl : L.length = pre.length + rest.length + 1 := by subst ha; simp; omega
    simp only [List.map_cons, List.sum_cons] at hs
    have hw : IntKind.i64.wrap (((pre.length : Nat) : Int) + 1) = (((pre ++ [x]).length : Nat) : Int) := by
      rw [i64w (by omega)]; simp
    have hw2 : IntKind.i64.wrap ((s : Int) + ((x.length : Nat) : Int)) = ((s + x.length : Nat) : Int) := by
      rw [i64w (by omega)]; omega
    simp only [f91_l16, cond_dec, hrd, hw, hw2]
    rw [if_pos (by omega), gd_pos (by omega), if_neg (by omega), ih (pre ++ [x]) k _ (by simp [ha]) (by simp at hk'; omega) (by omega)]
    simp only [List.map_cons, List.sum_cons, Nat.add_assoc]
theorem concat91_app {L : List (List UInt8)} (hn : L.length ≤ 1048576000) : ∀ (rest pre : List (List UInt8)) (k : Nat) (s : List UInt8), L = pre ++ rest → rest.length < k → s.length + (rest.map List.length).sum ≤ 1048576000 →
    f91_l70 L k s ((pre.length : Nat) : Int) = some (.b0 (s ++ rest.flatten)) := by
  intro rest
  induction rest with
  | nil =>
    intro pre k s ha hk hs
    obtain ⟨k, rfl, _⟩ := succ_of_pos hk
    have hl : L.length = pre.length := by rw [ha]; simp
    rw [f91_l70, cond_dec, if_neg (by omega)]
    simp
  | cons x rest ih =>
    intro pre k s ha hk hs
    obtain ⟨k, rfl, hk'⟩ := succ_of_pos hk
    have hrd : rd L ((pre.length : Nat) : Int) = x := by subst ha; exact rd_mid
    have hl : L.length = pre.length + rest.length + 1 := by subst ha; simp; omega
    simp only [List.map_cons, List.sum_cons] at hs
    have hw : IntKind.i64.wrap (((pre.length : Nat) : Int) + 1) = (((pre ++ [x]).length : Nat) : Int) := by
      rw [i64w (by omega)]; simp
    simp only [f91_l70, cond_dec, hrd, hw]
    rw [if_pos (by omega), gd_pos (by omega), gd_pos (by omega), ih (pre ++ [x]) k _ (by simp [ha]) (by simp at hk'; omega) (by simp; omega)]
    simp
theorem concat91 {L : List (List UInt8)} (hn : L.length ≤ 1048576000) (hs : (L.map List.length).sum ≤ 1048576000) {k : Nat} (hk : L.length < k) : f91 k L = some L.flatten := by
  have h1 := concat91_sum hn L [] k 0 rfl hk (by omega)
  have h2 := concat91_app hn L [] k [] rfl hk (by simpa using hs)
  simp only [f91]
  rw [show f91_l16 L k 0 0 = _ from h1]
  simp only [Option.bind_some, f91_j57, f111]
  rw [gd_pos (by omega)]
  simp only [Option.bind_some]
  rw [show f91_l70 L k [] 0 = _ from h2]
  simp

/-- one byte of a number -/
def numB (v : Int) (s : Nat) : UInt8 := u8 (IntKind.u8.wrap (Int.fdiv v (2 ^ (min s IntKind.u64.bits))))
def num8 (v : Int) : List UInt8 := [numB v 56, numB v 48, numB v 40, numB v 32, numB v 24, numB v 16, numB v 8, numB v 0]
def num4 (v : Int) : List UInt8 := [numB v 24, numB v 16, numB v 8, numB v 0]
theorem number8 (v : Int) (k : Nat) : f224 (k + 12) v 8 = some (num8 v) := by kernel_rfl
theorem number4 (v : Int) (k : Nat) : f224 (k + 12) v 4 = some (num4 v) := by kernel_rfl
theorem big8 (v : Int) (k : Nat) : f271 (k + 12) v 8 = some (num8 v) := by kernel_rfl
theorem big4 (v : Int) (k : Nat) : f271 (k + 12) v 4 = some (num4 v) := by kernel_rfl
theorem num8_len (v : Int) : (num8 v).length = 8 := rfl
theorem num4_len (v : Int) : (num4 v).length = 4 := rfl
/-- a frame -/
def mkF (v : Int) (b : List UInt8) : List UInt8 × Int :=
  if 32768 < b.length then ([], 5) else (num4 ((b.length : Nat) : Int) ++ (num4 ((addC 0 (num8 v ++ b) : Nat) : Int) ++ (num8 v ++ b)), 0)
theorem make_frame {v : Int} {b : List UInt8} (hn : b.length ≤ 1048576) {k : Nat} (hk : b.length + 400 < k) : f223 k v b = some (mkF v b) := by
  obtain ⟨j, rfl⟩ : ∃ j, k = j + 12 := ⟨k - 12, by omega⟩
  simp only [f223, cond_dec, mkF]
  by_cases c : 32768 < b.length
  · rw [if_pos c, if_pos (by omega)]
  · have hl : (num8 v ++ b).length = b.length + 8 := by simp [num8_len]; omega
    have hlt : addC 0 (num8 v ++ b) < 4294967296 := addC_lt (by decide)
    rw [if_neg c, if_neg (by omega)]
    simp only [number8, number4, Option.bind_some]
    rw [concat91 (by simp) (by simp [num8_len]; omega) (by simp)]
    simp only [Option.bind_some, List.flatten_cons, List.flatten_nil, List.append_nil]
    rw [sum_crc (by omega) (by omega), u64w (by omega)]
    simp only [Option.bind_some]
    rw [u64w (by omega)]
    rw [concat91 (by simp) (by simp [num8_len, num4_len]; omega) (by simp)]
    simp
theorem make_ref {v : Int} {b : List UInt8} (hn : b.length ≤ 1048576) {k : Nat} (hk : b.length + 400 < k) : f270 k v b = some (mkF v b) := by
  obtain ⟨j, rfl⟩ : ∃ j, k = j + 12 := ⟨k - 12, by omega⟩
  simp only [f270, cond_dec, mkF]
  by_cases c : 32768 < b.length
  · rw [if_pos c, if_pos (by omega)]
  · have hl : (num8 v ++ b).length = b.length + 8 := by simp [num8_len]; omega
    have hlt : addC 0 (num8 v ++ b) < 4294967296 := addC_lt (by decide)
    rw [if_neg c, if_neg (by omega)]
    simp only [big8, big4, Option.bind_some]
    rw [gd_pos (by simp [num8_len]; omega), sum_ref17 (by omega) (by omega), u64w (by omega)]
    simp only [Option.bind_some]
    rw [u64w (by omega)]
    rw [gd_pos (by simp [num4_len]), gd_pos (by simp [num4_len, num8_len]; omega)]
    simp
theorem awake18 {k : Nat} (hk : 500 < k) : f222 k = some true := by
  simp only [f222]
  rw [show f223 k 1 [] = _ from make_frame (by simp) (by simp; omega)]
  have e : mkF 1 [] = (num4 0 ++ (num4 ((addC 0 (num8 1 ++ []) : Nat) : Int) ++ (num8 1 ++ [])), 0) := rfl
  rw [e]
  have h1 : ((num4 0 ++ (num4 ((addC 0 (num8 1 ++ []) : Nat) : Int) ++ (num8 1 ++ []))).length : Nat) = 16 := rfl
  have h2 : (rd (num4 0 ++ (num4 ((addC 0 (num8 1 ++ []) : Nat) : Int) ++ (num8 1 ++ []))) 15) = 1 := rfl
  simp only [Option.bind_some, h1, h2, cond_dec]
  rfl
theorem law_FrameMakes (a0 : Int) (a1 : (List UInt8)) (w0 : (0 ≤ a0 ∧ a0 ≤ 18446744073709551615)) (w1 : (∀ e0 ∈ a1, True)) (hb : 1 + ((a1.map (fun _ => 1)).sum + 1) ≤ 1048576) : ∃ k, f221 k a0 a1 = some true := by
  have hn := len_sum (sz := fun _ : UInt8 => 1) (fun _ => Nat.le_refl _) a1
  refine ⟨a1.length + 600, ?_⟩
  have ht : List.take ((0 : Int).toNat + a1.length) (a1 ++ [71, 71, 71]) = a1 := by simp
  simp only [f221, awake18 (show 500 < a1.length + 600 by omega), Option.bind_some, cond_dec]
  by_cases c : ((a1.length : Nat) : Int) > 5000
  · rw [if_pos c]
  rw [if_neg c, own21 (by omega) (by omega)]
  simp only [Option.bind_some, ht]
  rw [make_frame (by omega) (by omega), make_ref (by omega) (by omega)]
  simp only [Option.bind_some, f22, cond_true]
  rw [kept29 (by omega) (by omega)]
  simp
theorem limit_over {k : Nat} (hk : 40000 ≤ k) : f227_j21 k true 32769 = some true := by
  have haw : f222 k = some true := awake18 (by omega)
  simp only [f227_j21]
  generalize hb : List.replicate (32769 : Int).toNat (default : UInt8) = b
  have hl : b.length = 32769 := by rw [← hb, List.length_replicate]; rfl
  rw [gd_pos (by decide), make_frame (by omega) (by omega)]
  rw [show mkF 7 b = ([], 5) from by rw [mkF, hl, if_pos (by decide)]]
  simp only [Option.bind_some, haw]
  rfl
theorem limit_at {k : Nat} (hk : 40000 ≤ k) : f227_j21 k false 32768 = some true := by
  have haw : f222 k = some true := awake18 (by omega)
  simp only [f227_j21]
  generalize hb : List.replicate (32768 : Int).toNat (default : UInt8) = b
  have hl : b.length = 32768 := by rw [← hb, List.length_replicate]; rfl
  rw [gd_pos (by decide), make_frame (by omega) (by omega)]
  obtain ⟨F, hF, hFl⟩ : ∃ F, mkF 7 b = (F, 0) ∧ F.length = 32784 := by
    rw [mkF, if_neg (by omega)]
    exact ⟨_, rfl, by simp only [List.length_append, num4_len, num8_len]; omega⟩
  rw [hF]
  simp only [Option.bind_some, haw, hFl]
  rfl
theorem limit_all {k : Nat} (hk : 40000 ≤ k) (a0 : Bool) : f227 k a0 = some true := by
  cases a0 with
  | true =>
    have h1 : IntKind.i64.wrap ((32768 : Int) + 1) = 32769 := by decide
    rw [f227, cond_true, h1]
    exact limit_over hk
  | false =>
    rw [f227, cond_false]
    exact limit_at hk
theorem law_FrameLimit (a0 : Bool) (w0 : True) (hb : 1 ≤ 1048576) : ∃ k, f227 k a0 = some true :=
  ⟨40000, limit_all (Nat.le_refl _) a0⟩
end Go.Proofs.Abs
