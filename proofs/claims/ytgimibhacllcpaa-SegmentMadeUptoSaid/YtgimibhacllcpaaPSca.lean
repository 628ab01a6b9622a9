/- Segments are scanned: what both scanners come to. -/
import Derived.Test.YtgimibhacllcpaaPTak
set_option linter.unusedSimpArgs false
namespace Go.Proofs.Abs
open Go
set_option linter.unusedVariables false
set_option maxRecDepth 10000

theorem takeF_ok {R : List UInt8} (h : (takeF R).2.1 = 0) : ∃ n : Nat, (takeF R).1 = (n : Int) ∧ 16 ≤ n ∧ n ≤ R.length ∧ n ≤ 32784 ∧ (takeF R).2.2.2 = (R.take n).drop 16 ∧ (0 ≤ (takeF R).2.2.1 ∧ (takeF R).2.2.1 ≤ 18446744073709551615) := by
  unfold takeF at h ⊢
  by_cases c1 : R.length < 16
  · rw [if_pos c1] at h; exact absurd h (by decide)
  rw [if_neg c1] at h ⊢
  generalize valN 0 (R.take 4) = n at h ⊢
  by_cases c2 : 32768 < n
  · simp only [if_pos c2] at h; exact absurd h (by decide)
  simp only [if_neg c2] at h ⊢
  by_cases c3 : R.length - 16 < n
  · simp only [if_pos c3] at h; exact absurd h (by decide)
  simp only [if_neg c3] at h ⊢
  by_cases c4 : addC 0 ((R.take (16 + n)).drop 8) = valN 0 ((R.take 8).drop 4)
  · simp only [c4, ne_eq, not_true, if_false]
    have h8 : ((R.take 16).drop 8).length = 8 := by simp; omega
    have := valN_lt ((R.take 16).drop 8) 0 0 (by decide)
    rw [h8, show 256 ^ (0 + 8) = 18446744073709551616 from by decide] at this
    exact ⟨16 + n, rfl, by omega, by omega, by omega, rfl, by omega⟩
  · simp only [ne_eq, c4, not_false_eq_true, if_true] at h; exact absurd h (by decide)
def scanS : Nat → List UInt8 → Int → Int → List Tsegment_place × Int
  | 0, _, p, _ => ([], p)
  | m + 1, R, p, nx =>
    if (takeF R).2.1 ≠ 0 then ([], p)
    else if (takeF R).2.2.1 ≠ nx then ([], p)
    else if nx = 18446744073709551615 then ([⟨⟨(takeF R).2.2.1, (takeF R).2.2.2⟩, p⟩], p + (takeF R).1)
    else (⟨⟨(takeF R).2.2.1, (takeF R).2.2.2⟩, p⟩ :: (scanS m (R.drop (takeF R).1.toNat) (p + (takeF R).1) (nx + 1)).1, (scanS m (R.drop (takeF R).1.toNat) (p + (takeF R).1) (nx + 1)).2)
theorem sl_end {a pre R : List UInt8} (ha : a = pre ++ R) : sl a ((pre.length : Nat) : Int) ((a.length : Nat) : Int) = R := by
  simp only [sl, Int.toNat_natCast, List.take_length]
  rw [ha]; simp
theorem l23 {a : List UInt8} (hn : a.length ≤ 1048576) : ∀ (m k : Nat) (R pre : List UInt8) (acc : List Tsegment_place) (nx : Int), a = pre ++ R → R.length < m → m + a.length + 400 < k → acc.length ≤ pre.length → 0 ≤ nx ∧ nx ≤ 18446744073709551615 →
    f273_l23 a k acc ((pre.length : Nat) : Int) nx = some (.b0 (acc ++ (scanS m R ((pre.length : Nat) : Int) nx).1, (scanS m R ((pre.length : Nat) : Int) nx).2)) := by
  intro m
  induction m with
  | zero => intro k R pre acc nx ha hm; omega
  | succ m ih =>
    intro k R pre acc nx ha hm hk hacc hnx
    obtain ⟨k, rfl, hk'⟩ := succ_of_pos (show 0 < k by omega)
    have hl : a.length = pre.length + R.length := by rw [ha]; simp
    rw [f273_l23]
    simp only [cond_dec]
    rw [gd_pos (by omega), sl_end ha, take_frame (by omega) (by omega)]
    simp only [Option.bind_some, scanS]
    by_cases c1 : (takeF R).2.1 = 0
    · obtain ⟨n, e1, h16, hnR, _, hd, hv⟩ := takeF_ok c1
      rw [if_neg (by simp [c1]), if_neg (show ¬ (takeF R).2.1 ≠ 0 by simp [c1])]
      by_cases c2 : (takeF R).2.2.1 = nx
      · rw [if_neg (by simp [c2]), if_neg (show ¬ (takeF R).2.2.1 ≠ nx by simp [c2]), gd_pos (by simp; omega), e1]
        by_cases c3 : nx = 18446744073709551615
        · rw [if_pos c3, if_pos c3, i64w (by omega)]
        · rw [if_neg c3, if_neg c3, i64w (by omega), u64w (by omega)]
          have hp : (((pre.length : Nat) : Int) + (n : Int)) = (((pre ++ R.take n).length : Nat) : Int) := by simp; omega
          rw [hp, Int.toNat_natCast]
          rw [ih k (R.drop n) (pre ++ R.take n) _ (nx + 1) (by rw [ha]; simp) (by simp; omega) (by omega) (by simp; omega) (by omega)]
          simp
      · rw [if_pos c2, if_pos (show (takeF R).2.2.1 ≠ nx from c2)]; simp
    · rw [if_pos c1, if_pos (show (takeF R).2.1 ≠ 0 from c1)]; simp
theorem places_scan {a : List UInt8} (hn : a.length ≤ 1048576) {nx : Int} (hnx : 0 ≤ nx ∧ nx ≤ 18446744073709551615) {k : Nat} (hk : 2 * a.length + 500 < k) : f273 k a nx = some (scanS (a.length + 1) a 0 nx) := by
  have h := l23 hn (a.length + 1) k a [] [] nx rfl (by omega) (by omega) (by simp) hnx
  simp only [f273]
  rw [show f273_l23 a k [] 0 nx = _ from h]
  rfl
def recsOf (l : List Tsegment_place) : List TRec := l.map (·.fr)
theorem l28 {r : List Tsegment_place × Int} (hn : r.1.length ≤ 1048576) : ∀ (rest pre : List Tsegment_place) (k : Nat) (acc : List TRec), r.1 = pre ++ rest → rest.length < k → acc.length ≤ pre.length →
    f272_l28 r k acc ((pre.length : Nat) : Int) = some (.b0 (acc ++ recsOf rest)) := by
  intro rest
  induction rest with
  | nil =>
    intro pre k acc ha hk hacc
    obtain ⟨k, rfl, _⟩ := succ_of_pos hk
    have hl : r.1.length = pre.length := by rw [ha]; simp
    rw [f272_l28, cond_dec, if_neg (by omega)]
    simp [recsOf]
  | cons x rest ih =>
    intro pre k acc ha hk hacc
    obtain ⟨k, rfl, hk'⟩ := succ_of_pos hk
    have hrd : rd r.1 ((pre.length : Nat) : Int) = x := by rw [ha]; exact rd_mid
    have hl : r.1.length = pre.length + rest.length + 1 := by rw [ha]; simp; omega
    have hw : IntKind.i64.wrap (((pre.length : Nat) : Int) + 1) = (((pre ++ [x]).length : Nat) : Int) := by
      rw [i64w (by omega)]; simp
    rw [f272_l28]
    simp only [cond_dec, hrd, hw]
    rw [if_pos (by omega), gd_pos (by omega), gd_pos (by simp; omega), ih (pre ++ [x]) k _ (by simp [ha]) (by simp at hk'; omega) (by simp; omega)]
    simp [recsOf]
theorem scanS_len : ∀ (m : Nat) (R : List UInt8) (p nx : Int), R.length < m → (scanS m R p nx).1.length ≤ R.length ∧ (p ≤ (scanS m R p nx).2 ∧ (scanS m R p nx).2 ≤ p + ((R.length : Nat) : Int))
  | 0, R, p, nx, h => by omega
  | m + 1, R, p, nx, h => by
    unfold scanS
    by_cases c1 : (takeF R).2.1 = 0
    · obtain ⟨n, e1, h16, hnR, _, hd, hv⟩ := takeF_ok c1
      rw [if_neg (by simp [c1])]
      by_cases c2 : (takeF R).2.2.1 = nx
      · rw [if_neg (by simp [c2]), e1]
        by_cases c3 : nx = 18446744073709551615
        · rw [if_pos c3]; simp; omega
        · rw [if_neg c3, Int.toNat_natCast]
          have hdl : (R.drop n).length = R.length - n := by simp
          obtain ⟨i1, i2, i3⟩ := scanS_len m (R.drop n) (p + (n : Int)) (nx + 1) (by omega)
          rw [hdl] at i1 i3
          simp only [List.length_cons]
          omega
      · rw [if_pos c2]; simp; omega
    · rw [if_pos c1]; simp; omega
theorem scan_lib {a : List UInt8} (hn : a.length ≤ 1048576) {nx : Int} (hnx : 0 ≤ nx ∧ nx ≤ 18446744073709551615) {k : Nat} (hk : 2 * a.length + 500 < k) : f272 k a nx = some (recsOf (scanS (a.length + 1) a 0 nx).1, (scanS (a.length + 1) a 0 nx).2) := by
  have hl := (scanS_len (a.length + 1) a 0 nx (by omega)).1
  simp only [f272, places_scan hn hnx hk, Option.bind_some]
  rw [show f272_l28 (scanS (a.length + 1) a 0 nx) k [] 0 = _ from l28 (r := scanS (a.length + 1) a 0 nx) (by omega) (scanS (a.length + 1) a 0 nx).1 [] k [] rfl (Nat.lt_of_le_of_lt hl (by omega)) (by simp)]
  rfl
end Go.Proofs.Abs
