/- The law SegmentMade over the Lean functions: what was made is scanned again, whole or cut. -/
import Derived.Test.YtgimibhacllcpaaPSeg
set_option linter.unusedSimpArgs false
namespace Go.Proofs.Abs
open Go
set_option linter.unusedVariables false
set_option maxRecDepth 10000

theorem numB_val (v s : Nat) (hs : s ≤ 64) : (numB (v : Int) s).toNat = v / 2 ^ s % 256 := by
  unfold numB
  rw [show min s IntKind.u64.bits = s from Nat.min_eq_left hs, fdivN, u8wN]
  simp only [u8, Int.toNat_natCast, UInt8.toNat_ofNat']
  omega
theorem val_num4 {v : Nat} (h : v < 4294967296) : valN 0 (num4 (v : Int)) = v := by
  simp only [num4, valN]
  rw [numB_val v 24 (by decide), numB_val v 16 (by decide), numB_val v 8 (by decide), numB_val v 0 (by decide)]
  omega
theorem val_num8 {v : Nat} (h : v < 18446744073709551616) : valN 0 (num8 (v : Int)) = v := by
  simp only [num8, valN]
  rw [numB_val v 56 (by decide), numB_val v 48 (by decide), numB_val v 40 (by decide), numB_val v 32 (by decide), numB_val v 24 (by decide), numB_val v 16 (by decide), numB_val v 8 (by decide), numB_val v 0 (by decide)]
  omega
theorem mkF_fst {v : Int} {b : List UInt8} (hb : b.length ≤ 32768) : mkF v b = (num4 ((b.length : Nat) : Int) ++ (num4 ((addC 0 (num8 v ++ b) : Nat) : Int) ++ (num8 v ++ b)), 0) := by
  rw [mkF, if_neg (by omega)]
theorem mkF_len {v : Int} {b : List UInt8} (hb : b.length ≤ 32768) : (mkF v b).1.length = 16 + b.length := by
  rw [mkF_fst hb]; simp [num4_len, num8_len]; omega
theorem take_made {v : Nat} (hv : v < 18446744073709551616) {b R : List UInt8} (hb : b.length ≤ 32768) : takeF ((mkF (v : Int) b).1 ++ R) = (((16 + b.length : Nat) : Int), 0, (v : Int), b) := by
  have hl := mkF_len (v := (v : Int)) hb
  have hc : addC 0 (num8 (v : Int) ++ b) < 4294967296 := addC_lt (by decide)
  have e : (mkF (v : Int) b).1 = num4 ((b.length : Nat) : Int) ++ (num4 ((addC 0 (num8 (v : Int) ++ b) : Nat) : Int) ++ (num8 (v : Int) ++ b)) := by rw [mkF_fst hb]
  have t1 : ((mkF (v : Int) b).1 ++ R).take 4 = num4 ((b.length : Nat) : Int) := by rw [e]; rfl
  have t2 : (((mkF (v : Int) b).1 ++ R).take 8).drop 4 = num4 ((addC 0 (num8 (v : Int) ++ b) : Nat) : Int) := by rw [e]; rfl
  have t3 : (((mkF (v : Int) b).1 ++ R).take 16).drop 8 = num8 (v : Int) := by rw [e]; rfl
  have tA : ((mkF (v : Int) b).1 ++ R).take (16 + b.length) = (mkF (v : Int) b).1 := by
    rw [← hl, List.take_left']; rfl
  have t4 : (((mkF (v : Int) b).1 ++ R).take (16 + b.length)).drop 8 = num8 (v : Int) ++ b := by rw [tA, e]; rfl
  have t5 : (((mkF (v : Int) b).1 ++ R).take (16 + b.length)).drop 16 = b := by rw [tA, e]; rfl
  have hL : ((mkF (v : Int) b).1 ++ R).length = 16 + b.length + R.length := by simp [hl]
  unfold takeF
  rw [if_neg (by omega), t1, val_num4 (by omega)]
  simp only []
  rw [if_neg (by omega), if_neg (by omega), t2, t3, t4, t5, val_num4 hc, val_num8 hv, if_neg (by simp)]
theorem take_short {R : List UInt8} (h : R.length < 16) : (takeF R).2.1 ≠ 0 := by
  unfold takeF; rw [if_pos h]; decide
theorem take_cut {v : Nat} {b : List UInt8} (hb : b.length ≤ 32768) {c : Nat} (hc : c < 16 + b.length) : (takeF ((mkF (v : Int) b).1.take c)).2.1 ≠ 0 := by
  have hl := mkF_len (v := (v : Int)) hb
  have hlc : ((mkF (v : Int) b).1.take c).length = c := by simp [hl]; omega
  by_cases h16 : c < 16
  · exact take_short (by omega)
  have e : (mkF (v : Int) b).1 = num4 ((b.length : Nat) : Int) ++ (num4 ((addC 0 (num8 (v : Int) ++ b) : Nat) : Int) ++ (num8 (v : Int) ++ b)) := by rw [mkF_fst hb]
  have t1 : ((mkF (v : Int) b).1.take c).take 4 = num4 ((b.length : Nat) : Int) := by
    rw [List.take_take, show min 4 c = 4 by omega, e]; rfl
  unfold takeF
  rw [if_neg (by omega), t1, val_num4 (by omega)]
  simp only []
  rw [if_neg (by omega), if_pos (by omega)]
  decide
/-- frames, one behind the other -/
def frs : Nat → List (List UInt8) → List UInt8
  | _, [] => []
  | v, b :: r => (mkF (v : Int) b).1 ++ frs (v + 1) r
theorem frs_append : ∀ (a b : List (List UInt8)) (v : Nat), frs v (a ++ b) = frs v a ++ frs (v + a.length) b
  | [], b, v => rfl
  | x :: a, b, v => by
    simp only [List.cons_append, frs, List.length_cons]
    rw [frs_append a b (v + 1), List.append_assoc, show v + 1 + a.length = v + (a.length + 1) by omega]
/-- how many frames lie before a cut, and how long they are -/
def cutS : List (List UInt8) → Nat → Nat × Nat
  | [], _ => (0, 0)
  | b :: r, c => if 16 + b.length ≤ c then ((cutS r (c - (16 + b.length))).1 + 1, (cutS r (c - (16 + b.length))).2 + (16 + b.length)) else (0, 0)
/-! ### the law -/
def endsL : Nat → List (List UInt8) → List Int
  | _, [] => []
  | p, b :: r => ((p + (16 + b.length) : Nat) : Int) :: endsL (p + (16 + b.length)) r
theorem ends_append : ∀ (a : List (List UInt8)) (b : List UInt8) (p v : Nat), (∀ x ∈ a, x.length ≤ 32768) → endsL p (a ++ [b]) = endsL p a ++ [((p + (frs v a).length + (16 + b.length) : Nat) : Int)]
  | [], b, p, v, _ => by simp [endsL, frs]
  | x :: a, b, p, v, h => by
    simp only [List.cons_append, endsL, frs, List.length_append, mkF_len (v := (v : Int)) (h x (by simp))]
    rw [ends_append a b (p + (16 + x.length)) (v + 1) (fun y hy => h y (by simp [hy]))]
    simp only [Nat.add_assoc]
theorem ends_past : ∀ (ds : List (List UInt8)) (p c : Nat), c ≤ p → ∀ e ∈ endsL p ds, ¬ e ≤ (c : Int)
  | [], p, c, h, e, he => by simp [endsL] at he
  | b :: r, p, c, h, e, he => by
    rcases List.mem_cons.1 he with rfl | he
    · omega
    · exact ends_past r _ c (by omega) e he
theorem frs_len : ∀ (l : List (List UInt8)) (v : Nat), (∀ x ∈ l, x.length ≤ 500) → (frs v l).length ≤ l.length * 600
  | [], v, _ => by simp [frs]
  | x :: l, v, hx => by
    have h0 := hx x (by simp)
    have := frs_len l (v + 1) (fun y hy => hx y (by simp [hy]))
    simp only [frs, List.length_append, mkF_len (v := (v : Int)) (show x.length ≤ 32768 by omega), List.length_cons]
    omega
theorem ends_len : ∀ (l : List (List UInt8)) (p : Nat), (endsL p l).length = l.length
  | [], p => rfl
  | x :: l, p => by simp [endsL, ends_len l]
theorem sum_mem {α : Type} {sz : α → Nat} : ∀ {l : List α} {x : α}, x ∈ l → sz x ≤ (l.map sz).sum
  | y :: l, x, h => by
    simp only [List.map_cons, List.sum_cons]
    rcases List.mem_cons.1 h with rfl | h
    · omega
    · have := sum_mem (sz := sz) h
      omega
end Go.Proofs.Abs
