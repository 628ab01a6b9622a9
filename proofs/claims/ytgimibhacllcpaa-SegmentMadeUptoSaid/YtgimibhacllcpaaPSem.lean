/- The law SegmentMade over the Lean functions: what was made is scanned again, whole or cut. -/
import Derived.Test.YtgimibhacllcpaaPSeg
set_option linter.unusedSimpArgs false
namespace Go.Proofs.Abs
open Go
set_option linter.unusedVariables false
set_option maxRecDepth 10000

theorem numB_val (v s : Nat) (hs : s ≤ 64) : (numB (v : Int) s).toNat = v / 2 ^ s % 256 := by
  unfold numB
  rw [show min s IntKind.u64.bits = s from Nat.min_eq_left hs, fdivN, u8wN]
  simp only [u8, Int.toNat_natCast, UInt8.toNat_ofNat']
  omega
theorem val_num4 {v : Nat} (h : v < 4294967296) : valN 0 (num4 (v : Int)) = v := by
  simp only [num4, valN]
  rw [numB_val v 24 (by decide), numB_val v 16 (by decide), numB_val v 8 (by decide), numB_val v 0 (by decide)]
  omega
theorem val_num8 {v : Nat} (h : v < 18446744073709551616) : valN 0 (num8 (v : Int)) = v := by
  simp only [num8, valN]
  rw [numB_val v 56 (by decide), numB_val v 48 (by decide), numB_val v 40 (by decide), numB_val v 32 (by decide), numB_val v 24 (by decide), numB_val v 16 (by decide), numB_val v 8 (by decide), numB_val v 0 (by decide)]
  omega
theorem mkF_fst {v : Int} {b : List UInt8} (hb : b.length ≤ 32768) : mkF v b = (num4 ((b.length : Nat) : Int) ++ (num4 ((addC 0 (num8 v ++ b) : Nat) : Int) ++ (num8 v ++ b)), 0) := by
  rw [mkF, if_neg (by omega)]
theorem mkF_len {v : Int} {b : List UInt8} (hb : b.length ≤ 32768) : (mkF v b).1.length = 16 + b.length := by
  rw [mkF_fst hb]; simp [num4_len, num8_len]; omega
theorem take_made {v : Nat} (hv : v < 18446744073709551616) {b R : List UInt8} (hb : b.length ≤ 32768) : takeF ((mkF (v : Int) b).1 ++ R) = (((16 + b.length : Nat) : Int), 0, (v : Int), b) := by
  have hl := mkF_len (v := (v : Int)) hb
  have hc : addC 0 (num8 (v : Int) ++ b) < 4294967296 := addC_lt (by decide)
  have e : (mkF (v : Int) b).1 = num4 ((b.length : Nat) : Int) ++ (num4 ((addC 0 (num8 (v : Int) ++ b) : Nat) : Int) ++ (num8 (v : Int) ++ b)) := by rw [mkF_fst hb]
  have t1 : ((mkF (v : Int) b).1 ++ R).take 4 = num4 ((b.length : Nat) : Int) := by rw [e]; rfl
  have t2 : (((mkF (v : Int) b).1 ++ R).take 8).drop 4 = num4 ((addC 0 (num8 (v : Int) ++ b) : Nat) : Int) := by rw [e]; rfl
  have t3 : (((mkF (v : Int) b).1 ++ R).take 16).drop 8 = num8 (v : Int) := by rw [e]; rfl
  have tA : ((mkF (v : Int) b).1 ++ R).take (16 + b.length) = (mkF (v : Int) b).1 := by
    rw [← hl, List.take_left']; rfl
  have t4 : (((mkF (v : Int) b).1 ++ R).take (16 + b.length)).drop 8 = num8 (v : Int) ++ b := by rw [tA, e]; rfl
  have t5 : (((mkF (v : Int) b).1 ++ R).take (16 + b.length)).drop 16 = b := by rw [tA, e]; rfl
  have hL : ((mkF (v : Int) b).1 ++ R).length = 16 + b.length + R.length := by simp [hl]
  unfold takeF
  rw [if_neg (by omega), t1, val_num4 (by omega)]
  simp only []
  rw [if_neg (by omega), if_neg (by omega), t2, t3, t4, t5, val_num4 hc, val_num8 hv, if_neg (by simp)]
theorem take_short {R : List UInt8} (h : R.length < 16) : (takeF R).2.1 ≠ 0 := by
  unfold takeF; rw [if_pos h]; decide
theorem take_cut {v : Nat} {b : List UInt8} (hb : b.length ≤ 32768) {c : Nat} (hc : c < 16 + b.length) : (takeF ((mkF (v : Int) b).1.take c)).2.1 ≠ 0 := by
  have hl := mkF_len (v := (v : Int)) hb
  have hlc : ((mkF (v : Int) b).1.take c).length = c := by simp [hl]; omega
  by_cases h16 : c < 16
  · exact take_short (by omega)
  have e : (mkF (v : Int) b).1 = num4 ((b.length : Nat) : Int) ++ (num4 ((addC 0 (num8 (v : Int) ++ b) : Nat) : Int) ++ (num8 (v : Int) ++ b)) := by rw [mkF_fst hb]
  have t1 : ((mkF (v : Int) b).1.take c).take 4 = num4 ((b.length : Nat) : Int) := by
    rw [List.take_take, show min 4 c = 4 by omega, e]; rfl
  unfold takeF
  rw [if_neg (by omega), t1, val_num4 (by omega)]
  simp only []
  rw [if_neg (by omega), if_pos (by omega)]
  decide
/-- frames, one behind the other -/
def frs : Nat → List (List UInt8) → List UInt8
  | _, [] => []
  | v, b :: r => (mkF (v : Int) b).1 ++ frs (v + 1) r
def plcs : Nat → List (List UInt8) → Int → List Tsegment_place
  | _, [], _ => []
  | v, b :: r, p => ⟨⟨(v : Int), b⟩, p⟩ :: plcs (v + 1) r (p + ((16 + b.length : Nat) : Int))
theorem frs_append : ∀ (a b : List (List UInt8)) (v : Nat), frs v (a ++ b) = frs v a ++ frs (v + a.length) b
  | [], b, v => rfl
  | x :: a, b, v => by
    simp only [List.cons_append, frs, List.length_cons]
    rw [frs_append a b (v + 1), List.append_assoc, show v + 1 + a.length = v + (a.length + 1) by omega]
theorem scan_frs : ∀ (ds : List (List UInt8)) (m v : Nat) (p : Int) (T : List UInt8), (∀ b ∈ ds, b.length ≤ 32768) → (takeF T).2.1 ≠ 0 → (frs v ds ++ T).length < m → v + ds.length < 18446744073709551615 →
    scanS m (frs v ds ++ T) p (v : Int) = (plcs v ds p, p + (((frs v ds).length : Nat) : Int))
  | [], m, v, p, T, _, hT, hm, hv => by
    obtain ⟨m, rfl, _⟩ := succ_of_pos (show 0 < m by omega)
    show scanS (m + 1) T p (v : Int) = _
    rw [scanS, if_pos hT]
    simp [plcs, frs]
  | b :: r, m, v, p, T, hd, hT, hm, hv => by
    obtain ⟨m, rfl, _⟩ := succ_of_pos (show 0 < m by omega)
    have hb := hd b (by simp)
    simp only [List.length_cons] at hv
    have ht := take_made (v := v) (R := frs (v + 1) r ++ T) (by omega) hb
    have hl := mkF_len (v := (v : Int)) hb
    have e0 : frs v (b :: r) ++ T = (mkF (v : Int) b).1 ++ (frs (v + 1) r ++ T) := by simp [frs]
    rw [e0] at hm ⊢
    simp only [scanS, ht]
    rw [if_neg (by simp), if_neg (by simp), if_neg (by omega), Int.toNat_natCast, ← hl, List.drop_left']
    · have ih := scan_frs r m (v + 1) (p + (((mkF (v : Int) b).1.length : Nat) : Int)) T (fun x hx => hd x (by simp [hx])) hT (by simp [hl] at hm ⊢; omega) (by omega)
      rw [show ((v : Int) + 1) = ((v + 1 : Nat) : Int) by omega, ih]
      simp only [plcs, frs, List.length_append, hl]
      congr 1
      omega
    · rfl
/-- how many frames lie before a cut, and how long they are -/
def cutS : List (List UInt8) → Nat → Nat × Nat
  | [], _ => (0, 0)
  | b :: r, c => if 16 + b.length ≤ c then ((cutS r (c - (16 + b.length))).1 + 1, (cutS r (c - (16 + b.length))).2 + (16 + b.length)) else (0, 0)
theorem scan_cut : ∀ (ds : List (List UInt8)) (m v c : Nat) (p : Int), (∀ b ∈ ds, b.length ≤ 32768) → ((frs v ds).take c).length < m → v + ds.length < 18446744073709551615 →
    (scanS m ((frs v ds).take c) p (v : Int)).1.length = (cutS ds c).1 ∧ (scanS m ((frs v ds).take c) p (v : Int)).2 = p + (((cutS ds c).2 : Nat) : Int)
  | [], m, v, c, p, _, hm, hv => by
    obtain ⟨m, rfl, _⟩ := succ_of_pos (show 0 < m by omega)
    simp only [frs, List.take_nil, scanS]
    rw [if_pos (take_short (by simp))]
    simp [cutS]
  | b :: r, m, v, c, p, hd, hm, hv => by
    obtain ⟨m, rfl, _⟩ := succ_of_pos (show 0 < m by omega)
    have hb := hd b (by simp)
    simp only [List.length_cons] at hv
    have hl := mkF_len (v := (v : Int)) hb
    by_cases hc : 16 + b.length ≤ c
    · have e0 : (frs v (b :: r)).take c = (mkF (v : Int) b).1 ++ (frs (v + 1) r).take (c - (16 + b.length)) := by
        simp only [frs]
        rw [List.take_append, hl, List.take_of_length_le (by omega)]
      have ht := take_made (v := v) (R := (frs (v + 1) r).take (c - (16 + b.length))) (by omega) hb
      rw [e0] at hm ⊢
      simp only [scanS, ht, cutS]
      rw [if_neg (by simp), if_neg (by simp), if_neg (by omega), if_pos hc, Int.toNat_natCast, ← hl, List.drop_left']
      · obtain ⟨i1, i2⟩ := scan_cut r m (v + 1) (c - (mkF (v : Int) b).1.length) (p + (((mkF (v : Int) b).1.length : Nat) : Int)) (fun x hx => hd x (by simp [hx])) (by
          rw [hl]; simp only [List.length_append, hl] at hm; omega) (by omega)
        rw [show ((v : Int) + 1) = ((v + 1 : Nat) : Int) by omega]
        refine ⟨by simp only [List.length_cons, i1], ?_⟩
        rw [i2]
        omega
      · rfl
    · have e0 : (frs v (b :: r)).take c = (mkF (v : Int) b).1.take c := by
        simp only [frs]
        rw [List.take_append, hl, show c - (16 + b.length) = 0 by omega]
        simp
      rw [e0]
      simp only [scanS, cutS]
      rw [if_pos (take_cut hb (by omega)), if_neg hc]
      simp
/-! ### the law -/
def endsL : Nat → List (List UInt8) → List Int
  | _, [] => []
  | p, b :: r => ((p + (16 + b.length) : Nat) : Int) :: endsL (p + (16 + b.length)) r
theorem ends_append : ∀ (a : List (List UInt8)) (b : List UInt8) (p v : Nat), (∀ x ∈ a, x.length ≤ 32768) → endsL p (a ++ [b]) = endsL p a ++ [((p + (frs v a).length + (16 + b.length) : Nat) : Int)]
  | [], b, p, v, _ => by simp [endsL, frs]
  | x :: a, b, p, v, h => by
    simp only [List.cons_append, endsL, frs, List.length_append, mkF_len (v := (v : Int)) (h x (by simp))]
    rw [ends_append a b (p + (16 + x.length)) (v + 1) (fun y hy => h y (by simp [hy]))]
    simp only [Nat.add_assoc]
theorem l42m {a0 : List (List UInt8)} {a1 : Nat} (hn : a0.length ≤ 60) (h1 : a1 ≤ 4611686018427387904) : ∀ (rest pre : List (List UInt8)) (k : Nat), a0 = pre ++ rest → (∀ b ∈ pre, b.length ≤ 500) → rest.length + 1050000 < k → (∀ b ∈ a0, b.length ≤ 1048576) →
    f244_l42 a0 (a1 : Int) k (frs a1 pre) (endsL 0 pre) ((pre.length : Nat) : Int) = some (.b0 (frs a1 a0, endsL 0 a0)) ∧ (∀ b ∈ a0, b.length ≤ 500) ∨ f244_l42 a0 (a1 : Int) k (frs a1 pre) (endsL 0 pre) ((pre.length : Nat) : Int) = some (.r true) := by
  intro rest
  induction rest with
  | nil =>
    intro pre k ha hp hk hs
    obtain ⟨k, rfl, _⟩ := succ_of_pos (show 0 < k by omega)
    have hl : a0.length = pre.length := by rw [ha]; simp
    have e : a0 = pre := by rw [ha]; simp
    refine .inl ⟨?_, by rw [e]; exact hp⟩
    rw [f244_l42, cond_dec, if_neg (by omega), e]
  | cons b rest ih =>
    intro pre k ha hp hk hs
    obtain ⟨k, rfl, hk'⟩ := succ_of_pos (show 0 < k by omega)
    simp only [List.length_cons] at hk
    have hrd : rd a0 ((pre.length : Nat) : Int) = b := by rw [ha]; exact rd_mid
    have hl : a0.length = pre.length + rest.length + 1 := by rw [ha]; simp; omega
    have hw : IntKind.i64.wrap (((pre.length : Nat) : Int) + 1) = (((pre ++ [b]).length : Nat) : Int) := by
      rw [i64w (by omega)]; simp
    have hbs := hs b (by rw [ha]; simp)
    have e1 : IntKind.u64.wrap ((a1 : Int) + IntKind.u64.wrap ((pre.length : Nat) : Int)) = ((a1 + pre.length : Nat) : Int) := by
      rw [u64w (n := ((pre.length : Nat) : Int)) (by omega), u64w (by omega)]; omega
    rw [f244_l42]
    simp only [cond_dec, hrd, hw, e1, make_ref hbs (show b.length + 400 < k by omega), awake20 (show 700 < k by omega), Option.bind_some]
    rw [if_pos (by omega), gd_pos (by omega), gd_pos (by omega)]
    by_cases c : ((b.length : Nat) : Int) > 500
    · rw [if_pos c]; exact .inr rfl
    · rw [if_neg c]
      have hbl : b.length ≤ 32768 := by omega
      have hfl : ∀ (l : List (List UInt8)) (v : Nat), (∀ x ∈ l, x.length ≤ 500) → (frs v l).length ≤ l.length * 600 := by
        intro l
        induction l with
        | nil => intro v _; simp [frs]
        | cons x l ihl =>
          intro v hx
          have h0 := hx x (by simp)
          have := ihl (v + 1) (fun y hy => hx y (by simp [hy]))
          simp only [frs, List.length_append, mkF_len (v := (v : Int)) (show x.length ≤ 32768 by omega), List.length_cons]
          omega
      have hf0 := hfl pre a1 hp
      have hel : (endsL 0 pre).length = pre.length := by
        have : ∀ (l : List (List UInt8)) (p : Nat), (endsL p l).length = l.length := by
          intro l
          induction l with
          | nil => intro p; rfl
          | cons x l ihl => intro p; simp [endsL, ihl]
        exact this _ _
      have hml := mkF_len (v := ((a1 + pre.length : Nat) : Int)) hbl
      have hm2 : (mkF ((a1 + pre.length : Nat) : Int) b).2 = 0 := by rw [mkF_fst hbl]
      have ih' := ih (pre ++ [b]) k (by simp [ha]) (by
        intro x hx
        rcases List.mem_append.1 hx with h | h
        · exact hp x h
        · simp at h; subst h; omega) (by omega) hs
      have ef : frs a1 (pre ++ [b]) = frs a1 pre ++ (mkF ((a1 + pre.length : Nat) : Int) b).1 := by
        rw [frs_append]
        show _ ++ ((mkF ((a1 + pre.length : Nat) : Int) b).1 ++ []) = _
        rw [List.append_nil]
      have ee : endsL 0 (pre ++ [b]) = endsL 0 pre ++ [(((frs a1 pre ++ (mkF ((a1 + pre.length : Nat) : Int) b).1).length : Nat) : Int)] := by
        rw [ends_append pre b 0 a1 (fun x hx => by have := hp x hx; omega)]
        simp only [List.length_append, hml, Nat.zero_add]
      rw [ef, ee] at ih'
      rw [if_neg (show ¬ (mkF ((a1 + pre.length : Nat) : Int) b).2 ≠ 0 from fun h => h hm2), gd_pos (by omega), gd_pos (by simp [hel]; omega)]
      exact ih'
theorem l161 {a0 : List (List UInt8)} {a1 : Nat} {q : List TRec × Int} (hn : a0.length ≤ 60) (h1 : a1 ≤ 4611686018427387904) (hq : ∀ i, i < a0.length → (rd q.1 (i : Int)).fOffset = ((a1 + i : Nat) : Int) ∧ (rd q.1 (i : Int)).fData = rd a0 (i : Int)) (hl : q.1.length = a0.length) : ∀ (m i k : Nat), m + i = a0.length → m < k →
    f244_l161 q (a1 : Int) a0 k (i : Int) = some (.b0 ()) := by
  intro m
  induction m with
  | zero =>
    intro i k hm hk
    obtain ⟨k, rfl, _⟩ := succ_of_pos hk
    rw [f244_l161, cond_dec, if_neg (by omega)]
  | succ m ih =>
    intro i k hm hk
    obtain ⟨k, rfl, hk'⟩ := succ_of_pos hk
    obtain ⟨q1, q2⟩ := hq i (by omega)
    have e1 : IntKind.u64.wrap ((a1 : Int) + IntKind.u64.wrap ((i : Nat) : Int)) = ((a1 + i : Nat) : Int) := by
      rw [u64w (n := ((i : Nat) : Int)) (by omega), u64w (by omega)]; omega
    rw [f244_l161]
    simp only [cond_dec, q1, q2, e1, f22, Option.bind_some]
    rw [if_pos (by omega), gd_pos (by omega), if_neg (by simp), gd_pos (by omega), gd_pos (by omega), i64w (by omega)]
    simp only [decide_true, Bool.not_true, cond_false]
    exact ih (i + 1) k (by omega) (by omega)
theorem plcs_len : ∀ (ds : List (List UInt8)) (v : Nat) (p : Int), (plcs v ds p).length = ds.length
  | [], v, p => rfl
  | b :: r, v, p => by simp [plcs, plcs_len r]
theorem plcs_at : ∀ (ds : List (List UInt8)) (v : Nat) (p : Int) (i : Nat), i < ds.length → (rd (recsOf (plcs v ds p)) (i : Int)).fOffset = ((v + i : Nat) : Int) ∧ (rd (recsOf (plcs v ds p)) (i : Int)).fData = rd ds (i : Int)
  | [], v, p, i, h => by simp at h
  | b :: r, v, p, 0, h => ⟨rfl, rfl⟩
  | b :: r, v, p, i + 1, h => by
    have := plcs_at r (v + 1) (p + ((16 + b.length : Nat) : Int)) i (by simpa using h)
    have e : ∀ {α : Type} [Inhabited α] (x : α) (l : List α), rd (x :: l) ((i + 1 : Nat) : Int) = rd l (i : Int) := by
      intro α _ x l
      simp only [rd, Int.toNat_natCast]; rfl
    refine ⟨?_, ?_⟩
    · show (rd (_ :: recsOf (plcs (v + 1) r _)) ((i + 1 : Nat) : Int)).fOffset = _
      rw [e, this.1]; omega
    · show (rd (_ :: recsOf (plcs (v + 1) r _)) ((i + 1 : Nat) : Int)).fData = _
      rw [e, e, this.2]
theorem ends_past : ∀ (ds : List (List UInt8)) (p c : Nat), c ≤ p → ∀ e ∈ endsL p ds, ¬ e ≤ (c : Int)
  | [], p, c, h, e, he => by simp [endsL] at he
  | b :: r, p, c, h, e, he => by
    rcases List.mem_cons.1 he with rfl | he
    · omega
    · exact ends_past r _ c (by omega) e he
theorem l236 {E : List Int} {S : List UInt8} {a3 : Int} {cut : Nat} (hE : E.length ≤ 60) (hcut : IntKind.i64.wrap (Int.tmod (IntKind.u64.wrap a3) (IntKind.u64.wrap (IntKind.i64.wrap (((S.length : Nat) : Int) + (1 : Int))))) = (cut : Int)) : ∀ (ds : List (List UInt8)) (pre : List Int) (k p n : Nat) (x y : Int), E = pre ++ endsL p ds → n = pre.length → ds.length < k →
    (x = ((n : Nat) : Int) ∧ y = (p : Int) ∧ p ≤ cut) ∨ cut < p →
    f244_l236 E a3 S k x y ((n : Nat) : Int) = some (.b0 (if cut < p then (x, y) else (((n + (cutS ds (cut - p)).1 : Nat) : Int), ((p + (cutS ds (cut - p)).2 : Nat) : Int)))) := by
  intro ds
  induction ds with
  | nil =>
    intro pre k p n x y hEp hnp hk hxy
    obtain ⟨k, rfl, _⟩ := succ_of_pos hk
    have hl : E.length = pre.length := by rw [hEp]; simp [endsL]
    rw [f244_l236, cond_dec, if_neg (by omega)]
    by_cases c : cut < p
    · rw [if_pos c]
    · rw [if_neg c]
      rcases hxy with ⟨rfl, rfl, _⟩ | h
      · simp [cutS]
      · exact absurd h c
  | cons b r ih =>
    intro pre k p n x y hEp hnp hk hxy
    obtain ⟨k, rfl, hk'⟩ := succ_of_pos hk
    simp only [List.length_cons] at hk'
    have hrd : rd E ((n : Nat) : Int) = ((p + (16 + b.length) : Nat) : Int) := by rw [hEp, hnp]; exact rd_mid
    have hlt : n < E.length := by rw [hEp, hnp]; simp [endsL]
    have hw : IntKind.i64.wrap (((n : Nat) : Int) + 1) = ((n + 1 : Nat) : Int) := by rw [i64w (by omega)]; omega
    have hE2 : E = (pre ++ [((p + (16 + b.length) : Nat) : Int)]) ++ endsL (p + (16 + b.length)) r := by rw [hEp]; simp [endsL]
    rw [f244_l236]
    simp only [cond_dec, hrd, hw, hcut]
    rw [if_pos (by omega), gd_pos (by omega), gd_pos (by omega)]
    by_cases c : p + (16 + b.length) ≤ cut
    · rw [if_pos (by omega), ih _ k (p + (16 + b.length)) (n + 1) _ _ hE2 (by simp [hnp]) (by omega) (.inl ⟨rfl, rfl, c⟩), if_neg (by omega), if_neg (by omega)]
      simp only [cutS]
      rw [if_pos (show 16 + b.length ≤ cut - p by omega), show cut - (p + (16 + b.length)) = cut - p - (16 + b.length) by omega]
      congr 3 <;> omega
    · rw [if_neg (by omega), ih _ k (p + (16 + b.length)) (n + 1) _ _ hE2 (by simp [hnp]) (by omega) (.inr (by omega)), if_pos (by omega)]
      by_cases c2 : cut < p
      · rw [if_pos c2]
      · rw [if_neg c2]
        rcases hxy with ⟨rfl, rfl, _⟩ | h
        · simp only [cutS]
          rw [if_neg (show ¬ 16 + b.length ≤ cut - p by omega)]
          simp
        · exact absurd h c2
theorem frs_len : ∀ (l : List (List UInt8)) (v : Nat), (∀ x ∈ l, x.length ≤ 500) → (frs v l).length ≤ l.length * 600
  | [], v, _ => by simp [frs]
  | x :: l, v, hx => by
    have h0 := hx x (by simp)
    have := frs_len l (v + 1) (fun y hy => hx y (by simp [hy]))
    simp only [frs, List.length_append, mkF_len (v := (v : Int)) (show x.length ≤ 32768 by omega), List.length_cons]
    omega
theorem ends_len : ∀ (l : List (List UInt8)) (p : Nat), (endsL p l).length = l.length
  | [], p => rfl
  | x :: l, p => by simp [endsL, ends_len l]
theorem sum_mem {α : Type} {sz : α → Nat} : ∀ {l : List α} {x : α}, x ∈ l → sz x ≤ (l.map sz).sum
  | y :: l, x, h => by
    simp only [List.map_cons, List.sum_cons]
    rcases List.mem_cons.1 h with rfl | h
    · omega
    · have := sum_mem (sz := sz) h
      omega
theorem law_SegmentMade (a0 : (List (List UInt8))) (a1 : Int) (a2 : (List UInt8)) (a3 : Int) (w0 : (∀ e0 ∈ a0, (∀ e1 ∈ e0, True))) (w1 : (0 ≤ a1 ∧ a1 ≤ 18446744073709551615)) (w2 : (∀ e0 ∈ a2, True)) (w3 : (-9223372036854775808 ≤ a3 ∧ a3 ≤ 9223372036854775807)) (hb : ((a0.map (fun x => ((x.map (fun _ => 1)).sum + 1))).sum + 1) + 1 + ((a2.map (fun _ => 1)).sum + 1) + 1 ≤ 1048576) : ∃ k, f244 k a0 a1 a2 a3 = some true := by
  have hq : ∃ q, q = 2000000 := ⟨_, rfl⟩
  obtain ⟨k, hk⟩ := hq
  refine ⟨k, ?_⟩
  have haw : f245 k = some true := awake20 (by omega)
  obtain ⟨v, rfl⟩ := Int.eq_ofNat_of_zero_le w1.1
  simp only [f244, haw, cond_dec, Option.bind_some]
  by_cases c1 : ((a0.length : Nat) : Int) > 60
  · rw [if_pos c1]
  by_cases c2 : ((a2.length : Nat) : Int) > 15
  · rw [if_neg c1, if_pos c2]
  by_cases c3 : (v : Int) > 4611686018427387904
  · rw [if_neg c1, if_neg c2, if_pos c3]
  rw [if_neg c1, if_neg c2, if_neg c3]
  have hs : ∀ b ∈ a0, b.length ≤ 1048576 := by
    intro b hbm
    have h1 := sum_mem (sz := fun x : List UInt8 => (x.map (fun _ => 1)).sum + 1) hbm
    have h2 := len_sum (sz := fun _ : UInt8 => 1) (fun _ => Nat.le_refl _) b
    omega
  rcases l42m (a0 := a0) (a1 := v) (by omega) (by omega) a0 [] k rfl (by simp) (by omega) hs with ⟨hL, h500⟩ | hL
  case inr =>
    rw [show f244_l42 a0 (v : Int) k [] [] 0 = _ from hL]
    rfl
  rw [show f244_l42 a0 (v : Int) k [] [] 0 = _ from hL]
  have hfl := frs_len a0 v h500
  have hd : ∀ b ∈ a0, b.length ≤ 32768 := fun b hbm => by have := h500 b hbm; omega
  have hT : (takeF a2).2.1 ≠ 0 := take_short (by omega)
  have hlen : (frs v a0 ++ a2).length = (frs v a0).length + a2.length := by simp
  have hsc := scan_frs a0 ((frs v a0 ++ a2).length + 1) v 0 a2 hd hT (by omega) (by omega)
  simp only [Option.bind_some, f244_j116, f97]
  rw [gd_pos (by omega)]
  simp only [Option.bind_some]
  rw [gd_pos (by omega), scan_lib (by omega) (by omega) (by omega), hsc]
  simp only [Option.bind_some, haw, Bool.not_true, cond_false, cond_dec, Int.zero_add]
  have hrl : (recsOf (plcs v a0 0)).length = a0.length := by simp [recsOf, plcs_len]
  rw [if_neg (by simp), if_neg (by rw [hrl]; simp)]
  rw [show f244_l161 (recsOf (plcs v a0 0), (((frs v a0).length : Nat) : Int)) (v : Int) a0 k 0 = _ from l161 (q := (recsOf (plcs v a0 0), (((frs v a0).length : Nat) : Int))) (by omega) (by omega) (fun i hi => plcs_at a0 v 0 i hi) hrl a0.length 0 k rfl (by omega)]
  simp only [Option.bind_some, f244_j214]
  have e1 : IntKind.u64.wrap (IntKind.i64.wrap ((((frs v a0).length : Nat) : Int) + 1)) = (((frs v a0).length + 1 : Nat) : Int) := by
    rw [i64w (by omega), u64w (by omega)]; omega
  obtain ⟨u, hu⟩ := Int.eq_ofNat_of_zero_le (u64_nonneg a3)
  have hm : u % ((frs v a0).length + 1) < (frs v a0).length + 1 := Nat.mod_lt _ (by omega)
  have e2 : IntKind.i64.wrap (Int.tmod (IntKind.u64.wrap a3) (IntKind.u64.wrap (IntKind.i64.wrap ((((frs v a0).length : Nat) : Int) + (1 : Int))))) = ((u % ((frs v a0).length + 1) : Nat) : Int) := by
    rw [e1, hu, show Int.tmod (u : Int) (((frs v a0).length + 1 : Nat) : Int) = ((u % ((frs v a0).length + 1) : Nat) : Int) from rfl, i64w (by omega)]
  rw [gd_pos (by rw [e1]; omega)]
  rw [show f244_l236 (endsL 0 a0) a3 (frs v a0) k 0 0 0 = _ from l236 (E := endsL 0 a0) (S := frs v a0) (by rw [ends_len]; omega) e2 a0 [] k 0 0 0 0 rfl rfl (by omega) (.inl ⟨rfl, rfl, by omega⟩)]
  rw [if_neg (by omega)]
  simp only [Option.bind_some, f244_j277, e2, Nat.sub_zero, Nat.zero_add]
  generalize u % ((frs v a0).length + 1) = c at hm
  have hcl : ((frs v a0).take c).length ≤ 1048576 := by simp; omega
  obtain ⟨s1, s2⟩ := scan_cut a0 (((frs v a0).take c).length + 1) v c 0 hd (by omega) (by omega)
  rw [gd_pos (by omega), show sl (frs v a0) 0 (c : Int) = (frs v a0).take c from by simp [sl], scan_lib hcl (by omega) (by simp; omega)]
  simp only [Option.bind_some, cond_dec, recsOf, List.length_map, s1, s2, Int.zero_add]
  rw [if_pos trivial]
  simp
end Go.Proofs.Abs
