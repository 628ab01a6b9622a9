/- CodecDeep: what is read; the law. -/
import Derived.Test.YtlpffigmcnahcaaDoorPC7
set_option linter.unusedSimpArgs false
namespace Go.Proofs.Abs
open Go
set_option linter.unusedVariables false
set_option maxRecDepth 100000
theorem end_at (K : Nat) {b pre rest : List UInt8} (left : Int) (hb : b = pre ++ (0 :: rest)) (hl : b.length ≤ 100000000) (hK : 10 ≤ K) : f453 K [nZ] b ((pre.length : Nat) : Int) 0 left = some (0, -1, 0, ((pre.length + 1 : Nat) : Int), 0) := by
  have hb' : b = pre ++ (zc 0 ++ rest) := by rw [hb, zc0]; rfl
  have hn : f454 K [nZ] b ((pre.length : Nat) : Int) 0 left (-9223372036854775808) 9223372036854775807 = some (0, 0, (((pre ++ zc 0).length : Nat) : Int), 0) := num_in (lo := -9223372036854775808) (hi := 9223372036854775807) (left := left) 1 (a := 0) hb' hl (by omega) (by omega) hK
  unfold f453
  rw [hn, zc0, List.length_append]
  rfl
theorem one_at (K : Nat) {b pre rest : List UInt8} (left : Int) (hb : b = pre ++ (2 :: rest)) (hl : b.length ≤ 100000000) (hK : 10 ≤ K) : f453 K [nZ] b ((pre.length : Nat) : Int) 0 left = some (1, -1, 0, ((pre.length + 1 : Nat) : Int), 0) := by
  have hz : zc 1 = [2] := by
    unfold zc
    rw [show zg 1 = 2 from rfl, nb_lt (by omega)]
    rfl
  have hb' : b = pre ++ (zc 1 ++ rest) := by rw [hb, hz]; rfl
  have hn : f454 K [nZ] b ((pre.length : Nat) : Int) 0 left (-9223372036854775808) 9223372036854775807 = some (1, 0, (((pre ++ zc 1).length : Nat) : Int), 0) := num_in (lo := -9223372036854775808) (hi := 9223372036854775807) (left := left) 1 (a := 1) hb' hl (by omega) (by omega) hK
  unfold f453
  rw [hn, hz, List.length_append]
  rfl
abbrev RcV := (List TNode) → (List UInt8) → Int → Int → Int → Int → Int → Option (Int × Int × Int × (List UInt8) × (List (RT 5)) × (List (List UInt8)) × Int × Int × Int)
theorem top_at (K : Nat) (b : List UInt8) (p d : Int) (left : Nat) (h1 : 1 ≤ d ∧ d ≤ 65) (h2 : 1 ≤ left ∧ left ≤ 10000) : f451 (K + 1) [nZ] b p 0 ((left : Nat) : Int) 0 d = if d > 64 then some (5, 0, 0, [], [], [], ((left : Nat) : Int), p, 0) else (f452 (f451 K) K [nZ] b p 0 ((left - 1 : Nat) : Int) nZ 11 0 (d + 1)).bind fun r112 => f451_j245 K r112.1 11 (0 : Int) ([] : List UInt8) r112.2.2.2.2.1 r112.2.2.2.2.2 r112.2.1 r112.2.2.1 r112.2.2.2.1 := by
  rw [f451]
  unfold f451_s
  rw [cdn (by decide)]
  show f451_j22 K ((left : Nat) : Int) p 0 d 0 [nZ] (f451 K) b (decide ((0 : Int) ≥ 1)) = _
  rw [decide_eq_false (by decide)]
  unfold f451_j22
  rw [cond_false]
  by_cases hd : d > 64
  · rw [cdp hd, if_pos hd]
    rfl
  · rw [cdn hd, if_neg hd, decide_eq_false (by omega)]
    unfold f451_j44
    rw [cond_false, gdp ⟨by decide, by show (0 : Int) < 1; decide⟩]
    show cond (decide ((11 : Int) = 11)) (f451_j105 K (f451 K) [nZ] b p 0 ((left : Nat) : Int) 0 d (decide ((11 : Int) = 11))) _ = _
    rw [cdp rfl, decide_eq_true rfl]
    unfold f451_j105
    rw [cond_true]
    show Option.bind (f452 (f451 K) K [nZ] b p 0 (IntKind.i64.wrap (((left : Nat) : Int) - 1)) nZ 11 0 (IntKind.i64.wrap (d + 1))) _ = _
    rw [i64w (n := ((left : Nat) : Int) - 1) (by omega), i64w (n := d + 1) (by omega), show ((left : Nat) : Int) - 1 = ((left - 1 : Nat) : Int) by omega]
    rfl
theorem items0 (rc : RcV) (K : Nat) {b pre rest : List UInt8} (left dd : Int) (L : List (RT 5)) (hb : b = pre ++ (0 :: rest)) (hl : b.length ≤ 100000000) (hK : 10 ≤ K) : f452_l10 [nZ] b rc nZ 11 0 dd (K + 1) left L [] ((pre.length : Nat) : Int) 0 = some (.b0 (left, ((pre.length + 1 : Nat) : Int), 0, L, [])) := by
  rw [f452_l10, end_at K (pre := pre) (rest := rest) _ hb hl hK, Option.bind_some]
  show cond (decide ((0 : Int) ≠ 0)) _ (cond (decide ((0 : Int) = 0)) (some (LR2.b0 (left, ((pre.length + 1 : Nat) : Int), 0, L, []))) _) = _
  rw [cdn (by decide), cdp rfl]
theorem item1 (rc : RcV) (K : Nat) (b : List UInt8) (p left dd : Int) (r) (hr : rc [nZ] b p 0 left 0 dd = some r) : f455v2 rc K [nZ] b p 0 left nZ 11 0 [] [] dd = if r.1 ≠ 0 then some (r.1, r.2.2.2.2.2.2.1, r.2.2.2.2.2.2.2.1, r.2.2.2.2.2.2.2.2, [], []) else some (0, r.2.2.2.2.2.2.1, r.2.2.2.2.2.2.2.1, r.2.2.2.2.2.2.2.2, [RT.of TValue.ok ⟨r.2.1, r.2.2.1, r.2.2.2.1, r.2.2.2.2.1, r.2.2.2.2.2.1⟩], []) := by
  unfold f455v2
  show cond (decide ((11 : Int) = 12)) _ _ = _
  rw [cdn (by decide)]
  unfold f455v2_j46
  show Option.bind (rc [nZ] b p 0 left 0 dd) _ = _
  rw [hr, Option.bind_some]
  by_cases h : r.1 ≠ 0
  · rw [cdp h, if_pos h]
  · rw [cdn h, if_neg h]
    show cond (decide ((11 : Int) = 12)) _ (f455v2_j115 K [] r []) = _
    rw [cdn (by decide)]
    unfold f455v2_j115
    rw [gdp (by simp)]
    rfl
theorem count1 (rc : RcV) (K : Nat) (b : List UInt8) (p left dd : Int) (r) (hr : rc [nZ] b p 0 left 0 dd = some r) (h17 : Int × Int × Int × Int × Int) (h1 : h17.1 = 1) : f452_l63 h17 rc [nZ] b nZ 11 0 dd (K + 2) 0 left [] [] p 0 = if r.1 ≠ 0 then some (.r (r.1, r.2.2.2.2.2.2.1, r.2.2.2.2.2.2.2.1, r.2.2.2.2.2.2.2.2, [], [])) else some (.b0 (r.2.2.2.2.2.2.1, [RT.of TValue.ok ⟨r.2.1, r.2.2.1, r.2.2.2.1, r.2.2.2.2.1, r.2.2.2.2.2.1⟩], [], r.2.2.2.2.2.2.2.1, r.2.2.2.2.2.2.2.2)) := by
  rw [f452_l63, h1, cdp (by decide)]
  show Option.bind (f455v2 rc (K + 1) [nZ] b p 0 left nZ 11 0 [] [] dd) _ = _
  rw [item1 rc (K + 1) b p left dd r hr]
  by_cases h : r.1 ≠ 0
  · rw [if_pos h, if_pos h, Option.bind_some]
    dsimp only
    rw [cdp h]
  · rw [if_neg h, if_neg h, Option.bind_some]
    dsimp only
    rw [cdn (by decide), i64w (n := 0 + 1) (by omega), f452_l63, h1, cdn (by decide)]
theorem items1 (rc : RcV) (K : Nat) {b pre rest : List UInt8} (left dd : Int) (hb : b = pre ++ (2 :: rest)) (hl : b.length ≤ 100000000) (hK : 10 ≤ K) (r) (hr : rc [nZ] b ((pre.length + 1 : Nat) : Int) 0 left 0 dd = some r) :
    (r.1 ≠ 0 → f452_l10 [nZ] b rc nZ 11 0 dd (K + 3) left [] [] ((pre.length : Nat) : Int) 0 = some (.r (r.1, r.2.2.2.2.2.2.1, r.2.2.2.2.2.2.2.1, r.2.2.2.2.2.2.2.2, [], []))) ∧
    (r.1 = 0 → f452_l10 [nZ] b rc nZ 11 0 dd (K + 3) left [] [] ((pre.length : Nat) : Int) 0 = f452_l10 [nZ] b rc nZ 11 0 dd (K + 2) r.2.2.2.2.2.2.1 [RT.of TValue.ok ⟨r.2.1, r.2.2.1, r.2.2.2.1, r.2.2.2.2.1, r.2.2.2.2.2.1⟩] [] r.2.2.2.2.2.2.2.1 r.2.2.2.2.2.2.2.2) := by
  have st : f452_l10 [nZ] b rc nZ 11 0 dd (K + 3) left [] [] ((pre.length : Nat) : Int) 0 = (f452_l63 (1, -1, 0, ((pre.length + 1 : Nat) : Int), 0) rc [nZ] b nZ 11 0 dd (K + 2) 0 left [] [] ((pre.length + 1 : Nat) : Int) 0).bind fun o63 => (match o63 with | .b0 (x63_1, x63_2, x63_3, x63_4, x63_5) => f452_j101 (f452_l10 [nZ] b rc nZ 11 0 dd (K + 2)) (K + 2) (1, -1, 0, ((pre.length + 1 : Nat) : Int), 0) b x63_1 x63_2 x63_3 x63_4 x63_5 | .r x => some (.r x) | _ => none) := by
    rw [f452_l10, one_at (K + 2) (pre := pre) _ hb hl (by omega), Option.bind_some]
    rfl
  rw [st, count1 rc K b _ left dd r hr _ rfl]
  refine ⟨fun h => by rw [if_pos h]; rfl, fun h => ?_⟩
  rw [if_neg (fun q => q h), Option.bind_some]
  show f452_j101 (f452_l10 [nZ] b rc nZ 11 0 dd (K + 2)) (K + 2) (1, -1, 0, ((pre.length + 1 : Nat) : Int), 0) b _ _ _ _ _ = _
  unfold f452_j101
  show cond (decide ((-1 : Int) ≥ 0)) _ _ = _
  rw [cdn (by decide)]
theorem value_deep (b : List UInt8) (hl : b.length ≤ 100000000) : ∀ (m : Nat) (d : Int) (left : Nat) (pre rest : List UInt8) (K : Nat), b = pre ++ (dB m ++ rest) → 1 ≤ d → d ≤ 65 → m + 1 ≤ left → left ≤ 10000 → m + 40 ≤ K →
    ∃ r, f451 K [nZ] b ((pre.length : Nat) : Int) 0 ((left : Nat) : Int) 0 d = some r ∧ (d + m ≤ 64 → r = (0, 11, 0, [], dL m, [], ((left - (m + 1) : Nat) : Int), (((pre ++ dB m).length : Nat) : Int), 0)) ∧ (64 < d + m → r.1 = 5) := by
  intro m
  induction m with
  | zero =>
    intro d left pre rest K hb h1 h2 h3 h4 hK
    obtain ⟨K, rfl⟩ : ∃ j, K = j + 2 := ⟨K - 2, by omega⟩
    rw [top_at (K + 1) b _ d left ⟨h1, h2⟩ ⟨by omega, h4⟩]
    by_cases hd : d > 64
    · rw [if_pos hd]
      exact ⟨_, rfl, fun h => by omega, fun _ => rfl⟩
    · rw [if_neg hd]
      unfold f452
      rw [items0 (f451 (K + 1)) K (pre := pre) (rest := rest) _ (d + 1) [] hb hl (by omega)]
      refine ⟨(0, 11, 0, [], [], [], ((left - 1 : Nat) : Int), ((pre.length + 1 : Nat) : Int), 0), rfl, fun _ => ?_, fun h => by simp at h; omega⟩
      have e : (pre ++ dB 0).length = pre.length + 1 := by simp [dB]
      rw [e]
      rfl
  | succ m ih =>
    intro d left pre rest K hb h1 h2 h3 h4 hK
    obtain ⟨K, rfl⟩ : ∃ j, K = j + 4 := ⟨K - 4, by omega⟩
    rw [top_at (K + 3) b _ d left ⟨h1, h2⟩ ⟨by omega, h4⟩]
    by_cases hd : d > 64
    · rw [if_pos hd]
      exact ⟨_, rfl, fun h => by omega, fun _ => rfl⟩
    · rw [if_neg hd]
      have hb1 : b = pre ++ (2 :: (dB m ++ (0 :: rest))) := by rw [hb]; simp [dB]
      have hb2 : b = (pre ++ [2]) ++ (dB m ++ (0 :: rest)) := by rw [hb1]; simp
      have hb3 : b = (pre ++ [2] ++ dB m) ++ (0 :: rest) := by rw [hb1]; simp
      have hp2 : (pre ++ [2]).length = pre.length + 1 := by simp
      obtain ⟨r, r1, r2, r3⟩ := ih (d + 1) (left - 1) (pre ++ [2]) (0 :: rest) (K + 3) hb2 (by omega) (by omega) (by omega) (by omega) (by omega)
      rw [hp2] at r1
      obtain ⟨i1, i2⟩ := items1 (f451 (K + 3)) K (pre := pre) ((left - 1 : Nat) : Int) (d + 1) hb1 hl (by omega) r r1
      unfold f452
      by_cases hm : d + ((m + 1 : Nat) : Int) ≤ 64
      · have hr := r2 (by omega)
        have i2 := i2 (by rw [hr])
        rw [hr] at i2
        have i3 := items0 (f451 (K + 3)) (K + 1) (pre := pre ++ [2] ++ dB m) (rest := rest) ((left - 1 - (m + 1) : Nat) : Int) (d + 1) (dL (m + 1)) hb3 hl (by omega)
        rw [i2.trans i3]
        refine ⟨(0, 11, 0, [], dL (m + 1), [], ((left - 1 - (m + 1) : Nat) : Int), (((pre ++ [2] ++ dB m).length + 1 : Nat) : Int), 0), rfl, fun _ => ?_, fun h => by omega⟩
        have e : (pre ++ dB (m + 1)).length = (pre ++ [2] ++ dB m).length + 1 := by simp [dB]; omega
        rw [e, show left - 1 - (m + 1) = left - (m + 1 + 1) by omega]
      · have h5 := r3 (by omega)
        have i1 := i1 (by rw [h5]; decide)
        rw [i1, h5]
        exact ⟨_, rfl, fun h => absurd h hm, fun _ => rfl⟩
theorem decode_deep (m K : Nat) (hm : m ≤ 100) (hK : m + 50 ≤ K) : ∃ r, f449 K sZ (dB m) = some r ∧ (m ≤ 63 → r = (0, 11, 0, [], dL m, [])) ∧ (63 < m → r.1 = 5) := by
  have hlen := dB_len m
  have hl : (dB m).length ≤ 100000000 := by omega
  obtain ⟨r, r1, r2, r3⟩ := value_deep (dB m) hl m 1 10000 [] [] K (by simp) (by omega) (by omega) (by omega) (by omega) (by omega)
  have r1 : f451 K [nZ] (dB m) 0 0 10000 0 1 = some r := r1
  have h30 : f30 K (dB m) = some () := by unfold f30; rw [gdp (by omega)]
  by_cases h : m ≤ 63
  · have hr := r2 (by omega)
    rw [hr, List.nil_append] at r1
    have hw : IntKind.i64.wrap ((((dB m).length : Nat) : Int) - IntKind.i64.wrap ((((dB m).length : Nat) : Int) - (((dB m).length : Nat) : Int))) = (((dB m).length : Nat) : Int) := by
      rw [i64w (n := (((dB m).length : Nat) : Int) - (((dB m).length : Nat) : Int)) (by omega), i64w (by omega)]
      omega
    have t3 : f450 K sZ (dB m) = some ((((dB m).length : Nat) : Int), 0, 11, 0, [], dL m, []) := by
      unfold f450
      rw [h30, Option.bind_some, (show sZ.fNodes = [nZ] from rfl), r1, Option.bind_some]
      dsimp only
      rw [cdn (by decide)]
      unfold f32
      rw [Option.bind_some, hw]
    refine ⟨(0, 11, 0, [], dL m, []), ?_, fun _ => rfl, fun q => by omega⟩
    unfold f449
    show Option.bind (f450 K sZ (dB m)) _ = _
    rw [t3, Option.bind_some]
    dsimp only
    rw [cdn (by decide), cdn (by omega)]
  · have h5 := r3 (by omega)
    have t3 : f450 K sZ (dB m) = some (0, 5, 0, 0, [], [], []) := by
      unfold f450
      rw [h30, Option.bind_some, (show sZ.fNodes = [nZ] from rfl), r1, Option.bind_some, h5, cdp (by decide)]
    refine ⟨(5, 0, 0, [], [], []), ?_, fun q => absurd q h, fun _ => rfl⟩
    unfold f449
    show Option.bind (f450 K sZ (dB m)) _ = _
    rw [t3, Option.bind_some]
    dsimp only
    rw [cdp (by decide)]
theorem encode_deep (m K : Nat) (hm : m ≤ 100) (hK : m + 50 ≤ K) : f460 K sZ (dV m) = some (if m ≤ 63 then (dB m, 0) else ([], 5)) := by
  obtain ⟨z, z1, z2, z3⟩ := walk_deep m K 1 0 (by omega) (by omega) (by omega) (by omega) (by omega)
  have hlen := dB_len m
  have h69 : f469 K (dV m) = some (decide (63 < m)) := by
    unfold f469 f471
    show Option.bind (some ()) (fun _ => Option.bind (Option.bind (f472 K (dV m) 1 false 0) _) _) = _
    rw [Option.bind_some, z1]
    by_cases h : m ≤ 63
    · rw [z2 (by omega), decide_eq_false (by omega)]
      rfl
    · obtain ⟨x, hx⟩ := z3 (by omega)
      rw [hx, decide_eq_true (by omega)]
      rfl
  unfold f460
  show Option.bind (f461 K sZ 0 (dV m)) _ = _
  rw [fits_deep m K (by omega), Option.bind_some]
  show cond false _ (Option.bind (f469 K (dV m)) _) = _
  rw [cond_false, h69, Option.bind_some]
  by_cases h : m ≤ 63
  · rw [cdn (by omega), if_pos h]
    show Option.bind (f474 K [] (dV m)) _ = _
    rw [bytes_deep m K [] (by omega) (by simp; omega) (by omega), List.nil_append, Option.bind_some, cdn (by omega)]
  · rw [cdp (by omega), if_neg h]
theorem same_deep : ∀ (m K : Nat), m + 20 ≤ K → f432 K (dV m) (dV m) = some true
  | 0, K, h => by
    obtain ⟨K, rfl⟩ : ∃ j, K = j + 20 := ⟨K - 20, by omega⟩
    show f432 (K + 20) ⟨11, 0, [], [], []⟩ ⟨11, 0, [], [], []⟩ = some true
    kernel_rfl
  | m + 1, K, h => by
    obtain ⟨K, rfl⟩ : ∃ j, K = j + 3 := ⟨K - 3, by omega⟩
    have ih := same_deep m (K + 2) (by omega)
    have h34 : f434 (K + 2) [] [] = some true := rfl
    have h33 : f433 (f432 (K + 2)) (K + 2) (dL (m + 1)) (dL (m + 1)) = some true := by
      unfold f433
      rw [cdn (by simp), f433_l26]
      show Option.bind (cond (decide ((0 : Int) < 1)) (gd ((0 : Int) ≤ 0 ∧ (0 : Int) < 1) (Option.bind (TValue.dec (rtE (RT.of TValue.ok (dV m)))) _)) _) _ = _
      rw [cdp (by decide), gdp (by decide), TValue.dec_of, Option.bind_some]
      show Option.bind (gd ((0 : Int) ≤ 0 ∧ (0 : Int) < 1) (Option.bind (TValue.dec (rtE (RT.of TValue.ok (dV m)))) _)) _ = _
      rw [gdp (by decide), TValue.dec_of, Option.bind_some]
      show Option.bind (Option.bind (f432 (K + 2) (dV m) (dV m)) _) _ = _
      rw [ih, Option.bind_some]
      show Option.bind (cond false _ (f433_l26 (dL (m + 1)) (dL (m + 1)) (f432 (K + 2)) (K + 1) (IntKind.i64.wrap (0 + 1)))) _ = _
      rw [cond_false, i64w (n := 0 + 1) (by omega), f433_l26]
      rw [cdn (show ¬ (0 : Int) + 1 < (((dL (m + 1)).length : Nat) : Int) by show ¬ (0 : Int) + 1 < 1; decide)]
      rfl
    rw [f432]
    unfold f432_s
    rw [cdp rfl, cdp rfl]
    show Option.bind (some ()) (fun _ => cond (decide (([] : List UInt8) = [])) (Option.bind (f433 (f432 (K + 2)) (K + 2) (dL (m + 1)) (dL (m + 1))) _) _) = _
    rw [Option.bind_some, cdp rfl, h33, Option.bind_some]
    show cond true (Option.bind (f434 (K + 2) [] []) _) _ = _
    rw [cond_true, h34]
    rfl
theorem build_deep (a0 : Int) (n : Nat) (hn : IntKind.i64.wrap (1 + IntKind.i64.wrap (Int.tmod (IntKind.u64.wrap a0) 70)) = (n : Int)) (h : n ≤ 70) : ∀ (r i K : Nat), i + 1 + r = n → r + 2 ≤ K → f464_l38 a0 K (dB i) ((i + 1 : Nat) : Int) (dL i) = some (.b0 (dB (n - 1), dL (n - 1))) := by
  intro r
  induction r with
  | zero =>
    intro i K e hK
    obtain ⟨K, rfl⟩ : ∃ j, K = j + 1 := ⟨K - 1, by omega⟩
    rw [f464_l38, hn, cdn (by omega), show n - 1 = i by omega]
  | succ r ih =>
    intro i K e hK
    obtain ⟨K, rfl⟩ : ∃ j, K = j + 1 := ⟨K - 1, by omega⟩
    have hlen := dB_len i
    rw [f464_l38, hn, cdp (by omega), gdp (by simp; omega), gdp (by simp; omega), i64w (by omega)]
    exact ih (i + 1) K (by omega) (by omega)
theorem awake08d (k : Nat) : f459 (k + 40) = some true := by kernel_rfl
theorem law_CodecDeep (a0 : Int) (w0 : -9223372036854775808 ≤ a0 ∧ a0 ≤ 9223372036854775807) (hb : 1 ≤ 1048576) : ∃ k, f464 k a0 = some true := by
  refine ⟨1000, ?_⟩
  have ha : f459 1000 = some true := awake08d 960
  have hw : 0 ≤ IntKind.u64.wrap a0 := by
    simp only [IntKind.wrap, IntKind.signed, IntKind.bits]
    simp
    omega
  obtain ⟨x, hx, hxl⟩ : ∃ x : Nat, Int.tmod (IntKind.u64.wrap a0) 70 = (x : Int) ∧ x < 70 := by
    have h1 := Int.tmod_eq_emod_of_nonneg (b := 70) hw
    have h2 := Int.emod_nonneg (IntKind.u64.wrap a0) (b := 70) (by omega)
    have h3 := Int.emod_lt_of_pos (IntKind.u64.wrap a0) (b := 70) (by omega)
    exact ⟨(Int.emod (IntKind.u64.wrap a0) 70).toNat, by rw [h1]; exact (Int.toNat_of_nonneg h2).symm, by have := Int.toNat_of_nonneg h2; show Int.toNat (IntKind.u64.wrap a0 % 70) < _; omega⟩
  have hn : IntKind.i64.wrap (1 + IntKind.i64.wrap (Int.tmod (IntKind.u64.wrap a0) 70)) = ((x + 1 : Nat) : Int) := by rw [hx, i64w (n := (x : Int)) (by omega), i64w (by omega)]; omega
  have hl := build_deep a0 (x + 1) hn (by omega) x 0 1000 (by omega) (by omega)
  have hl : f464_l38 a0 1000 [0] 1 [] = some (.b0 (dB x, dL x)) := hl
  unfold f464
  rw [hl, Option.bind_some]
  show f464_j72 1000 a0 (dB x) (dL x) = _
  obtain ⟨r, r1, r2, r3⟩ := decode_deep x 1000 (by omega) (by omega)
  have he := encode_deep x 1000 (by omega) (by omega)
  unfold f464_j72
  show Option.bind (f460 1000 sZ (dV x)) (fun r77 => Option.bind (f449 1000 sZ (dB x)) _) = _
  rw [he, Option.bind_some, r1, Option.bind_some, hn, ha]
  by_cases h : x ≤ 63
  · rw [cdn (by omega), if_pos h, r2 h, Option.bind_some, cond_true]
    show cond (decide ((0 : Int) = 0)) (Option.bind (some ()) fun _ => cond (decide (dB x = dB x)) (cond (decide ((0 : Int) = 0)) (Option.bind (f432 1000 (dV x) (dV x)) _) _) _) _ = _
    rw [cdp rfl, Option.bind_some, cdp rfl, cdp rfl, same_deep x 1000 (by omega)]
    rfl
  · rw [cdp (by omega), if_neg h, Option.bind_some, cond_true]
    show cond (decide ((5 : Int) = 5)) (cond (decide ((0 : Int) = 0)) (some (decide (r.1 = 5))) _) _ = _
    rw [cdp rfl, cdp rfl, decide_eq_true (r3 (by omega))]
end Go.Proofs.Abs
