/- The law SegmentRecords over the Lean functions: the records from a place on. -/
import Derived.Test.YtgimibhacllcpaaPSca
namespace Go.Proofs.Abs
open Go
set_option linter.unusedVariables false
set_option maxRecDepth 10000

theorem u64_nonneg (n : Int) : 0 ≤ IntKind.u64.wrap n := by
  simp only [IntKind.wrap, IntKind.signed, IntKind.bits]
  simp
  omega
theorem awake20 {k : Nat} (hk : 700 < k) : f245 k = some true := by
  have hl : (mkF 3 [120]).1.length = 17 := by decide +kernel
  simp only [f245]
  rw [make_ref (by simp) (by simp; omega)]
  simp only [Option.bind_some]
  rw [scan_lib (by omega) (by omega) (by omega)]
  simp only [Option.bind_some]
  decide +kernel
/-- what is asked for: the records from a place on -/
def fromL (o : Int) (l : List TRec) : List TRec := l.filter fun x => decide (x.fOffset ≥ o)
theorem fromL_cons {o : Int} {x : TRec} {l : List TRec} : fromL o (x :: l) = if x.fOffset ≥ o then x :: fromL o l else fromL o l := by
  unfold fromL
  by_cases h : x.fOffset ≥ o <;> simp [h]
theorem l49 {r : List TRec × Int} {o : Int} (hn : r.1.length ≤ 1048576) : ∀ (rest pre : List TRec) (k : Nat) (acc : List TRec), r.1 = pre ++ rest → rest.length < k → acc.length ≤ pre.length →
    f246_l49 r o k acc ((pre.length : Nat) : Int) = some (.b0 (acc ++ fromL o rest)) := by
  intro rest
  induction rest with
  | nil =>
    intro pre k acc ha hk hacc
    obtain ⟨k, rfl, _⟩ := succ_of_pos hk
    have hl : r.1.length = pre.length := by rw [ha]; simp
    rw [f246_l49, cond_dec, if_neg (by omega)]
    simp [fromL]
  | cons x rest ih =>
    intro pre k acc ha hk hacc
    obtain ⟨k, rfl, hk'⟩ := succ_of_pos hk
    have hrd : rd r.1 ((pre.length : Nat) : Int) = x := by rw [ha]; exact rd_mid
    have hl : r.1.length = pre.length + rest.length + 1 := by rw [ha]; simp; omega
    have hw : IntKind.i64.wrap (((pre.length : Nat) : Int) + 1) = (((pre ++ [x]).length : Nat) : Int) := by
      rw [i64w (by omega)]; simp
    have ih' := fun acc h => ih (pre ++ [x]) k acc (by simp [ha]) (by simp at hk'; omega) h
    rw [f246_l49]
    simp only [cond_dec, hrd, hw]
    rw [if_pos (by omega), gd_pos (by omega), fromL_cons]
    by_cases c : x.fOffset ≥ o
    · rw [if_pos c, if_pos c, gd_pos (by omega), gd_pos (by simp; omega), ih' _ (by simp; omega)]
      simp
    · rw [if_neg c, if_neg c, ih' _ (by simp; omega)]
theorem fromL_append {o : Int} {a b : List TRec} : fromL o (a ++ b) = fromL o a ++ fromL o b := by simp [fromL]
theorem l283 {P : List Tsegment_place} {o : Int} {b : Bool} {n : Nat} (hn : P.length ≤ 1048576) (hN : (fromL o (recsOf P)).length = n) (hd : ∀ x ∈ P, x.fr.fData.length ≤ 1048576) : ∀ (rest pre : List Tsegment_place) (k : Nat), P = pre ++ rest → rest.length < k →
    f283_l7 P o (n : Int) b k ((pre.length : Nat) : Int) ((fromL o (recsOf pre)).map (·.fOffset)) ((fromL o (recsOf pre)).map (·.fData)) = some (.b0 ((fromL o (recsOf P)).map (·.fOffset), (fromL o (recsOf P)).map (·.fData))) := by
  intro rest
  induction rest with
  | nil =>
    intro pre k ha hk
    obtain ⟨k, rfl, _⟩ := succ_of_pos hk
    have hl : P.length = pre.length := by rw [ha]; simp
    rw [f283_l7, cond_dec, if_neg (by omega)]
    have : P = pre := by rw [ha]; simp
    rw [this]
  | cons x rest ih =>
    intro pre k ha hk
    obtain ⟨k, rfl, hk'⟩ := succ_of_pos hk
    have hrd : rd P ((pre.length : Nat) : Int) = x := by rw [ha]; exact rd_mid
    have hl : P.length = pre.length + rest.length + 1 := by rw [ha]; simp; omega
    have hw : IntKind.i64.wrap (((pre.length : Nat) : Int) + 1) = (((pre ++ [x]).length : Nat) : Int) := by
      rw [i64w (by omega)]; simp
    have h1 := ih (pre ++ [x]) k (by simp [ha]) (by simp at hk'; omega)
    have hx := hd x (by rw [ha]; simp)
    have e1 : recsOf (pre ++ [x]) = recsOf pre ++ [x.fr] := by simp [recsOf]
    have e2 : recsOf P = recsOf pre ++ (x.fr :: recsOf rest) := by rw [ha]; simp [recsOf]
    have hpl : (fromL o (recsOf pre)).length ≤ pre.length := by
      have := List.length_filter_le (fun x : TRec => decide (x.fOffset ≥ o)) (recsOf pre)
      simpa [recsOf, fromL] using this
    rw [f283_l7]
    simp only [cond_dec, hrd, hw, b277_11v2, b281_37v2]
    rw [if_pos (by omega), gd_pos (by omega)]
    by_cases c : x.fr.fOffset < o
    · rw [e1, fromL_append, show fromL o [x.fr] = [] by simp [fromL, show ¬ x.fr.fOffset ≥ o by omega], List.append_nil] at h1
      simp only [if_pos c, Option.bind_some]
      exact h1
    · have hN2 : n = (fromL o (recsOf pre)).length + 1 + (fromL o (recsOf rest)).length := by
        rw [← hN, e2, fromL_append, fromL_cons, if_pos (by omega)]
        simp; omega
      rw [e1, fromL_append, show fromL o [x.fr] = [x.fr] by simp [fromL, show x.fr.fOffset ≥ o by omega]] at h1
      simp only [if_neg c]
      rw [gd_pos (by omega), gd_pos (by simp; omega), gd_pos (by simp; omega), if_neg (by simp; omega)]
      simp only [Option.bind_some]
      simpa using h1
theorem seq2 {P : List Tsegment_place} {o : Int} {n : Nat} (hn : P.length ≤ 1048576) (hN : (fromL o (recsOf P)).length = n) (hd : ∀ x ∈ P, x.fr.fData.length ≤ 1048576) {k : Nat} (hk : P.length < k) :
    f281 k P o (n : Int) = some ((fromL o (recsOf P)).map (·.fOffset), (fromL o (recsOf P)).map (·.fData), true) := by
  have h := l283 (b := false) hn hN hd P [] k rfl hk
  simp only [f281, f277, f282, f283, Option.bind_some]
  rw [show f283_l7 P o (n : Int) false k 0 [] [] = _ from h]
  rfl
theorem l283v2 {P : List Tsegment_place} {o : Int} {n : Nat} (hn : P.length ≤ 1048576) (hn1 : 1 ≤ n) (hn2 : n ≤ 1048577) (hd : ∀ x ∈ P, x.fr.fData.length ≤ 1048576) : ∀ (rest pre : List Tsegment_place) (k c : Nat), P = pre ++ rest → rest.length < k → c < n →
    (f283v2_l7 P o (n : Int) k ((pre.length : Nat) : Int) (c : Int)).bind (fun o7 => match o7 with | .b0 x7_1 => some (.inr x7_1) | .r x => some x | _ => none) = some (if c + (fromL o (recsOf rest)).length < n then .inr ((c + (fromL o (recsOf rest)).length : Nat) : Int) else .inl (n : Int)) := by
  intro rest
  induction rest with
  | nil =>
    intro pre k c ha hk hc
    obtain ⟨k, rfl, _⟩ := succ_of_pos hk
    have hl : P.length = pre.length := by rw [ha]; simp
    rw [f283v2_l7, cond_dec, if_neg (by omega)]
    simp [recsOf, fromL, hc]
  | cons x rest ih =>
    intro pre k c ha hk hc
    obtain ⟨k, rfl, hk'⟩ := succ_of_pos hk
    have hrd : rd P ((pre.length : Nat) : Int) = x := by rw [ha]; exact rd_mid
    have hl : P.length = pre.length + rest.length + 1 := by rw [ha]; simp; omega
    have hw : IntKind.i64.wrap (((pre.length : Nat) : Int) + 1) = (((pre ++ [x]).length : Nat) : Int) := by
      rw [i64w (by omega)]; simp
    have h1 := fun c => ih (pre ++ [x]) k c (by simp [ha]) (by simp at hk'; omega)
    have hx := hd x (by rw [ha]; simp)
    have e2 : recsOf (x :: rest) = x.fr :: recsOf rest := by simp [recsOf]
    have ew : IntKind.i64.wrap ((c : Int) + 1) = ((c + 1 : Nat) : Int) := by rw [i64w (by omega)]; omega
    rw [f283v2_l7]
    simp only [cond_dec, hrd, hw, b277_11v3, f285, Option.bind_some, ew]
    rw [if_pos (by omega), gd_pos (by omega), e2, fromL_cons]
    by_cases cc : x.fr.fOffset < o
    · rw [if_neg (show ¬ x.fr.fOffset ≥ o by omega)]
      simp only [if_pos cc, Option.bind_some]
      exact h1 c hc
    · rw [if_pos (show x.fr.fOffset ≥ o by omega)]
      simp only [if_neg cc]
      rw [gd_pos (by omega)]
      by_cases c3 : c + 1 < n
      · have : decide (((c + 1 : Nat) : Int) < (n : Int)) = true := decide_eq_true (by omega)
        simp only [this, Bool.not_true, cond_false, Option.bind_some]
        have h2 := h1 (c + 1) c3
        rw [h2]
        simp only [List.length_cons]
        rw [show c + 1 + (fromL o (recsOf rest)).length = c + ((fromL o (recsOf rest)).length + 1) by omega]
      · have : decide (((c + 1 : Nat) : Int) < (n : Int)) = false := decide_eq_false (by omega)
        simp only [this, Bool.not_false, cond_true, Option.bind_some]
        rw [if_neg (by simp; omega)]
        have : c + 1 = n := by omega
        rw [this]
theorem stops {P : List Tsegment_place} {o : Int} {n : Nat} (hn : P.length ≤ 1048576) (hn1 : 1 ≤ n) (hn2 : n ≤ 1048577) (hd : ∀ x ∈ P, x.fr.fData.length ≤ 1048576) {k : Nat} (hk : P.length < k) :
    f284 k P o (n : Int) = some ((min n (fromL o (recsOf P)).length : Nat) : Int) := by
  have h := l283v2 (o := o) hn hn1 hn2 hd P [] k 0 rfl hk (by omega)
  have h' : f283v2 k o 0 (n : Int) P = some (if 0 + (fromL o (recsOf P)).length < n then .inr ((0 + (fromL o (recsOf P)).length : Nat) : Int) else .inl (n : Int)) := by
    simp only [f283v2]; exact h
  simp only [f284, f277v2, f282, cond_dec, Option.bind_some, h']
  rw [if_neg (by omega)]
  by_cases c : 0 + (fromL o (recsOf P)).length < n
  · rw [if_pos c]
    simp only [Option.bind_some]
    congr 1; omega
  · rw [if_neg c]
    simp only [Option.bind_some]
    congr 1; omega
theorem rd_map {α β : Type} [Inhabited α] [Inhabited β] {f : α → β} {l : List α} {i : Int} (h : 0 ≤ i ∧ i < ((l.length : Nat) : Int)) : rd (l.map f) i = f (rd l i) := by
  have : i.toNat < l.length := by omega
  simp [rd, List.getD, this]
theorem l151 {W : List TRec} (hn : W.length ≤ 1048576) : ∀ (m i k : Nat), m + i = W.length → m < k → f246_l151 W (W.map (·.fOffset), W.map (·.fData), true) k (i : Int) = some (.b0 ()) := by
  intro m
  induction m with
  | zero =>
    intro i k hm hk
    obtain ⟨k, rfl, _⟩ := succ_of_pos hk
    rw [f246_l151, cond_dec, if_neg (by omega)]
  | succ m ih =>
    intro i k hm hk
    obtain ⟨k, rfl, hk'⟩ := succ_of_pos hk
    have hg : 0 ≤ (i : Int) ∧ (i : Int) < ((W.length : Nat) : Int) := by omega
    rw [f246_l151]
    simp only [cond_dec, List.length_map, rd_map hg, f22, Option.bind_some]
    rw [if_pos hg.2, gd_pos hg, gd_pos hg, if_neg (by simp), gd_pos hg, gd_pos hg, i64w (by omega)]
    simp only [decide_true, Bool.not_true, cond_false]
    exact ih (i + 1) k (by omega) (by omega)
theorem l96 {P : List Tsegment_place} {o : Int} {W : List TRec} (hW : fromL o (recsOf P) = W) (hn : P.length ≤ 1048576) (hd : ∀ x ∈ P, x.fr.fData.length ≤ 1048576) {k : Nat} (hk : P.length + 1000 < k) : f246_l96 P o W (k + 3) 0 = some (.b0 ()) := by
  have hWl : W.length ≤ P.length := by
    rw [← hW]
    have := List.length_filter_le (fun x : TRec => decide (x.fOffset ≥ o)) (recsOf P)
    simpa [recsOf, fromL] using this
  have step : ∀ j q, 1000 + P.length < q → (j : Int) < 2 → f246_l96 P o W (q + 1) j = f246_l96 P o W q (IntKind.i64.wrap (j + 1)) := by
    intro j q hq hj
    rw [f246_l96]
    simp only [cond_dec, seq2 hn (by rw [hW]) hd (show P.length < q by omega), awake20 (show 700 < q by omega), hW, Option.bind_some, List.length_map]
    rw [if_pos hj, if_neg (by simp)]
    simp only [Bool.not_true, cond_false]
    rw [show f246_l151 W (W.map (·.fOffset), W.map (·.fData), true) q 0 = _ from l151 (by omega) W.length 0 q rfl (by omega)]
    rfl
  rw [step 0 _ (by omega) (by omega), show IntKind.i64.wrap ((0 : Int) + 1) = 1 from by decide, step 1 _ (by omega) (by omega), show IntKind.i64.wrap ((1 : Int) + 1) = 2 from by decide]
  rw [f246_l96, cond_dec, if_neg (by omega)]
theorem scanS_data : ∀ (m : Nat) (R : List UInt8) (p nx : Int) (x : Tsegment_place), x ∈ (scanS m R p nx).1 → x.fr.fData.length ≤ R.length
  | 0, R, p, nx, x, h => by simp [scanS] at h
  | m + 1, R, p, nx, x, h => by
    unfold scanS at h
    by_cases c1 : (takeF R).2.1 = 0
    · obtain ⟨n, e1, h16, hnR, _, hd, hv⟩ := takeF_ok c1
      have hx : ((takeF R).2.2.2).length ≤ R.length := by rw [hd]; simp; omega
      rw [if_neg (by simp [c1])] at h
      by_cases c2 : (takeF R).2.2.1 = nx
      · rw [if_neg (by simp [c2]), e1] at h
        by_cases c3 : nx = 18446744073709551615
        · rw [if_pos c3] at h
          simp at h; subst h; exact hx
        · rw [if_neg c3, Int.toNat_natCast] at h
          rcases List.mem_cons.1 h with rfl | h
          · exact hx
          · have := scanS_data m _ _ _ x h
            simp at this; omega
      · rw [if_pos c2] at h; simp at h
    · rw [if_pos c1] at h; simp at h
theorem law_SegmentRecords (a0 : (List UInt8)) (a1 : Int) (a2 : Int) (a3 : Int) (w0 : (∀ e0 ∈ a0, True)) (w1 : (0 ≤ a1 ∧ a1 ≤ 18446744073709551615)) (w2 : (0 ≤ a2 ∧ a2 ≤ 18446744073709551615)) (w3 : (-9223372036854775808 ≤ a3 ∧ a3 ≤ 9223372036854775807)) (hb : ((a0.map (fun _ => 1)).sum + 1) + 1 + 1 + 1 ≤ 1048576) : ∃ k, f246 k a0 a1 a2 a3 = some true := by
  have hn := len_sum (sz := fun _ : UInt8 => 1) (fun _ => Nat.le_refl _) a0
  refine ⟨(2 * a0.length + 3000) + 3, ?_⟩
  have hk : ∃ q, q = 2 * a0.length + 3000 := ⟨_, rfl⟩
  obtain ⟨q, hq⟩ := hk
  rw [← hq]
  simp only [f246, awake20 (show 700 < q + 3 by omega), f97, cond_dec, Option.bind_some]
  by_cases c : ((a0.length : Nat) : Int) > 8000
  · rw [if_pos c]
  rw [if_neg c, gd_pos (by omega)]
  have hsl := scanS_len (a0.length + 1) a0 0 a1 (by omega)
  have hsd := scanS_data (a0.length + 1) a0 0 a1
  simp only [f276, places_scan (a := a0) (by omega) w1 (show 2 * a0.length + 500 < q + 3 by omega), scan_ref (a := a0) (by omega) w1 (show 2 * a0.length + 500 < q + 3 by omega), Option.bind_some]
  generalize hS : scanS (a0.length + 1) a0 0 a1 = S at hsl hsd
  have hrl : (recsOf S.1).length = S.1.length := by simp [recsOf]
  rw [show f246_l49 (recsOf S.1, S.2) a2 (q + 3) [] 0 = _ from l49 (r := (recsOf S.1, S.2)) (by rw [hrl]; omega) (recsOf S.1) [] (q + 3) [] rfl (by rw [hrl]; omega) (by simp)]
  simp only [Option.bind_some, List.nil_append, f246_j91]
  have hW : (fromL a2 (recsOf S.1)).length ≤ S.1.length := by
    have := List.length_filter_le (fun x : TRec => decide (x.fOffset ≥ a2)) (recsOf S.1)
    simpa [recsOf, fromL] using this
  have hdd : ∀ x ∈ S.1, x.fr.fData.length ≤ 1048576 := fun x hx => by have := hsd x hx; omega
  rw [l96 (P := S.1) rfl (by omega) hdd (by omega)]
  simp only [Option.bind_some, f246_j209]
  generalize hWW : fromL a2 (recsOf S.1) = W at hW
  have e1 : IntKind.u64.wrap (IntKind.i64.wrap (((W.length : Nat) : Int) + 1)) = ((W.length + 1 : Nat) : Int) := by
    rw [i64w (by omega), u64w (by omega)]; omega
  obtain ⟨u, hu⟩ := Int.eq_ofNat_of_zero_le (u64_nonneg a3)
  have hm : u % (W.length + 1) < W.length + 1 := Nat.mod_lt _ (by omega)
  have e2 : IntKind.i64.wrap ((1 : Int) + IntKind.i64.wrap (Int.tmod (IntKind.u64.wrap a3) ((W.length + 1 : Nat) : Int))) = ((1 + u % (W.length + 1) : Nat) : Int) := by
    rw [hu, show Int.tmod (u : Int) ((W.length + 1 : Nat) : Int) = ((u % (W.length + 1) : Nat) : Int) from rfl]
    rw [i64w (n := ((u % (W.length + 1) : Nat) : Int)) (by omega), i64w (by omega)]; omega
  simp only [e1, e2]
  rw [gd_pos (by omega), stops (P := S.1) (o := a2) (by omega) (by omega) (by omega) hdd (by omega), hWW]
  simp only [Option.bind_some]
  congr 1
  apply decide_eq_true
  omega
end Go.Proofs.Abs
