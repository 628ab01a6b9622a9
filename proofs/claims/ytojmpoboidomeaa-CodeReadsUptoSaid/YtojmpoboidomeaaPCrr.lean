/- The law CodeReads over the Lean functions. -/
import Derived.Test.YtojmpoboidomeaaGLcreb
import Derived.Test.YtojmpoboidomeaaPRef
import Derived.Test.YtojmpoboidomeaaPHel
set_option linter.unusedSimpArgs false
namespace Go.Proofs.Abs
open Go
set_option linter.unusedVariables false
set_option maxRecDepth 10000
theorem raw_own {b : List UInt8} {p : Nat} {e n : Int} (hb : b.length ≤ 100000000) (hp : p ≤ b.length) (hn : -9223372036854775808 ≤ n ∧ n ≤ 9223372036854775807) {k : Nat} : f41 k b (p : Int) e n = some ((rRaw b p e n).1.length, (rRaw b p e n).1, (((rRaw b p e n).2.1 : Nat) : Int), (rRaw b p e n).2.2) := by
  simp only [f41, f84, Option.bind_some, f32, f85]
  by_cases he : e = 0
  · subst he
    simp only [decide_true, Bool.not_true, cond_false, rRaw, if_true]
    rw [cond_dec]
    by_cases c : n ≤ 0
    · rw [if_pos c, if_pos c]; rfl
    · rw [if_neg c, if_neg c, i64w (n := (b.length : Int) - (p : Int)) (by omega), cond_dec]
      by_cases c2 : (b.length : Int) < (p : Int) + n
      · rw [if_pos (by omega), if_pos c2]; rfl
      · rw [if_neg (by omega), if_neg c2]
        obtain ⟨m, rfl⟩ := Int.eq_ofNat_of_zero_le (show 0 ≤ n by omega)
        rw [i64w (n := (p : Int) + (m : Int)) (by omega), i64w (by omega), show (p : Int) + (m : Int) - (m : Int) = (p : Int) by omega, show (p : Int) + (m : Int) = ((p + m : Nat) : Int) by omega]
        rw [gd_pos (by omega), sl_nat, gd_pos (by have := List.length_take_le m (b.drop p); simp only [List.length_take, List.length_drop]; omega)]
        rfl
  · simp only [he, decide_false, Bool.not_false, cond_true, rRaw, if_false]; rfl
theorem text_own {b : List UInt8} {p : Nat} {e m : Int} (hb : b.length ≤ 100000000) (hp : p ≤ b.length) {k : Nat} (hk : 10 ≤ k) : f31 k b (p : Int) e m = some ((rText b p e m).1.length, (rText b p e m).1, (((rText b p e m).2.1 : Nat) : Int), (rText b p e m).2.2) := by
  simp only [f31, f84, Option.bind_some, f85, zig_read hb hp hk]
  by_cases he : e = 0
  · subst he
    simp only [decide_true, Bool.not_true, cond_false, rText, if_true, cond_dec, rZig]
    cases hr : rdN 0 0 (b.drop p) with
    | inl e' =>
      have he' := rdN_err _ _ _ _ hr
      simp only [rNum, if_true, hr, cond_dec]
      rw [if_pos (by omega)]; rfl
    | inr x =>
      obtain ⟨w, n⟩ := x
      obtain ⟨h0, h1, h2, h3⟩ := rdN_len hr
      simp only [List.length_drop] at h1
      have hw := unz_in h2
      simp only [rNum, if_true, hr, cond_dec]
      rw [if_neg (show ¬ ((0 : Int) ≠ 0) by simp)]
      by_cases c1 : unz w < 0
      · rw [if_pos c1, if_pos c1]; rfl
      · rw [if_neg c1, if_neg c1]
        by_cases c2 : max m 0 < unz w
        · rw [if_pos c2, if_pos c2]; rfl
        · rw [if_neg c2, if_neg c2, raw_own hb (by omega) hw]
          simp only [Option.bind_some, rRaw, if_true]
          by_cases c3 : unz w ≤ 0
          · rw [if_pos c3, if_neg (by simp), if_neg (by omega), show unz w = 0 by omega]
            simp
          · rw [if_neg c3]
            by_cases c4 : ((b.length : Nat) : Int) < ((p + n : Nat) : Int) + unz w
            · rw [if_pos c4, if_pos c4, if_pos (by simp)]
            · rw [if_neg c4, if_neg c4, if_neg (by simp)]
  · simp only [he, decide_false, Bool.not_false, cond_true, rText, if_false, List.length_nil]
theorem raw_rref {b : List UInt8} {p : Nat} {e n : Int} (hb : b.length ≤ 100000000) (hp : p ≤ b.length) (hn : -9223372036854775808 ≤ n ∧ n ≤ 9223372036854775807) {k : Nat} : f49 k b (p : Int) e n = some ((rRaw b p e n).1, (((rRaw b p e n).2.1 : Nat) : Int), (rRaw b p e n).2.2) := by
  rw [f49, cond_dec]
  by_cases he : e = 0
  · subst he
    rw [if_neg (by simp), i64w (n := (b.length : Int) - (p : Int)) (by omega), cond_dec]
    simp only [rRaw, if_true]
    by_cases c : n ≤ 0
    · rw [if_neg (by omega), if_pos c, show max n 0 = 0 by omega, i64w (n := (p : Int) + 0) (by omega), i64w (by omega)]
      rw [show (p : Int) + 0 - 0 = (p : Int) by omega, show (p : Int) + 0 = ((p + 0 : Nat) : Int) by omega, gd_pos (by omega), sl_nat, gd_pos (by simp)]
      simp
    · rw [if_neg c]
      by_cases c2 : (b.length : Int) < (p : Int) + n
      · rw [if_pos (by omega), if_pos c2]
      · rw [if_neg (by omega), if_neg c2]
        obtain ⟨m, rfl⟩ := Int.eq_ofNat_of_zero_le (show 0 ≤ n by omega)
        rw [show max (m : Int) 0 = (m : Int) by omega, i64w (n := (p : Int) + (m : Int)) (by omega), i64w (by omega), show (p : Int) + (m : Int) - (m : Int) = (p : Int) by omega, show (p : Int) + (m : Int) = ((p + m : Nat) : Int) by omega]
        rw [gd_pos (by omega), sl_nat, gd_pos (by have := List.length_take_le m (b.drop p); simp only [List.length_take, List.length_drop]; omega)]
        rfl
  · rw [if_pos he]
    simp only [rRaw, if_neg he]
theorem spoil2_loop {n : Nat} (hn : n ≤ 1048576000) : ∀ (d j k : Nat) (l : List UInt8), j + d = n → n ≤ l.length → d < k → ∃ r : List UInt8, f45v2_l5 n k (j : Int) l = some (.b0 r) := by
  intro d
  induction d with
  | zero =>
    intro j k l hj hl hk
    obtain ⟨k, rfl, _⟩ := succ_of_pos (show 0 < k by omega)
    rw [f45v2_l5, cdn (by omega)]
    exact ⟨_, rfl⟩
  | succ d ih =>
    intro j k l hj hl hk
    obtain ⟨k, rfl, _⟩ := succ_of_pos (show 0 < k by omega)
    rw [f45v2_l5, cdp (by omega), gdp (by omega), gdp (by omega), gdp (by omega), gdp (by omega), i64w (by omega)]
    exact ih (j + 1) k _ (by omega) (by simp; omega) (by omega)
theorem spoil2 {l : List UInt8} {n : Nat} (hn : n ≤ 1048576000) (hl : n ≤ l.length) {k : Nat} (hk : n < k) : ∃ r : List UInt8, f45v2 k l n = some r := by
  obtain ⟨r, h⟩ := spoil2_loop hn n 0 k l (by omega) hl hk
  exact ⟨r, by rw [f45v2, show f45v2_l5 n k 0 l = _ from h]; rfl⟩
theorem spoil1_loop {n : Nat} (hn : n ≤ 1048576000) : ∀ (d j k : Nat) (l : List UInt8), j + d = n → n ≤ l.length → d < k → ∃ r : List UInt8, f45_l5 n k (j : Int) l = some (.b0 r) := by
  intro d
  induction d with
  | zero =>
    intro j k l hj hl hk
    obtain ⟨k, rfl, _⟩ := succ_of_pos (show 0 < k by omega)
    rw [f45_l5, cdn (by omega)]
    exact ⟨_, rfl⟩
  | succ d ih =>
    intro j k l hj hl hk
    obtain ⟨k, rfl, _⟩ := succ_of_pos (show 0 < k by omega)
    rw [f45_l5, cdp (by omega), gdp (by omega), gdp (by omega), gdp (by omega), gdp (by omega), i64w (by omega)]
    exact ih (j + 1) k _ (by omega) (by simp; omega) (by omega)
theorem spoil1 {l : List UInt8} {n m : Nat} (hn : n ≤ 1048576000) (hl : n ≤ l.length) {k : Nat} (hk : n < k) : ∃ r : List UInt8, f45 k l n m = some r := by
  obtain ⟨r, h⟩ := spoil1_loop hn n 0 k l (by omega) hl hk
  exact ⟨r, by rw [f45, show f45_l5 n k 0 l = _ from h]; rfl⟩
theorem rText_len {b : List UInt8} {p : Nat} {e m : Int} : (rText b p e m).1.length ≤ b.length := by
  unfold rText
  repeat' split
  all_goals simp
  omega
theorem rRaw_len {b : List UInt8} {p : Nat} {e m : Int} : (rRaw b p e m).1.length ≤ b.length := by
  unfold rRaw
  repeat' split
  all_goals simp
  omega
theorem awake01r {k : Nat} (hk : 10 ≤ k) : f20 k = some true := by
  rw [f20, text_code (by simp) hk]
  kernel_rfl
theorem j195 {L : Int → Int → Int → Int → Int → Option (LR2 Unit Unit Bool)} {k : Nat} {b r24 : List UInt8} {i : Int} {p : Nat} {e : Int} (hr : List.take ((0 : Int).toNat + b.length) r24 = b) (hb : b.length ≤ 100000000) (hp : p ≤ b.length) :
    f9_j195 L k b r24 i true (p : Int) e (p : Int) e = L (IntKind.i64.wrap (i + 1)) (p : Int) e (p : Int) e := by
  simp only [f9_j195, hr, f32, f50, f42, Option.bind_some, Bool.not_true, cond_false, end_read hb hp, end_rref hp]
  rw [cdn (by simp), cdn (by simp), cdn (by simp)]
theorem l71r {b r24 : List UInt8} {ops : List Tcourantlaw01_Op} (hw : ∀ o ∈ ops, -9223372036854775808 ≤ o.fN ∧ o.fN ≤ 9223372036854775807) (hr : List.take ((0 : Int).toNat + b.length) r24 = b) (hb : b.length ≤ 5000) (hn : ops.length ≤ 1048576) : ∀ (rest pre : List Tcourantlaw01_Op) (k p : Nat) (e : Int), ops = pre ++ rest → p ≤ b.length → rest.length + b.length + 100 < k →
    f9_l71 ops b r24 k ((pre.length : Nat) : Int) (p : Int) e (p : Int) e = some (.b0 ()) := by
  intro rest
  induction rest with
  | nil =>
    intro pre k p e ha hp hk
    obtain ⟨k, rfl, _⟩ := succ_of_pos (show 0 < k by omega)
    have hl : ops.length = pre.length := by rw [ha]; simp
    rw [f9_l71, cdn (by omega)]
  | cons o rest ih =>
    intro pre k p e ha hp hk
    obtain ⟨k, rfl, _⟩ := succ_of_pos (show 0 < k by omega)
    simp only [List.length_cons] at hk
    have hk' : 10 ≤ k := by omega
    have hrd : rd ops ((pre.length : Nat) : Int) = o := by rw [ha]; exact rd_mid
    have hl : ops.length = pre.length + rest.length + 1 := by rw [ha]; simp; omega
    have ho := hw o (by rw [ha]; simp)
    have hi : IntKind.i64.wrap (((pre.length : Nat) : Int) + 1) = (((pre ++ [o]).length : Nat) : Int) := by
      rw [i64w (by omega)]; simp
    have next : ∀ (q : Nat) (e' : Int), q ≤ b.length → f9_j195 (f9_l71 ops b r24 k) k b r24 ((pre.length : Nat) : Int) true (q : Int) e' (q : Int) e' = some (.b0 ()) := by
      intro q e' hq
      rw [j195 hr (by omega) hq, hi]
      exact ih (pre ++ [o]) k q e' (by rw [ha]; simp) hq (by omega)
    rw [f9_l71, cdp (by omega)]
    by_cases c60 : ((pre.length : Nat) : Int) < 60
    · rw [cdp c60, gdp (by omega), hrd, hr]
      by_cases c0 : o.fKind = 0
      · rw [cdp c0, num_read (by omega) hp hk', num_rref (by omega) hp hk']
        simp only [Option.bind_some, decide_true]
        exact next _ _ (rNum_at hp)
      rw [cdn c0]
      by_cases c1 : o.fKind = 1
      · rw [cdp c1, zig_read (by omega) hp hk', zig_rref (by omega) hp hk']
        simp only [Option.bind_some, decide_true]
        exact next _ _ (rZig_at hp)
      rw [cdn c1]
      by_cases c2 : o.fKind = 2
      · have hlen := rText_len (b := b) (p := p) (e := e) (m := o.fN)
        obtain ⟨r, hs⟩ := spoil2 (l := (rText b p e o.fN).1) (n := (rText b p e o.fN).1.length) (by omega) (Nat.le_refl _) (k := k) (by omega)
        rw [cdp c2, text_own (by omega) hp hk', text_rref (by omega) hp hk']
        simp only [Option.bind_some]
        rw [gdp (Nat.le_refl _), List.take_length]
        simp only [f22, Option.bind_some, decide_true, hs]
        exact next _ _ (rText_at hp)
      rw [cdn c2]
      by_cases c3 : o.fKind = 3
      · have hlen := rRaw_len (b := b) (p := p) (e := e) (m := o.fN)
        obtain ⟨r, hs⟩ := spoil2 (l := (rRaw b p e o.fN).1) (n := (rRaw b p e o.fN).1.length) (by omega) (Nat.le_refl _) (k := k) (by omega)
        rw [cdp c3, raw_own (by omega) hp ho, raw_rref (by omega) hp ho]
        simp only [Option.bind_some]
        rw [gdp (Nat.le_refl _), List.take_length]
        simp only [f22, Option.bind_some, decide_true, hs]
        exact next _ _ (rRaw_at hp)
      rw [cdn c3]
      exact next _ _ hp
    · rw [cdn c60]
theorem law_CodeReads (a0 : (List UInt8)) (a1 : (List Tcourantlaw01_Op)) (w0 : (∀ e0 ∈ a0, True)) (w1 : (∀ e0 ∈ a1, Tcourantlaw01_Op.wf e0)) (hb : ((a0.map (fun _ => 1)).sum + 1) + ((a1.map Tcourantlaw01_Op.sz).sum + 1) ≤ 1048576) : ∃ k, f9 k a0 a1 = some true := by
  have h0 := len_sum (sz := fun _ : UInt8 => 1) (fun _ => Nat.le_refl _) a0
  have h1 := len_sum (sz := Tcourantlaw01_Op.sz) (fun x => by simp only [Tcourantlaw01_Op.sz]; omega) a1
  refine ⟨a0.length + a1.length + 200, ?_⟩
  generalize hk : a0.length + a1.length + 200 = k
  have haw := awake01r (show 10 ≤ k by omega)
  rw [f9, haw, cond_dec]
  split
  · rfl
  have e3 : (IntKind.i64.wrap (((a0.length : Nat) : Int) + (3 : Int))).toNat = a0.length + 3 := by rw [i64w (by omega)]; omega
  have ht : List.take ((0 : Int).toNat + a0.length) (a0 ++ [(71 : UInt8), 71, 71]) = a0 := by simp
  have hl3 : (a0 ++ [(71 : UInt8), 71, 71]).length = a0.length + 3 := by simp
  obtain ⟨r, hs⟩ := spoil1 (l := a0 ++ [(71 : UInt8), 71, 71]) (n := (0 : Int).toNat + a0.length) (m := a0.length + 3) (by simp; omega) (by simp) (k := k) (by simp; omega)
  rw [own21 (by omega) (by omega)]
  simp only [Option.bind_some, f30, f44, e3]
  rw [gdp (by rw [hl3]; simp), gdp (by rw [ht]; omega)]
  simp only [Option.bind_some]
  rw [gdp (by omega)]
  simp only [Option.bind_some, Bool.not_true, cond_false]
  rw [gdp (by rw [hl3]; simp), kept29 (by omega) (by omega)]
  simp only [Option.bind_some, Bool.not_true, cond_false, hs]
  rename_i c
  rw [show f9_l71 a1 a0 (a0 ++ [71, 71, 71]) k 0 0 0 0 0 = _ from l71r (fun o ho => (w1 o ho).2.1) ht (by omega) (by omega) a1 [] k 0 0 rfl (by omega) (by omega)]
  rfl
end Go.Proofs.Abs
