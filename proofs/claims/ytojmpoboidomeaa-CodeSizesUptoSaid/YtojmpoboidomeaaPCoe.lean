/- The laws of chapter 01 on what is written and read back, and on sizes. -/
import Derived.Test.YtojmpoboidomeaaPReb
set_option linter.unusedSimpArgs false
namespace Go.Proofs.Abs
open Go
set_option linter.unusedVariables false
set_option maxRecDepth 10000
theorem awake01 {k : Nat} (hk : 10 ≤ k) : f20 k = some true := by
  rw [f20, text_code (by simp) hk]
  kernel_rfl
theorem rEnd_all (b : List UInt8) : rEnd b b.length 0 = 0 := by simp [rEnd]
theorem law_CodeBack (a0 : Int) (a1 : Int) (a2 : (List UInt8)) (a3 : (List UInt8)) (w0 : (0 ≤ a0 ∧ a0 ≤ 18446744073709551615)) (w1 : (-9223372036854775808 ≤ a1 ∧ a1 ≤ 9223372036854775807)) (w2 : (∀ e0 ∈ a2, True)) (w3 : (∀ e0 ∈ a3, True)) (hb : 1 + 1 + ((a2.map (fun _ => 1)).sum + 1) + ((a3.map (fun _ => 1)).sum + 1) ≤ 1048576) : ∃ k, f10 k a0 a1 a2 a3 = some true := by
  have h1 := len_sum (sz := fun _ : UInt8 => 1) (fun _ => Nat.le_refl _) a2
  have h2 := len_sum (sz := fun _ : UInt8 => 1) (fun _ => Nat.le_refl _) a3
  refine ⟨100, ?_⟩
  have hk : 10 ≤ 100 := by omega
  have l1 := nb_len' w0
  have l2 := nb_len10 (zg_lt w1)
  have l3 := tb_len (t := a2) (by omega)
  simp only [f10, awake01 hk, Option.bind_some, num_code' w0 hk, zig_code w1 hk, text_code (t := a2) (by omega) hk]
  rw [cond_dec]
  split
  · rfl
  rw [cond_dec]
  split
  · rfl
  rw [gdp (by omega), gdp (by omega), gdp (by simp only [List.length_append]; omega)]
  generalize hB : nb a0.toNat ++ nb (zg a1) ++ tb a2 = B
  have lB : B.length ≤ 2000000 := by rw [← hB]; simp only [List.length_append]; omega
  have e1 : rNum B 0 0 = (a0.toNat, (nb a0.toNat).length, 0) := rNum_put (pre := []) (rest := nb (zg a1) ++ tb a2) (by simp [← hB]) (by omega)
  have e2 := rZig_put (b := B) (pre := nb a0.toNat) (a := a1) (rest := tb a2) (by simp [← hB]) w1
  have e3 := rText_put (b := B) (pre := nb a0.toNat ++ nb (zg a1)) (t := a2) (rest := []) (m := ((a2.length : Nat) : Int)) (by simp [← hB]) (by omega) (by omega)
  rw [hB] at e3
  have p1 : (nb a0.toNat).length ≤ B.length := by rw [← hB]; simp only [List.length_append]; omega
  have p2 : (nb a0.toNat ++ nb (zg a1)).length ≤ B.length := by rw [← hB]; simp only [List.length_append]; omega
  simp only [new_read (b := B) (by omega), Option.bind_some, Bool.not_true, cond_false]
  rw [show f39 100 B 0 0 = _ from num_read (p := 0) (e := 0) (by omega) (by omega) hk, e1]
  simp only [Option.bind_some]
  rw [cdn (by omega), zig_read (by omega) p1 hk, e2]
  simp only [Option.bind_some]
  rw [cdn (by omega), text_read (by omega) p2 hk, e3]
  simp only [Option.bind_some, f22, decide_true, Bool.not_true, cond_false]
  rw [end_read (by omega) (by omega), rEnd_all]
  simp only [Option.bind_some, f32, f42]
  rw [cdn (by simp), new_read (b := a3) (by omega), Option.bind_some]
  rw [show f40 100 a3 0 0 = _ from zig_read (p := 0) (e := 0) (by omega) (by omega) hk]
  simp only [Option.bind_some]
  cases hr : rdN 0 0 a3 with
  | inl e =>
    have he := rdN_err _ _ _ _ hr
    have e4 : rZig a3 0 0 = (0, 0, e) := by
      simp only [rZig, rNum, if_true, List.drop_zero, hr]
      rfl
    rw [e4]
    rw [cdp (show e ≠ 0 by omega)]
  | inr x =>
    obtain ⟨w, n⟩ := x
    obtain ⟨q0, q1, q2, q3⟩ := rdN_len hr
    have e4 : rZig a3 0 0 = (unz w, n, 0) := by
      simp only [rZig, rNum, if_true, List.drop_zero, hr, Nat.zero_add]
    rw [e4]
    simp only []
    have e5 : IntKind.i64.wrap (((a3.length : Nat) : Int) - IntKind.i64.wrap (((a3.length : Nat) : Int) - (n : Int))) = (n : Int) := by
      rw [i64w (n := ((a3.length : Nat) : Int) - (n : Int)) (by omega), i64w (by omega)]; omega
    have e6 : sl a3 0 (n : Int) = nb w := by rw [q3]; simp [sl]
    rw [cdn (by simp), e5, cdp (by omega), cdp (by omega), zig_code (unz_in q2) hk, zg_unz, Option.bind_some, gdp (by omega), e6]
    simp
/-! ## Sizes -/
theorem l4a : ∀ (m k : Nat) (l : Int), m < 18446744073709551616 → (nb m).length ≤ k → 0 ≤ l ∧ l + ((nb m).length : Nat) ≤ 1000 → (nb m).length ≤ 100 →
    f4_l13 (k + 1) (l + 1) (Int.fdiv (m : Int) (2 ^ (min ((7 : Int)).toNat IntKind.u64.bits))) = some (.b0 (l + ((nb m).length : Nat))) := by
  intro m
  induction m using Nat.strongRecOn with
  | ind m ih =>
    intro k l hm hk hl hx
    have e : Int.fdiv (m : Int) (2 ^ (min ((7 : Int)).toNat IntKind.u64.bits)) = ((m / 128 : Nat) : Int) := fdivN m 7
    rw [f4_l13, e, cond_dec]
    by_cases c : m < 128
    · rw [if_neg (by omega), nb_lt c]
      simp
    · rw [if_pos (by omega)]
      rw [nb_ge c] at hk hx hl ⊢
      simp only [List.length_cons] at hk hx hl ⊢
      obtain ⟨k, rfl, _⟩ := succ_of_pos (show 0 < k by omega)
      have := ih (m / 128) (by omega) k (l + 1) (by omega) (by omega) (by omega) (by omega)
      rw [i64w (by omega), this]
      congr 2
      omega
theorem l4b {L : List (List UInt8)} (hn : L.length ≤ 1048576) (hs : (L.map List.length).sum ≤ 1048576) : ∀ (rest pre : List (List UInt8)) (k : Nat) (acc : List UInt8), L = pre ++ rest → rest.length + 100 < k → acc.length ≤ 2000 * pre.length →
    f4_l105 L k acc ((pre.length : Nat) : Int) = some (.b0 (acc ++ (rest.map tb).flatten)) ∧ (∀ x ∈ rest, x.length ≤ 500) ∨ f4_l105 L k acc ((pre.length : Nat) : Int) = some (.r true) := by
  intro rest
  induction rest with
  | nil =>
    intro pre k acc ha hk hacc
    obtain ⟨k, rfl, _⟩ := succ_of_pos (show 0 < k by omega)
    have hl : L.length = pre.length := by rw [ha]; simp
    rw [f4_l105, cond_dec, if_neg (by omega)]
    exact .inl (by simp)
  | cons x rest ih =>
    intro pre k acc ha hk hacc
    obtain ⟨k, rfl, hk'⟩ := succ_of_pos (show 0 < k by omega)
    simp only [List.length_cons] at hk
    have hrd : rd L ((pre.length : Nat) : Int) = x := by rw [ha]; exact rd_mid
    have hl : L.length = pre.length + rest.length + 1 := by rw [ha]; simp; omega
    have hx : x.length ≤ 1048576 := by
      have : (L.map List.length).sum = (pre.map List.length).sum + (x.length + (rest.map List.length).sum) := by rw [ha]; simp
      omega
    have hz := nb_len10 (zg_lt (a := (x.length : Int)) (by omega))
    have hw : IntKind.i64.wrap (((pre.length : Nat) : Int) + 1) = (((pre ++ [x]).length : Nat) : Int) := by
      rw [i64w (by omega)]; simp
    rw [f4_l105, cond_dec, if_pos (by omega), gdp (by omega), hrd, cond_dec]
    by_cases c : ((x.length : Nat) : Int) > 500
    · rw [if_pos c]; exact .inr rfl
    · have ht : (tb x).length = (nb (zg x.length)).length + x.length := by simp [tb]
      rw [if_neg c, gdp (by omega), text_code (t := x) (by omega) (show 10 ≤ k by omega), Option.bind_some, gdp (by omega), zig_code (by omega) (show 10 ≤ k by omega), Option.bind_some, gdp (by omega), cdn (by rw [i64w (by omega)]; omega), gdp (by omega), hw]
      have := ih (pre ++ [x]) k (acc ++ tb x) (by rw [ha]; simp) (by omega) (by simp only [List.length_append, List.length_cons, List.length_nil]; omega)
      rcases this with ⟨h, h2⟩ | h
      · left
        refine ⟨by rw [h]; simp, ?_⟩
        intro y hy
        rcases List.mem_cons.1 hy with rfl | hy
        · omega
        · exact h2 y hy
      · exact .inr h
theorem l4c {L : List (List UInt8)} {B : List UInt8} (hn : L.length ≤ 1048576) (hB : B.length ≤ 100000000) : ∀ (rest pre : List (List UInt8)) (k : Nat) (done : List UInt8), L = pre ++ rest → B = done ++ (rest.map tb).flatten → rest.length + 100 < k → (∀ x ∈ rest, x.length ≤ 500) →
    f4_l195 L B k ((pre.length : Nat) : Int) ((done.length : Nat) : Int) 0 = some (.b0 (((B.length : Nat) : Int), 0)) := by
  intro rest
  induction rest with
  | nil =>
    intro pre k done ha hb hk hx
    obtain ⟨k, rfl, _⟩ := succ_of_pos (show 0 < k by omega)
    have hl : L.length = pre.length := by rw [ha]; simp
    have hd : B = done := by simpa using hb
    rw [f4_l195, cond_dec, if_neg (by omega), hd]
  | cons x rest ih =>
    intro pre k done ha hb hk hx
    obtain ⟨k, rfl, hk'⟩ := succ_of_pos (show 0 < k by omega)
    simp only [List.length_cons] at hk
    have hrd : rd L ((pre.length : Nat) : Int) = x := by rw [ha]; exact rd_mid
    have hl : L.length = pre.length + rest.length + 1 := by rw [ha]; simp; omega
    have hw : IntKind.i64.wrap (((pre.length : Nat) : Int) + 1) = (((pre ++ [x]).length : Nat) : Int) := by
      rw [i64w (by omega)]; simp
    have hxl := hx x (List.mem_cons_self ..)
    have e := rText_put (b := B) (pre := done) (t := x) (rest := (rest.map tb).flatten) (m := 500) (by rw [hb]; simp) (by omega) (by omega)
    have hdl : done.length ≤ B.length := by rw [hb]; simp
    rw [f4_l195, cond_dec, if_pos (by omega), text_read hB hdl (show 10 ≤ k by omega), e, Option.bind_some, gdp (by omega), hrd, hw]
    simp only [f22, Option.bind_some, decide_true, Bool.not_true, cond_false]
    exact ih (pre ++ [x]) k (done ++ tb x) (by rw [ha]; simp) (by rw [hb]; simp) (by omega) (fun y hy => hx y (List.mem_cons_of_mem _ hy))
theorem double_eq {a : Int} (h : -9223372036854775808 ≤ a ∧ a ≤ 9223372036854775807) (c : a < 0) : IntKind.u64.wrap ((IntKind.u64.wrap ((IntKind.u64.wrap (IntKind.i64.wrap (0 - (IntKind.i64.wrap (a + (1 : Int)))))) * 2 ^ (min ((1 : Int)).toNat IntKind.u64.bits))) + (1 : Int)) = ((zg a : Nat) : Int) := by
  rw [show (2 ^ (min ((1 : Int)).toNat IntKind.u64.bits) : Int) = 2 from rfl]
  rw [i64w (n := a + 1) (by omega), i64w (by omega), u64w (n := 0 - (a + 1)) (by omega), u64w (n := (0 - (a + 1)) * 2) (by omega), u64w (by omega), zg, if_neg (by omega)]; omega
theorem double_eq' {a : Int} (h : -9223372036854775808 ≤ a ∧ a ≤ 9223372036854775807) (c : ¬ a < 0) : IntKind.u64.wrap ((IntKind.u64.wrap a) * 2 ^ (min ((1 : Int)).toNat IntKind.u64.bits)) = ((zg a : Nat) : Int) := by
  rw [show (2 ^ (min ((1 : Int)).toNat IntKind.u64.bits) : Int) = 2 from rfl]
  rw [u64w (n := a) (by omega), u64w (by omega), zg, if_pos (by omega)]; omega
theorem law_CodeSizes (a0 : Int) (a1 : Int) (a2 : (List (List UInt8))) (w0 : (0 ≤ a0 ∧ a0 ≤ 18446744073709551615)) (w1 : (-9223372036854775808 ≤ a1 ∧ a1 ≤ 9223372036854775807)) (w2 : (∀ e0 ∈ a2, (∀ e1 ∈ e0, True))) (hb : 1 + 1 + ((a2.map (fun x => ((x.map (fun _ => 1)).sum + 1))).sum + 1) ≤ 1048576) : ∃ k, f4 k a0 a1 a2 = some true := by
  have hs : (a2.map List.length).sum + a2.length ≤ (a2.map (fun x => ((x.map (fun _ => 1)).sum + 1))).sum := by
    clear hb w2
    induction a2 with
    | nil => simp
    | cons x r ih =>
      have h1 := len_sum (sz := fun _ : UInt8 => 1) (fun _ => Nat.le_refl _) x
      simp only [List.map_cons, List.sum_cons, List.length_cons]
      omega
  refine ⟨a2.length + 200, ?_⟩
  generalize hk0 : a2.length + 200 = k
  have hk : 10 ≤ k := by omega
  obtain ⟨n, rfl⟩ := Int.eq_ofNat_of_zero_le w0.1
  have hn : n < 18446744073709551616 := by omega
  have l1 := nb_len10 hn
  have hj83 : ∀ (k : Nat), a2.length + 150 < k → a2.length ≤ 20 → f4_j83 k a2 false = some true := by
    intro k hk h20
    rw [f4_j83, cond_false]
    rcases l4b (L := a2) (by omega) (by omega) a2 [] k [] rfl (by omega) (by simp) with ⟨h, h2⟩ | h
    · rw [show f4_l105 a2 k [] 0 = _ from h]
      simp only [Option.bind_some, List.nil_append, f4_j184]
      generalize hB : (a2.map tb).flatten = B
      have lB : B.length ≤ 100000000 := by
        have : ∀ (l : List (List UInt8)), (∀ x ∈ l, x.length ≤ 500) → (l.map tb).flatten.length ≤ 510 * l.length := by
          intro l
          induction l with
          | nil => simp
          | cons x l ih =>
            intro h
            have h1 := h x (List.mem_cons_self ..)
            have h2 := ih (fun y hy => h y (List.mem_cons_of_mem _ hy))
            have h3 := tb_len (t := x) (by omega)
            simp only [List.map_cons, List.flatten_cons, List.length_append, List.length_cons]
            omega
        have := this a2 h2
        rw [hB] at this
        omega
      have h3 := l4c (L := a2) (B := B) (by omega) lB a2 [] k [] rfl (by rw [← hB]; rfl) (by omega) h2
      rw [new_read lB, Option.bind_some, show f4_l195 a2 B k 0 0 0 = _ from h3]
      simp only [Option.bind_some, f4_j233, f32]
      rw [i64w (by omega)]
      simp
    · rw [show f4_l105 a2 k [] 0 = _ from h]
      rfl
  have h57 : f4_j57 k a2 (n : Int) (((nb n).length : Nat) : Int) a1 ((zg a1 : Nat) : Int) = some true := by
    simp only [f4_j57, awake01 hk, Option.bind_some, Bool.not_true, cond_false, num_code hn hk, zig_code w1 hk, num_code (zg_lt w1) hk, f22, decide_true]
    rw [cdn (by simp)]
    by_cases c : ((a2.length : Nat) : Int) > 20
    · rw [decide_eq_true c, f4_j83, cond_true, awake01 hk, Option.bind_some, cond_true, decide_eq_true c]
    · rw [decide_eq_false c]
      exact hj83 k (by omega) (by omega)
  obtain ⟨j, rfl⟩ : ∃ j, k = j + 1 := ⟨k - 1, by omega⟩
  have h4 := l4a n j 0 hn (by omega) (by omega) (by omega)
  rw [f4, show f4_l13 (j + 1) 1 _ = _ from h4]
  simp only [Option.bind_some]
  rw [cond_dec, Int.zero_add]
  split
  · rename_i c; rw [double_eq w1 c]; exact h57
  · rename_i c; rw [double_eq' w1 c]; exact h57
end Go.Proofs.Abs
