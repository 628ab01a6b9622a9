/- CodecNulls: an array of nulls has no bytes for them. -/
import Derived.Test.YtlpffigmcnahcaaDoorPC4
set_option linter.unusedSimpArgs false
namespace Go.Proofs.Abs
open Go
set_option linter.unusedVariables false
set_option maxRecDepth 100000
theorem zig_loop : ∀ (n : Nat) (y : List UInt8) (K : Nat), n < 1000000 → y.length + (nb n).length ≤ 1000 → (nb n).length ≤ K → ∃ y' c, f448_l16 K y ((n : Nat) : Int) = some (.b0 (y', ((c : Nat) : Int))) ∧ c < 128 ∧ y' ++ [UInt8.ofNat c] = y ++ nb n := by
  intro n
  induction n using Nat.strongRecOn with
  | ind n ih =>
    intro y K hn hy hK
    obtain ⟨K, rfl, hK'⟩ := succ_of_pos (Nat.lt_of_lt_of_le (nb_pos n) hK)
    rw [f448_l16]
    by_cases c : n < 128
    · rw [cdn (by omega)]
      exact ⟨y, n, rfl, c, by rw [nb_lt c]⟩
    · rw [nb_ge c] at hy hK ⊢
      rw [List.length_cons] at hy hK
      have e1 : Int.tmod (n : Int) 128 = ((n % 128 : Nat) : Int) := by
        rw [Int.tmod_eq_emod_of_nonneg (by omega)]; omega
      have e2 : Int.tdiv (n : Int) 128 = ((n / 128 : Nat) : Int) := by
        rw [Int.tdiv_eq_ediv_of_nonneg (by omega)]; omega
      have e3 : u8 (IntKind.u8.wrap ((((u8 (IntKind.u8.wrap ((n % 128 : Nat) : Int))).toNat : Nat) : Int) + (128 : Int))) = UInt8.ofNat (n % 128 + 128) := by
        rw [u8wN, show n % 128 % 256 = n % 128 by omega, u8i _ (by omega), show ((n % 128 : Nat) : Int) + 128 = ((n % 128 + 128 : Nat) : Int) by omega, u8wN, show (n % 128 + 128) % 256 = n % 128 + 128 by omega, u8N]
      rw [cdp (by omega), e1, e2, e3, gdp (by simp only [List.length_cons, List.length_nil]; omega), i64w (by omega)]
      obtain ⟨y', c', h1, h2, h3⟩ := ih (n / 128) (by omega) (y ++ [UInt8.ofNat (n % 128 + 128)]) K (by omega) (by simp only [List.length_append, List.length_cons, List.length_nil]; omega) (by omega)
      exact ⟨y', c', h1, h2, by rw [h3]; simp⟩
theorem zig_at (n : Nat) (h : n < 400000) (K : Nat) (hK : 20 ≤ K) : f448 K ((n : Nat) : Int) = some (zc ((n : Nat) : Int)) := by
  have hz : zg ((n : Nat) : Int) = 2 * n := by unfold zg; rw [if_pos (by omega)]; omega
  have h10 := nb_len10 (n := 2 * n) (by omega)
  obtain ⟨y', c, h1, h2, h3⟩ := zig_loop (2 * n) [] K (by omega) (by simp; omega) (by omega)
  unfold f448
  rw [i64w (by omega), show (2 : Int) * ((n : Nat) : Int) = ((2 * n : Nat) : Int) by omega, h1, Option.bind_some]
  have hl : y'.length + 1 = (nb (2 * n)).length := by
    have := congrArg List.length h3
    simpa using this
  show gd _ (some (y' ++ [u8 (IntKind.u8.wrap ((c : Nat) : Int))])) = _
  rw [gdp (by simp only [List.length_cons, List.length_nil]; omega), u8wN, u8N, u8mod, h3]
  unfold zc
  rw [hz]
  rfl
def nulls (n : Nat) : Bl := (none, List.replicate n ([], 0))
theorem nulls_len (n : Nat) : (nulls n).2.length = n := by simp [nulls]
theorem nulls_bT (n : Nat) : bT (nulls n) = zc ((n : Nat) : Int) := by
  have : ∀ m, body (List.replicate m (([], 0) : Ix)) = [] := by
    intro m
    induction m with
    | zero => rfl
    | succ m ih => rw [List.replicate_succ]; exact ih
  unfold bT hd nulls
  simp only
  rw [this, List.append_nil, List.length_replicate]
theorem nulls_loop (a0 a1 : Int) (n B : Nat) (hn : IntKind.i64.wrap (Int.tmod (IntKind.u64.wrap a0) 20000) = (n : Int)) (hB : IntKind.i64.wrap (1 + IntKind.i64.wrap (Int.tmod (IntKind.u64.wrap a1) 3)) = (B : Int)) (h1 : 1 ≤ n ∧ n < 20000) (hb : B ≤ 3) :
    ∀ (r i K : Nat) (y : List UInt8), i + r = B → y.length ≤ 10 * i → r + 30 ≤ K → f447_l40 a1 a0 K y ((i : Nat) : Int) = some (.b0 (y ++ (List.replicate r (nulls n)).flatMap bT)) := by
  intro r
  induction r with
  | zero =>
    intro i K y e hy hK
    obtain ⟨K, rfl⟩ : ∃ j, K = j + 1 := ⟨K - 1, by omega⟩
    rw [f447_l40, hB, cdn (by omega)]
    simp
  | succ r ih =>
    intro i K y e hy hK
    obtain ⟨K, rfl⟩ : ∃ j, K = j + 1 := ⟨K - 1, by omega⟩
    have hz := nb_len10 (n := zg ((n : Nat) : Int)) (zg_lt (by omega))
    have hz : (zc ((n : Nat) : Int)).length ≤ 10 := hz
    rw [f447_l40, hB, hn, cdp (by omega), cdp (by omega), zig_at n (by omega) K (by omega), Option.bind_some, gdp (by omega), i64w (by omega)]
    have := ih (i + 1) K (y ++ zc ((n : Nat) : Int)) (by omega) (by rw [List.length_append]; omega) (by omega)
    refine this.trans ?_
    rw [List.replicate_succ, List.flatMap_cons, nulls_bT, List.append_assoc]
theorem none_loop (a0 a1 : Int) (B : Nat) (hn : IntKind.i64.wrap (Int.tmod (IntKind.u64.wrap a0) 20000) = (0 : Int)) (K : Nat) : f447_l40 a1 a0 (K + 1) [] 0 = some (.b0 []) := by
  rw [f447_l40, hn]
  cases decide ((0 : Int) < IntKind.i64.wrap (1 + IntKind.i64.wrap (Int.tmod (IntKind.u64.wrap a1) 3))) with
  | true => rw [cond_true, cdn (by decide)]
  | false => rw [cond_false]
theorem outc_nulls (n : Nat) : ∀ (B left : Nat), outc (List.replicate B (nulls n)) left = if B * n ≤ left then 0 else 5
  | 0, left => by rw [Nat.zero_mul, if_pos (Nat.zero_le _)]; rfl
  | B + 1, left => by
    rw [List.replicate_succ]
    unfold outc
    rw [nulls_len, outc_nulls n B (left - n), Nat.succ_mul]
    have hs : szOk (nulls n) = true := rfl
    rw [hs]
    by_cases h : left < n
    · rw [if_pos h, if_neg (by omega)]
    · rw [if_neg h, if_neg (by simp)]
      by_cases h2 : B * n ≤ left - n
      · rw [if_pos h2, if_pos (by omega)]
      · rw [if_neg h2, if_neg (by omega)]
theorem tot_nulls (n : Nat) : ∀ B, tot (List.replicate B (nulls n)) = B * n
  | 0 => by rw [Nat.zero_mul]; rfl
  | B + 1 => by
    have := tot_nulls n B
    have ht : tot (nulls n :: List.replicate B (nulls n)) = (nulls n).2.length + tot (List.replicate B (nulls n)) := by simp [tot]
    rw [List.replicate_succ, ht, this, nulls_len, Nat.succ_mul]
    omega
theorem vals_len (K : Int) (bs : List Bl) : (vals K bs).length = tot bs := by
  unfold vals tot
  rw [List.length_flatMap]
  simp
theorem awake08 (k : Nat) : f459 (k + 40) = some true := by kernel_rfl
theorem law_CodecNulls (a0 a1 : Int) (w0 : -9223372036854775808 ≤ a0 ∧ a0 ≤ 9223372036854775807) (w1 : -9223372036854775808 ≤ a1 ∧ a1 ≤ 9223372036854775807) (hb : 1 + 1 ≤ 1048576) : ∃ k, f447 k a0 a1 = some true := by
  suffices h : ∀ K, 100000 ≤ K → f447 K a0 a1 = some true from ⟨100000, h _ (Nat.le_refl _)⟩
  intro K hK
  have ha : f459 K = some true := by
    obtain ⟨j, rfl⟩ : ∃ j, K = j + 40 := ⟨K - 40, by omega⟩
    exact awake08 j
  have wu : ∀ a : Int, 0 ≤ IntKind.u64.wrap a := fun a => by
    simp only [IntKind.wrap, IntKind.signed, IntKind.bits]
    simp
    omega
  have tm : ∀ (a : Int) (m : Nat), 0 < m → ∃ x : Nat, Int.tmod (IntKind.u64.wrap a) (m : Int) = (x : Int) ∧ x < m := fun a m hm => by
    have h1 := Int.tmod_eq_emod_of_nonneg (b := (m : Int)) (wu a)
    have h2 := Int.emod_nonneg (IntKind.u64.wrap a) (b := (m : Int)) (by omega)
    have h3 := Int.emod_lt_of_pos (IntKind.u64.wrap a) (b := (m : Int)) (by omega)
    exact ⟨(Int.emod (IntKind.u64.wrap a) (m : Int)).toNat, by rw [h1]; exact (Int.toNat_of_nonneg h2).symm, by have := Int.toNat_of_nonneg h2; show Int.toNat (IntKind.u64.wrap a % (m : Int)) < _; omega⟩
  obtain ⟨n, n1, n2⟩ := tm a0 20000 (by omega)
  obtain ⟨B', B1, B2⟩ := tm a1 3 (by omega)
  have n1 : Int.tmod (IntKind.u64.wrap a0) 20000 = (n : Int) := n1
  have B1 : Int.tmod (IntKind.u64.wrap a1) 3 = (B' : Int) := B1
  have hn : IntKind.i64.wrap (Int.tmod (IntKind.u64.wrap a0) 20000) = (n : Int) := by rw [n1, i64w (by omega)]
  have hB : IntKind.i64.wrap (1 + IntKind.i64.wrap (Int.tmod (IntKind.u64.wrap a1) 3)) = ((B' + 1 : Nat) : Int) := by rw [B1, i64w (n := (B' : Int)) (by omega), i64w (by omega)]; omega
  obtain ⟨B, hBB⟩ : ∃ B, B = B' + 1 := ⟨_, rfl⟩
  rw [← hBB] at hB
  -- the blocks
  have main : ∀ bs : List Bl, (∀ q ∈ bs, q = nulls n ∧ 1 ≤ n) → bs.length ≤ 3 → f447_l40 a1 a0 K [] 0 = some (.b0 (bs.flatMap bT)) → (outc bs 9999 = if tot bs ≤ 9999 then 0 else 5) → tot bs = (if n = 0 then 0 else B * n) → f447 K a0 a1 = some true := by
    intro bs hq hl hloop ho ht
    have hbt : (bs.flatMap bT).length ≤ 10 * bs.length := by
      clear hloop ho ht
      induction bs with
      | nil => simp
      | cons q r ih =>
        have := ih (fun p hp => hq p (List.mem_cons_of_mem _ hp)) (by rw [List.length_cons] at hl; omega)
        have hz : (zc ((n : Nat) : Int)).length ≤ 10 := nb_len10 (n := zg ((n : Nat) : Int)) (zg_lt (by omega))
        rw [List.flatMap_cons, List.length_append, (hq q (List.mem_cons_self ..)).1, nulls_bT, List.length_cons]
        omega
    have htb : tot bs ≤ 60000 := by
      rw [ht]
      by_cases h0 : n = 0
      · rw [if_pos h0]; omega
      · rw [if_neg h0]
        have : B * n ≤ 3 * 20000 := Nat.mul_le_mul (by omega) (by omega)
        omega
    have dec := decode_at 1 bs (bs.flatMap bT ++ [0]) rfl (by rw [List.length_append, List.length_cons, List.length_nil]; omega) (fun q hqq => by
      obtain ⟨e, hn1⟩ := hq q hqq
      rw [e]
      refine ⟨fun x hx => ?_, by rw [nulls_len]; omega, fun m hm => by cases hm⟩
      rw [List.eq_of_mem_replicate hx]
      exact item_null _) K (by omega)
    unfold f447
    rw [hloop, Option.bind_some]
    show f447_j70 K a0 a1 (bs.flatMap bT) = _
    unfold f447_j70
    rw [gdp (by rw [List.length_cons, List.length_nil]; omega)]
    show Option.bind (f449 K (TSchema.mk (ndl 1)) (bs.flatMap bT ++ [0])) _ = _
    rw [dec, Option.bind_some, hn, hB, ho]
    have hw : IntKind.i64.wrap ((B : Int) * (n : Int)) = ((B * n : Nat) : Int) := by
      have : B * n ≤ 3 * 20000 := Nat.mul_le_mul (by omega) (by omega)
      have e : (B : Int) * (n : Int) = ((B * n : Nat) : Int) := by push_cast; rfl
      rw [e, i64w (by omega)]
    rw [hw]
    have jt : ∀ r, r.1 = 5 → f447_j101 K r a0 a1 true = some true := fun r hr => by
      unfold f447_j101
      rw [cond_true, ha, hr]
      rfl
    have jf : ∀ r : Int × Int × Int × (List UInt8) × (List (RT 5)) × (List (List UInt8)), r.1 = 0 → r.2.2.2.2.1.length = tot bs → f447_j101 K r a0 a1 false = some true := fun r hr hrl => by
      unfold f447_j101
      rw [cond_false, ha, Option.bind_some, cond_true, hr, hn, hB, hw, hrl, ht, cdp rfl]
      by_cases h0 : n = 0
      · subst h0
        rw [cdp (by decide), if_pos rfl, cdp (show ((0 : Nat) : Int) = 0 from rfl)]
      · rw [cdn (by omega), if_neg h0, decide_eq_true rfl]
    by_cases h0 : n = 0
    · rw [cdn (by omega)]
      rw [if_pos h0] at ht
      rw [ht, if_pos (by omega)]
      exact jf _ rfl (vals_len 1 bs)
    · rw [cdp (by omega)]
      rw [if_neg h0] at ht
      by_cases hlim : B * n ≥ 10000
      · rw [decide_eq_true (by omega), ht, if_neg (by omega)]
        exact jt _ (if_neg (by omega))
      · rw [decide_eq_false (by omega), ht, if_pos (by omega)]
        exact jf _ rfl (vals_len 1 bs)
  by_cases h0 : n = 0
  · refine main [] (by simp) (by simp) ?_ rfl (by rw [if_pos h0]; rfl)
    obtain ⟨j, rfl⟩ : ∃ j, K = j + 1 := ⟨K - 1, by omega⟩
    exact none_loop a0 a1 B (by rw [hn, h0]; rfl) j
  · have hlp := nulls_loop a0 a1 n B hn hB (by omega) (by omega) B 0 K [] (by omega) (by simp) (by omega)
    refine main (List.replicate B (nulls n)) (fun q hq => ⟨List.eq_of_mem_replicate hq, by omega⟩) (by simp; omega) hlp ?_ (by rw [if_neg h0, tot_nulls])
    rw [outc_nulls, tot_nulls]
end Go.Proofs.Abs
