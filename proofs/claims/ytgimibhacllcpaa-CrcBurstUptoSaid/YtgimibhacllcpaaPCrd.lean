/- The laws CrcLinear and CrcBurst over the Lean functions: the sum is linear, and no short burst is lost. -/
import Derived.Test.YtgimibhacllcpaaPCrc
namespace Go.Proofs.Abs
open Go
set_option linter.unusedVariables false
set_option maxRecDepth 10000

theorem l267v2 {L : List Int} (hL : L.length = 256) (hT : ∀ j, j < 256 → L.getD j 0 = ((it 8 j : Nat) : Int)) {bs : List UInt8} (hn : bs.length ≤ 1048576000) : ∀ (rest pre : List UInt8) (k c : Nat), bs = pre ++ rest → rest.length < k → c < 4294967296 →
    f267v2_l7 bs.length bs L k ((pre.length : Nat) : Int) (c : Int) = some (.b0 ((runC c rest : Nat) : Int)) := by
  intro rest
  induction rest with
  | nil =>
    intro pre k c ha hk hc
    obtain ⟨k, rfl, _⟩ := succ_of_pos hk
    have hl : bs.length = pre.length := by rw [ha]; simp
    rw [f267v2_l7, cond_dec, if_neg (by omega)]
    rfl
  | cons b rest ih =>
    intro pre k c ha hk hc
    obtain ⟨k, rfl, hk'⟩ := succ_of_pos hk
    have hrd : List.getD bs ((pre.length : Nat) : Int).toNat default = b := by subst ha; simp
    have hl : bs.length = pre.length + rest.length + 1 := by subst ha; simp; omega
    have hw : IntKind.i64.wrap (((pre.length : Nat) : Int) + 1) = (((pre ++ [b]).length : Nat) : Int) := by
      rw [i64w (by omega)]; simp
    obtain ⟨h1, h2⟩ := byte_step hT hc b
    have hb := b.toNat_lt
    have hlt : (c ^^^ b.toNat) % 256 < 256 := Nat.mod_lt _ (by decide)
    have hb2 : b264_25 k L (c : Int) b = some () := by
      simp only [b264_25, h1]
      rw [gd_pos (by omega), gd_pos (by rw [Int.toNat_natCast]; omega)]
    simp only [f267v2_l7, cond_dec, hrd, hw, h2, hb2, Option.bind_some]
    rw [if_pos (by omega), gd_pos (by omega), gd_pos (by omega)]
    exact ih (pre ++ [b]) k _ (by simp [ha]) (by simp at hk'; omega) (it_lt (Nat.xor_lt_two_pow (n := 32) hc (by omega)))
theorem sum_crc2 {bs : List UInt8} (hn : bs.length ≤ 1048576000) {n k : Nat} (hnb : bs.length = n) (hk : bs.length + 276 < k) : f263v2 k bs n = some ((addC 0 bs : Nat) : Int) := by
  subst hnb
  obtain ⟨L, h1, h2, h3⟩ := table_ok (k := k) (by omega)
  have e1 : bitsA .xor .u32 0 4294967295 = ((0 ^^^ 4294967295 : Nat) : Int) := xor32 (a := 0) (b := 4294967295) (by decide) (by decide)
  have hc2 : 0 ^^^ 4294967295 < 4294967296 := by decide
  simp only [f263v2, f264v2, h1, Option.bind_some, f266v2, e1, f267v2]
  rw [gd_pos (by simp [h2]), show f267v2_l7 bs.length bs L k 0 _ = _ from l267v2 h2 h3 hn bs [] k _ rfl (by omega) hc2]
  simp only [Option.bind_some]
  rw [show bitsA .xor .u32 ((runC (0 ^^^ 4294967295) bs : Nat) : Int) 4294967295 = _ from xor32 (b := 4294967295) (runC_lt hc2) (by decide)]
  rfl

def x3 : List UInt8 → List UInt8 → List UInt8 → List UInt8
  | a :: A, b :: B, c :: C => (a ^^^ b ^^^ c) :: x3 A B C
  | _, _, _ => []
theorem x3_len : ∀ (A B C : List UInt8), A.length ≤ B.length → A.length ≤ C.length → (x3 A B C).length = A.length
  | [], B, C, _, _ => by unfold x3; rfl
  | a :: A, [], C, h, _ => by simp at h
  | a :: A, b :: B, [], _, h => by simp at h
  | a :: A, b :: B, c :: C, h1, h2 => by
    simp only [x3, List.length_cons] at *
    rw [x3_len A B C (by omega) (by omega)]
theorem l29 {a0 a1 a2 : List UInt8} {n : Nat} (hm : min (min ((a0.length : Nat) : Int) ((a1.length : Nat) : Int)) ((a2.length : Nat) : Int) = (n : Int)) (hn : n ≤ 1048576000) (hsl : (sl a0 0 (n : Int)).length = n) : ∀ (rest D B1 B2 C1 C2 : List UInt8) (k : Nat), a1 = B1 ++ B2 → a2 = C1 ++ C2 → D.length = B1.length → D.length = C1.length → D.length + rest.length = n → rest.length < k →
    f220_l29 a0 a1 a2 k ((D.length : Nat) : Int) (D ++ rest) = some (.b0 (D ++ x3 rest B2 C2)) := by
  have hn1 : n ≤ a1.length ∧ n ≤ a2.length := by omega
  intro rest
  induction rest with
  | nil =>
    intro D B1 B2 C1 C2 k h1 h2 hB hC hD hk
    obtain ⟨k, rfl, _⟩ := succ_of_pos hk
    simp only [List.length_nil, Nat.add_zero] at hD
    rw [f220_l29, cond_dec, hm, if_neg (by omega)]
    unfold x3; rfl
  | cons a rest ih =>
    intro D B1 B2 C1 C2 k h1 h2 hB hC hD hk
    obtain ⟨k, rfl, hk'⟩ := succ_of_pos hk
    simp only [List.length_cons] at hD hk'
    cases B2 with
    | nil => subst h1; simp at hn1; omega
    | cons b B2 =>
    cases C2 with
    | nil => subst h2; simp at hn1; omega
    | cons c C2 =>
    have r1 : rd a1 ((D.length : Nat) : Int) = b := by rw [hB, h1]; exact rd_mid
    have r2 : rd a2 ((D.length : Nat) : Int) = c := by rw [hC, h2]; exact rd_mid
    have r0 : List.getD (D ++ a :: rest) D.length default = a := by simp
    have ha := a.toNat_lt
    have hb := b.toNat_lt
    have hc := c.toNat_lt
    have e1 : u8 (bitsA .xor .u8 (bitsA .xor .u8 ((a.toNat : Nat) : Int) ((b.toNat : Nat) : Int)) ((c.toNat : Nat) : Int)) = a ^^^ b ^^^ c := by
      rw [xor8 ha hb, xor8 (Nat.xor_lt_two_pow (n := 8) ha hb) hc]
      simp only [u8, Int.toNat_natCast]
      apply UInt8.toNat_inj.1
      rw [UInt8.toNat_ofNat', UInt8.toNat_xor, UInt8.toNat_xor]
      exact Nat.mod_eq_of_lt (Nat.xor_lt_two_pow (n := 8) (Nat.xor_lt_two_pow (n := 8) ha hb) hc)
    have e2 : List.set (D ++ a :: rest) D.length (a ^^^ b ^^^ c) = (D ++ [a ^^^ b ^^^ c]) ++ rest := by simp
    have hw : IntKind.i64.wrap (((D.length : Nat) : Int) + 1) = (((D ++ [a ^^^ b ^^^ c]).length : Nat) : Int) := by
      rw [i64w (by omega)]; simp
    have hl1 : a1.length = B1.length + B2.length + 1 := by rw [h1]; simp; omega
    have hl2 : a2.length = C1.length + C2.length + 1 := by rw [h2]; simp; omega
    rw [f220_l29]
    simp only [hm, hsl, cond_dec, r1, r2, Int.toNat_natCast, r0, e1, e2, hw]
    rw [if_pos (by omega), gd_pos (by omega), gd_pos (by simp), gd_pos (by omega), gd_pos (by omega), gd_pos (by omega), gd_pos (by simp),
      ih (D ++ [a ^^^ b ^^^ c]) (B1 ++ [b]) B2 (C1 ++ [c]) C2 k (by simp [h1]) (by simp [h2]) (by simp [hB]) (by simp [hC]) (by simp; omega) (by omega)]
    simp [x3]
theorem runC3 : ∀ (A B C : List UInt8) (x y z : Nat), A.length = B.length → A.length = C.length → runC (x ^^^ y ^^^ z) (x3 A B C) = runC x A ^^^ runC y B ^^^ runC z C
  | [], [], [], x, y, z, _, _ => by unfold x3; rfl
  | a :: A, b :: B, c :: C, x, y, z, h1, h2 => by
    simp only [List.length_cons] at h1 h2
    have e : x ^^^ y ^^^ z ^^^ (a ^^^ b ^^^ c).toNat = (x ^^^ a.toNat) ^^^ (y ^^^ b.toNat) ^^^ (z ^^^ c.toNat) := by
      rw [UInt8.toNat_xor, UInt8.toNat_xor]
      apply Nat.eq_of_testBit_eq
      intro i
      simp only [Nat.testBit_xor]
      cases x.testBit i <;> cases y.testBit i <;> cases z.testBit i <;> cases a.toNat.testBit i <;> cases b.toNat.testBit i <;> cases c.toNat.testBit i <;> rfl
    show runC (it 8 (x ^^^ y ^^^ z ^^^ (a ^^^ b ^^^ c).toNat)) (x3 A B C) = _
    rw [e, it_xor, it_xor, runC3 A B C _ _ _ (by omega) (by omega)]
    rfl
  | [], _ :: _, _, _, _, _, h, _ => by simp at h
  | [], [], _ :: _, _, _, _, _, h => by simp at h
  | _ :: _, [], _, _, _, _, h, _ => by simp at h
  | _ :: _, _ :: _, [], _, _, _, _, h => by simp at h
theorem x3_take : ∀ (A B C : List UInt8), A.length ≤ B.length → A.length ≤ C.length → x3 A B C = x3 A (B.take A.length) (C.take A.length)
  | [], B, C, _, _ => by unfold x3; rfl
  | a :: A, [], C, h, _ => by simp at h
  | a :: A, b :: B, [], _, h => by simp at h
  | a :: A, b :: B, c :: C, h1, h2 => by
    simp only [x3, List.length_cons, List.take_succ_cons] at *
    rw [← x3_take A B C (by omega) (by omega)]
theorem law_CrcLinear (a0 : (List UInt8)) (a1 : (List UInt8)) (a2 : (List UInt8)) (w0 : (∀ e0 ∈ a0, True)) (w1 : (∀ e0 ∈ a1, True)) (w2 : (∀ e0 ∈ a2, True)) (hb : ((a0.map (fun _ => 1)).sum + 1) + ((a1.map (fun _ => 1)).sum + 1) + ((a2.map (fun _ => 1)).sum + 1) ≤ 1048576) : ∃ k, f220 k a0 a1 a2 = some true := by
  have hn0 := len_sum (sz := fun _ : UInt8 => 1) (fun _ => Nat.le_refl _) a0
  have hn1 := len_sum (sz := fun _ : UInt8 => 1) (fun _ => Nat.le_refl _) a1
  have hn2 := len_sum (sz := fun _ : UInt8 => 1) (fun _ => Nat.le_refl _) a2
  obtain ⟨n, hm⟩ : ∃ n : Nat, min (min ((a0.length : Nat) : Int) ((a1.length : Nat) : Int)) ((a2.length : Nat) : Int) = (n : Int) := ⟨min (min a0.length a1.length) a2.length, by omega⟩
  have hle : n ≤ a0.length ∧ n ≤ a1.length ∧ n ≤ a2.length := by omega
  have hs : ∀ x : List UInt8, sl x 0 (n : Int) = x.take n := fun x => by simp [sl]
  have ht0 : (a0.take n).length = n := by simp; omega
  have ht1 : (a1.take n).length = n := by simp; omega
  have ht2 : (a2.take n).length = n := by simp; omega
  have hx := x3_len (a0.take n) a1 a2 (by omega) (by omega)
  refine ⟨n + 400, ?_⟩
  have hloop := l29 hm (by omega) (by rw [hs, ht0]) (a0.take n) [] [] a1 [] a2 (n + 400) rfl rfl rfl rfl (by simpa using ht0) (by omega)
  simp only [List.length_nil, List.nil_append] at hloop
  simp only [f220, f97v2, hm, hs]
  rw [gd_pos (by omega), gd_pos (by omega)]
  simp only [Option.bind_some]
  rw [show f220_l29 a0 a1 a2 (n + 400) 0 _ = _ from hloop]
  simp only [Option.bind_some, f220_j68, hm, hs, awake17 (show 300 < n + 400 by omega), cond_true]
  rw [sum_crc2 (by omega) (by omega) (by omega)]
  simp only [Option.bind_some]
  rw [gd_pos (by omega), sum_crc (by omega) (by omega)]
  simp only [Option.bind_some]
  rw [gd_pos (by omega), sum_crc (by omega) (by omega)]
  simp only [Option.bind_some]
  rw [gd_pos (by omega), sum_crc (by omega) (by omega)]
  simp only [Option.bind_some]
  have hl : ∀ x : List UInt8, addC 0 x < 4294967296 := fun x => addC_lt (by decide)
  rw [xor32 (hl _) (hl _), xor32 (Nat.xor_lt_two_pow (n := 32) (hl _) (hl _)) (hl _)]
  have e : addC 0 (x3 (a0.take n) a1 a2) = addC 0 (a0.take n) ^^^ addC 0 (a1.take n) ^^^ addC 0 (a2.take n) := by
    rw [x3_take _ _ _ (by omega) (by omega), ht0]
    have := runC3 (a0.take n) (a1.take n) (a2.take n) (0 ^^^ 4294967295) (0 ^^^ 4294967295) (0 ^^^ 4294967295) (by omega) (by omega)
    rw [show (0 ^^^ 4294967295) ^^^ (0 ^^^ 4294967295) ^^^ (0 ^^^ 4294967295) = 0 ^^^ 4294967295 from by decide] at this
    simp only [addC]
    rw [this]
    generalize runC (0 ^^^ 4294967295) (a0.take n) = x
    generalize runC (0 ^^^ 4294967295) (a1.take n) = y
    generalize runC (0 ^^^ 4294967295) (a2.take n) = z
    apply Nat.eq_of_testBit_eq
    intro i
    simp only [Nat.testBit_xor]
    cases x.testBit i <;> cases y.testBit i <;> cases z.testBit i <;> cases (4294967295 : Nat).testBit i <;> rfl
  rw [e]
  simp
end Go.Proofs.Abs
