/- The check sum, over numbers: one step for one bit; linear; a table for eight steps. -/
import Derived.Test.YtgimibhacllcpaaGLfta
import Derived.Test.YtgimibhacllcpaaAbsxc
set_option linter.unusedSimpArgs false
namespace Go.Proofs.Abs
open Go
set_option linter.unusedVariables false
set_option maxRecDepth 10000

def stp (c : Nat) : Nat := if c % 2 = 1 then (c / 2) ^^^ 2197175160 else c / 2
def it : Nat → Nat → Nat
  | 0, c => c
  | n + 1, c => it n (stp c)
theorem stp_xor (a b : Nat) : stp (a ^^^ b) = stp a ^^^ stp b := by
  have h1 := xor_half a b
  have h2 := xor_parity a b
  have k : ∀ x p : Nat, x ^^^ p ^^^ p = x := fun x p => by rw [Nat.xor_assoc, Nat.xor_self, Nat.xor_zero]
  unfold stp
  rw [h1, h2]
  rcases Nat.mod_two_eq_zero_or_one a with ha | ha <;> rcases Nat.mod_two_eq_zero_or_one b with hb | hb <;> simp only [ha, hb]
  · rfl
  · simp [Nat.xor_assoc]
  · simp [Nat.xor_assoc, Nat.xor_comm (b / 2)]
  · simp only [Nat.reduceAdd, Nat.reduceMod, if_true]
    rw [if_neg (by decide)]
    rw [Nat.xor_assoc, ← Nat.xor_assoc 2197175160, Nat.xor_comm 2197175160 (b / 2), Nat.xor_assoc (b / 2), Nat.xor_self, Nat.xor_zero]
theorem it_xor : ∀ (n a b : Nat), it n (a ^^^ b) = it n a ^^^ it n b
  | 0, _, _ => rfl
  | n + 1, a, b => by simp only [it]; rw [stp_xor, it_xor n]
theorem it_add : ∀ (m n c : Nat), it (m + n) c = it n (it m c)
  | 0, n, c => by rw [Nat.zero_add]; rfl
  | m + 1, n, c => by rw [show m + 1 + n = (m + n) + 1 by omega]; simp only [it]; exact it_add m n _
theorem it_shl : ∀ (n c : Nat), it n (c * 2 ^ n) = c
  | 0, c => by simp [it]
  | n + 1, c => by
    have h : stp (c * 2 ^ (n + 1)) = c * 2 ^ n := by
      have e : c * 2 ^ (n + 1) = 2 * (c * 2 ^ n) := by rw [Nat.pow_succ]; rw [Nat.mul_comm 2 (c * 2 ^ n), Nat.mul_assoc]
      rw [e, stp, if_neg (by omega)]; omega
    simp only [it]; rw [h]; exact it_shl n c
theorem stp_lt {c : Nat} (h : c < 4294967296) : stp c < 4294967296 := by
  unfold stp
  split
  · exact Nat.xor_lt_two_pow (n := 32) (by omega) (by decide)
  · omega
theorem it_lt : ∀ {n c : Nat}, c < 4294967296 → it n c < 4294967296
  | 0, _, h => h
  | n + 1, c, h => it_lt (n := n) (stp_lt h)
theorem stp_zero {c : Nat} (h : c < 4294967296) (h0 : stp c = 0) : c = 0 := by
  unfold stp at h0
  split at h0
  · have h1 : c / 2 = 2197175160 := by
      have := congrArg (· ^^^ 2197175160) h0
      simpa [Nat.xor_assoc] using this
    omega
  · omega
theorem it_zero : ∀ {n c : Nat}, c < 4294967296 → it n c = 0 → c = 0
  | 0, _, _, h => h
  | n + 1, c, h, h0 => stp_zero h (it_zero (n := n) (stp_lt h) h0)
theorem split8 (x : Nat) : (x % 256) ^^^ (x / 256 * 2 ^ 8) = x := by
  apply Nat.eq_of_testBit_eq
  intro i
  rw [Nat.testBit_xor, show (256 : Nat) = 2 ^ 8 from rfl, Nat.testBit_mod_two_pow, Nat.testBit_mul_two_pow, Nat.testBit_div_two_pow]
  by_cases h : i < 8
  · simp [h, show ¬ 8 ≤ i by omega]
  · simp [h, show 8 ≤ i by omega, Nat.sub_add_cancel (show 8 ≤ i by omega)]
/-- eight steps at once -/
theorem it8 (x : Nat) : it 8 x = (x / 256) ^^^ it 8 (x % 256) := by
  conv => lhs; rw [← split8 x]
  rw [it_xor, it_shl 8, Nat.xor_comm]
theorem xor_div (x : Nat) {b : Nat} (hb : b < 256) : (x ^^^ b) / 256 = x / 256 := by
  have h : (x ^^^ b) >>> 8 = (x >>> 8) ^^^ (b >>> 8) := Nat.shiftRight_xor_distrib ..
  simp only [Nat.shiftRight_eq_div_pow] at h
  rw [show (2 : Nat) ^ 8 = 256 from rfl] at h
  rw [h, Nat.div_eq_of_lt hb, Nat.xor_zero]
theorem xor_mod (x : Nat) {b : Nat} (hb : b < 256) : (x ^^^ b) % 256 = (x % 256) ^^^ b := by
  have := Nat.xor_mod_two_pow (a := x) (b := b) (n := 8)
  rw [show (2 : Nat) ^ 8 = 256 from rfl] at this
  rw [this, Nat.mod_eq_of_lt hb]
def runC (c : Nat) : List UInt8 → Nat
  | [] => c
  | b :: r => runC (it 8 (c ^^^ b.toNat)) r
theorem runC_lt : ∀ {bs : List UInt8} {c : Nat}, c < 4294967296 → runC c bs < 4294967296
  | [], _, h => h
  | b :: r, c, h => runC_lt (bs := r) (it_lt (Nat.xor_lt_two_pow (n := 32) h (by have := b.toNat_lt; omega)))
theorem runC_append : ∀ (a b : List UInt8) (c : Nat), runC c (a ++ b) = runC (runC c a) b
  | [], b, c => rfl
  | x :: a, b, c => runC_append a b _
def addC (c : Nat) (bs : List UInt8) : Nat := runC (c ^^^ 4294967295) bs ^^^ 4294967295
theorem addC_lt {bs : List UInt8} {c : Nat} (h : c < 4294967296) : addC c bs < 4294967296 :=
  Nat.xor_lt_two_pow (n := 32) (runC_lt (Nat.xor_lt_two_pow (n := 32) h (by decide))) (by decide)

/-! ### the table -/
theorem l42 : ∀ (m i k c : Nat), m + i = 8 → m < k → c < 4294967296 → f265_l42 k (c : Int) (i : Int) = some (.b0 ((it m c : Nat) : Int)) := by
  intro m
  induction m with
  | zero =>
    intro i k c hm hk hc
    obtain ⟨k, rfl, _⟩ := succ_of_pos hk
    simp only [f265_l42, cond_dec]
    rw [if_neg (by omega)]
    rfl
  | succ m ih =>
    intro i k c hm hk hc
    obtain ⟨k, rfl, hk'⟩ := succ_of_pos hk
    have h1 := ih (i + 1) k (stp c) (by omega) (by omega) (stp_lt hc)
    have e1 : bitsA .and .u32 (c : Int) 1 = ((c % 2 : Nat) : Int) := by
      rw [← and_one]; exact and32 (b := 1) hc (by decide)
    have e2 : Int.fdiv (c : Int) (2 ^ (min (1 : Int).toNat IntKind.u32.bits)) = ((c / 2 : Nat) : Int) := by
      rw [show min (1 : Int).toNat IntKind.u32.bits = 1 from rfl]; exact fdivN c 1
    have e3 : bitsA .xor .u32 ((c / 2 : Nat) : Int) 2197175160 = ((c / 2 ^^^ 2197175160 : Nat) : Int) := xor32 (b := 2197175160) (by omega) (by decide)
    simp only [f265_l42, cond_dec, e1, e2, e3]
    rw [if_pos (by omega), i64w (by omega)]
    simp only [it]
    rw [← h1]
    unfold stp
    by_cases h : c % 2 = 1
    · rw [if_pos (by omega), if_pos h]; rfl
    · rw [if_neg (by omega), if_neg h]; rfl
theorem l14 : ∀ (m i k : Nat) (L : List Int), m + i = 256 → m + 20 < k → L.length = 256 → (∀ j, j < i → L.getD j 0 = ((it 8 j : Nat) : Int)) →
    ∃ L', f265_l14 k (i : Int) L = some (.b0 L') ∧ L'.length = 256 ∧ ∀ j, j < 256 → L'.getD j 0 = ((it 8 j : Nat) : Int) := by
  intro m
  induction m with
  | zero =>
    intro i k L hm hk hL h
    obtain ⟨k, rfl, _⟩ := succ_of_pos hk
    refine ⟨L, ?_, hL, fun j hj => h j (by omega)⟩
    simp only [f265_l14, cond_dec]
    rw [if_neg (by omega)]
  | succ m ih =>
    intro i k L hm hk hL h
    obtain ⟨k, rfl, hk'⟩ := succ_of_pos hk
    have e1 : IntKind.u32.wrap (i : Int) = ((i : Nat) : Int) := u32w (by omega)
    simp only [f265_l14, cond_dec, e1]
    rw [if_pos (by omega), show f265_l42 k (i : Int) 0 = _ from l42 8 0 k i rfl (by omega) (by omega)]
    simp only [Option.bind_some, f265_j76, Int.toNat_natCast]
    rw [gd_pos (by omega), gd_pos (by omega), i64w (by omega)]
    refine ih (i + 1) k _ (by omega) (by omega) (by simp [hL]) fun j hj => ?_
    rw [List.getD_eq_getElem?_getD, List.getElem?_set]
    by_cases hij : i = j
    · subst hij; rw [if_pos rfl, if_pos (by omega)]; rfl
    · rw [if_neg hij, ← List.getD_eq_getElem?_getD]; exact h j (by omega)
theorem table_ok {k : Nat} (hk : 276 < k) : ∃ L, f265 k = some L ∧ L.length = 256 ∧ ∀ j, j < 256 → L.getD j 0 = ((it 8 j : Nat) : Int) := by
  obtain ⟨L, h1, h2, h3⟩ := l14 256 0 k (List.replicate 256 default) rfl hk (by simp) (fun j hj => by omega)
  refine ⟨L, ?_, h2, h3⟩
  simp only [f265]
  rw [show f265_l14 k 0 _ = _ from h1]
  simp only [Option.bind_some]
  rw [gd_pos (by omega), gd_pos (by simp [h2]), gd_pos (by omega)]

/-! ### crc.Add -/
theorem byte_step {L : List Int} (hT : ∀ j, j < 256 → L.getD j 0 = ((it 8 j : Nat) : Int)) {c : Nat} (hc : c < 4294967296) (b : UInt8) :
    bitsA .xor .u8 (IntKind.u8.wrap (c : Int)) ((b.toNat : Nat) : Int) = (((c ^^^ b.toNat) % 256 : Nat) : Int) ∧
    bitsA .xor .u32 (Int.fdiv (c : Int) (2 ^ (min (8 : Int).toNat IntKind.u32.bits))) (L.getD (bitsA .xor .u8 (IntKind.u8.wrap (c : Int)) ((b.toNat : Nat) : Int)).toNat default) = ((it 8 (c ^^^ b.toNat) : Nat) : Int) := by
  have hb := b.toNat_lt
  have h1 : bitsA .xor .u8 (IntKind.u8.wrap (c : Int)) ((b.toNat : Nat) : Int) = (((c ^^^ b.toNat) % 256 : Nat) : Int) := by
    rw [u8wN, xor8 (by omega) hb, xor_mod _ hb]
  refine ⟨h1, ?_⟩
  rw [h1, Int.toNat_natCast, show (default : Int) = 0 from rfl, hT _ (Nat.mod_lt _ (by decide)), show min (8 : Int).toNat IntKind.u32.bits = 8 from rfl, fdivN,
    xor32 (show c / 2 ^ 8 < 4294967296 by omega) (it_lt (Nat.lt_trans (Nat.mod_lt _ (by decide)) (by decide)))]
  rw [it8 (c ^^^ b.toNat), xor_div _ hb]
theorem l267 {L : List Int} (hL : L.length = 256) (hT : ∀ j, j < 256 → L.getD j 0 = ((it 8 j : Nat) : Int)) {bs : List UInt8} (hn : bs.length ≤ 1048576000) : ∀ (rest pre : List UInt8) (k c : Nat), bs = pre ++ rest → rest.length < k → c < 4294967296 →
    f267_l7 bs L k ((pre.length : Nat) : Int) (c : Int) = some (.b0 ((runC c rest : Nat) : Int)) := by
  intro rest
  induction rest with
  | nil =>
    intro pre k c ha hk hc
    obtain ⟨k, rfl, _⟩ := succ_of_pos hk
    have hl : bs.length = pre.length := by rw [ha]; simp
    rw [f267_l7, cond_dec, if_neg (by omega)]
    rfl
  | cons b rest ih =>
    intro pre k c ha hk hc
    obtain ⟨k, rfl, hk'⟩ := succ_of_pos hk
    have hrd : rd bs ((pre.length : Nat) : Int) = b := by subst ha; exact rd_mid
    have hl : bs.length = pre.length + rest.length + 1 := by subst ha; simp; omega
    have hw : IntKind.i64.wrap (((pre.length : Nat) : Int) + 1) = (((pre ++ [b]).length : Nat) : Int) := by
      rw [i64w (by omega)]; simp
    obtain ⟨h1, h2⟩ := byte_step hT hc b
    have hb := b.toNat_lt
    have hlt : (c ^^^ b.toNat) % 256 < 256 := Nat.mod_lt _ (by decide)
    have hb2 : b264_25 k L (c : Int) b = some () := by
      simp only [b264_25, h1]
      rw [gd_pos (by omega), gd_pos (by rw [Int.toNat_natCast]; omega)]
    simp only [f267_l7, cond_dec, hrd, hw, h2, hb2, Option.bind_some]
    rw [if_pos (by omega), gd_pos (by omega)]
    exact ih (pre ++ [b]) k _ (by simp [ha]) (by simp at hk'; omega) (it_lt (Nat.xor_lt_two_pow (n := 32) hc (by omega)))
theorem add_crc {c : Nat} (hc : c < 4294967296) {bs : List UInt8} (hn : bs.length ≤ 1048576000) {k : Nat} (hk : bs.length + 276 < k) : f264 k (c : Int) bs = some ((addC c bs : Nat) : Int) := by
  obtain ⟨L, h1, h2, h3⟩ := table_ok (k := k) (by omega)
  have e1 : bitsA .xor .u32 (c : Int) 4294967295 = ((c ^^^ 4294967295 : Nat) : Int) := xor32 (b := 4294967295) hc (by decide)
  have hc2 : c ^^^ 4294967295 < 4294967296 := Nat.xor_lt_two_pow (n := 32) hc (by decide)
  simp only [f264, h1, Option.bind_some, f266, e1, f267]
  rw [gd_pos (by simp [h2]), show f267_l7 bs L k 0 _ = _ from l267 h2 h3 hn bs [] k _ rfl (by omega) hc2]
  simp only [Option.bind_some]
  rw [show bitsA .xor .u32 ((runC (c ^^^ 4294967295) bs : Nat) : Int) 4294967295 = _ from xor32 (b := 4294967295) (runC_lt hc2) (by decide)]
  simp only [addC]
theorem sum_crc {bs : List UInt8} (hn : bs.length ≤ 1048576000) {k : Nat} (hk : bs.length + 276 < k) : f263 k bs = some ((addC 0 bs : Nat) : Int) := by
  simp only [f263]
  rw [show f264 k 0 bs = _ from add_crc (c := 0) (by decide) hn hk]
  rfl
/-! ### the reference, bit by bit -/
theorem l35 {bs : List UInt8} {p : Nat} {b : UInt8} (hp : p < bs.length) (hb : rd bs (p : Int) = b) : ∀ (m i k c : Nat), m + i = 8 → m < k → c < 4294967296 → f269_l35 (p : Int) bs k (c : Int) (i : Int) = some (.b0 ((it m (c ^^^ (b.toNat / 2 ^ i)) : Nat) : Int)) := by
  intro m
  induction m with
  | zero =>
    intro i k c hm hk hc
    obtain ⟨k, rfl, _⟩ := succ_of_pos hk
    obtain rfl : i = 8 := by omega
    have := b.toNat_lt
    simp only [f269_l35, cond_dec, it]
    rw [if_neg (by omega), Nat.div_eq_of_lt this, Nat.xor_zero]
  | succ m ih =>
    intro i k c hm hk hc
    obtain ⟨k, rfl, hk'⟩ := succ_of_pos hk
    have hbl := b.toNat_lt
    have hd : b.toNat / 2 ^ i < 256 := Nat.lt_of_le_of_lt (Nat.div_le_self _ _) hbl
    have e0 : IntKind.u64.wrap (i : Int) = (i : Int) := u64w (by omega)
    have e1 : Int.fdiv ((b.toNat : Nat) : Int) (2 ^ (min (i : Int).toNat IntKind.u8.bits)) = ((b.toNat / 2 ^ i : Nat) : Int) := by
      rw [fdivN, Int.toNat_natCast, show min i IntKind.u8.bits = i from Nat.min_eq_left (by simp [IntKind.bits]; omega)]
    have e2 : IntKind.u32.wrap ((b.toNat / 2 ^ i : Nat) : Int) = ((b.toNat / 2 ^ i : Nat) : Int) := by
      generalize b.toNat / 2 ^ i = z at hd; exact u32w (by omega)
    have e3 : bitsA .xor .u32 (c : Int) ((b.toNat / 2 ^ i : Nat) : Int) = ((c ^^^ (b.toNat / 2 ^ i) : Nat) : Int) := xor32 hc (by omega)
    have hx : c ^^^ (b.toNat / 2 ^ i) < 4294967296 := Nat.xor_lt_two_pow (n := 32) hc (by omega)
    have e4 : bitsA .and .u32 ((c ^^^ (b.toNat / 2 ^ i) : Nat) : Int) 1 = (((c ^^^ (b.toNat / 2 ^ i)) % 2 : Nat) : Int) := by
      rw [← and_one]; exact and32 (b := 1) hx (by decide)
    have e5 : Int.fdiv (c : Int) (2 ^ (min (1 : Int).toNat IntKind.u32.bits)) = ((c / 2 : Nat) : Int) := by
      rw [show min (1 : Int).toNat IntKind.u32.bits = 1 from rfl]; exact fdivN c 1
    have e6 : bitsA .xor .u32 ((c / 2 : Nat) : Int) 2197175160 = ((c / 2 ^^^ 2197175160 : Nat) : Int) := xor32 (b := 2197175160) (by omega) (by decide)
    simp only [f269_l35, cond_dec, hb, e0, e1, e2, e3, e4, e5, e6]
    rw [if_pos (by omega), gd_pos (by omega), gd_pos (by omega), i64w (by omega)]
    have hs : (c ^^^ (b.toNat / 2 ^ i)) / 2 = (c / 2) ^^^ (b.toNat / 2 ^ (i + 1)) := by
      rw [show b.toNat / 2 ^ (i + 1) = b.toNat / 2 ^ i / 2 by rw [Nat.pow_succ, Nat.div_div_eq_div_mul]]
      exact xor_half _ _
    simp only [it]
    by_cases h : (c ^^^ (b.toNat / 2 ^ i)) % 2 = 1
    · rw [if_pos (by omega), show f269_l35 (p : Int) bs k ((c / 2 ^^^ 2197175160 : Nat) : Int) ((i : Int) + 1) = _ from ih (i + 1) k _ (by omega) (by omega) (Nat.xor_lt_two_pow (n := 32) (by omega) (by decide))]
      rw [stp, if_pos h, hs, Nat.xor_assoc, Nat.xor_comm 2197175160, ← Nat.xor_assoc]
    · rw [if_neg (by omega), show f269_l35 (p : Int) bs k ((c / 2 : Nat) : Int) ((i : Int) + 1) = _ from ih (i + 1) k _ (by omega) (by omega) (by omega)]
      rw [stp, if_neg h, hs]
theorem l16 {bs : List UInt8} (hn : bs.length ≤ 1048576000) : ∀ (rest pre : List UInt8) (k c : Nat), bs = pre ++ rest → rest.length + 20 < k → c < 4294967296 →
    f269_l16 bs k (c : Int) ((pre.length : Nat) : Int) = some (.b0 ((runC c rest : Nat) : Int)) := by
  intro rest
  induction rest with
  | nil =>
    intro pre k c ha hk hc
    obtain ⟨k, rfl, _⟩ := succ_of_pos hk
    have hl : bs.length = pre.length := by rw [ha]; simp
    rw [f269_l16, cond_dec, if_neg (by omega)]
    rfl
  | cons b rest ih =>
    intro pre k c ha hk hc
    obtain ⟨k, rfl, hk'⟩ := succ_of_pos hk
    have hrd : rd bs ((pre.length : Nat) : Int) = b := by subst ha; exact rd_mid
    have hl : bs.length = pre.length + rest.length + 1 := by subst ha; simp; omega
    have hw : IntKind.i64.wrap (((pre.length : Nat) : Int) + 1) = (((pre ++ [b]).length : Nat) : Int) := by
      rw [i64w (by omega)]; simp
    have hb := b.toNat_lt
    simp only [f269_l16, cond_dec, hw]
    rw [if_pos (by omega), show f269_l35 ((pre.length : Nat) : Int) bs k (c : Int) 0 = _ from l35 (by omega) hrd 8 0 k c rfl (by simp at hk'; omega) hc]
    simp only [Option.bind_some, Nat.pow_zero, Nat.div_one]
    exact ih (pre ++ [b]) k _ (by simp [ha]) (by simp at hk'; omega) (it_lt (Nat.xor_lt_two_pow (n := 32) hc (by omega)))
theorem add_ref17 {c : Nat} (hc : c < 4294967296) {bs : List UInt8} (hn : bs.length ≤ 1048576000) {k : Nat} (hk : bs.length + 20 < k) : f269 k (c : Int) bs = some ((addC c bs : Nat) : Int) := by
  have hc2 : c ^^^ 4294967295 < 4294967296 := Nat.xor_lt_two_pow (n := 32) hc (by decide)
  have e0 : (if IntKind.u32.signed then (-1 : Int) else IntKind.u32.max) = ((4294967295 : Nat) : Int) := by decide
  have e1 : bitsA .xor .u32 ((4294967295 : Nat) : Int) (c : Int) = ((c ^^^ 4294967295 : Nat) : Int) := by rw [xor32 (by decide) hc, Nat.xor_comm]
  simp only [f269, f269_j91, e0, e1]
  rw [show f269_l16 bs k _ 0 = _ from l16 hn bs [] k _ rfl (by omega) hc2]
  simp only [Option.bind_some]
  rw [xor32 (by decide) (runC_lt hc2), Nat.xor_comm]
  rfl
theorem sum_ref17 {bs : List UInt8} (hn : bs.length ≤ 1048576000) {k : Nat} (hk : bs.length + 20 < k) : f268 k bs = some ((addC 0 bs : Nat) : Int) := by
  simp only [f268]
  rw [show f269 k 0 bs = _ from add_ref17 (c := 0) (by decide) hn hk]
  rfl
theorem own21_step {a0 : List UInt8} {x : UInt8} (hn : a0.length ≤ 1048576000) (k j : Nat) (l : List UInt8) (hj : j < 3) (hl : l.length = a0.length + 3) :
    f21_l36 a0 x (k + 1) ((a0.length + j : Nat) : Int) l = f21_l36 a0 x k ((a0.length + (j + 1) : Nat) : Int) (l.set (a0.length + j) x) := by
  have h1 : IntKind.i64.wrap (((a0.length : Nat) : Int) + 3) = ((a0.length + 3 : Nat) : Int) := by rw [i64w (by omega)]; simp
  have h2 : IntKind.i64.wrap (((a0.length + j : Nat) : Int) + 1) = ((a0.length + (j + 1) : Nat) : Int) := by rw [i64w (by omega)]; omega
  simp only [f21_l36, h1, h2, cond_dec, Int.toNat_natCast]
  rw [if_pos (by omega), gd_pos (by omega), gd_pos (by omega)]
theorem own21_done {a0 : List UInt8} {x : UInt8} (hn : a0.length ≤ 1048576000) (k : Nat) (l : List UInt8) : f21_l36 a0 x (k + 1) ((a0.length + 3 : Nat) : Int) l = some (.b0 l) := by
  have h1 : IntKind.i64.wrap (((a0.length : Nat) : Int) + 3) = ((a0.length + 3 : Nat) : Int) := by rw [i64w (by omega)]; simp
  simp only [f21_l36, h1, cond_dec, Int.toNat_natCast]
  rw [if_neg (by omega)]
theorem own21 {a0 : List UInt8} {x : UInt8} (hn : a0.length ≤ 1048576000) {k : Nat} (hk : 3 < k) : f21 k a0 x = some (a0 ++ [x, x, x]) := by
  obtain ⟨k, rfl⟩ : ∃ j, k = j + 4 := ⟨k - 4, by omega⟩
  have h1 : IntKind.i64.wrap (((a0.length : Nat) : Int) + 3) = ((a0.length + 3 : Nat) : Int) := by rw [i64w (by omega)]; simp
  have h2 : List.take (0 : Int).toNat (List.replicate (a0.length + 3) (default : UInt8)) ++ a0 ++ List.drop ((0 : Int).toNat + a0.length) (List.replicate (a0.length + 3) (default : UInt8)) = a0 ++ [default, default, default] := by
    simp only [Int.toNat_zero, List.take_zero, List.nil_append, Nat.zero_add, List.drop_append, List.drop_replicate, Nat.add_sub_cancel_left]; rfl
  simp only [f21, h1, Int.toNat_natCast]
  rw [gd_pos (by omega), gd_pos (by simp), gd_pos (by omega), h2]
  rw [show ((a0.length : Nat) : Int) = ((a0.length + 0 : Nat) : Int) from rfl, own21_step hn _ _ _ (by omega) (by simp), own21_step hn _ _ _ (by omega) (by simp), own21_step hn _ _ _ (by omega) (by simp), own21_done hn]
  simp [gd, List.set_append]

theorem same108_loop {a b : List UInt8} (hl : a.length = b.length) (hn : a.length ≤ 1048576000) : ∀ (rest pre rest' pre' : List UInt8) (k : Nat), a = pre ++ rest → b = pre' ++ rest' → pre.length = pre'.length → rest.length < k →
    f108_l26 a b k ((pre.length : Nat) : Int) = some (cond (decide (rest = rest')) (.b0 ()) (.r false)) := by
  intro rest
  induction rest with
  | nil =>
    intro pre rest' pre' k ha hb hp hk
    obtain ⟨k, rfl, _⟩ := succ_of_pos hk
    have : rest' = [] := by
      subst ha hb; simp at hl; exact List.eq_nil_of_length_eq_zero (by omega)
    subst this
    subst ha
    simp [f108_l26]
  | cons x rest ih =>
    intro pre rest' pre' k ha hb hp hk
    obtain ⟨k, rfl, hk'⟩ := succ_of_pos hk
    cases rest' with
    | nil => subst ha hb; simp at hl; omega
    | cons y rest' =>
      have h1 := ih (pre ++ [x]) rest' (pre' ++ [y]) k (by simp [ha]) (by simp [hb]) (by simp [hp]) (by simp at hk'; omega)
      have hrd : rd a ((pre.length : Nat) : Int) = x := by subst ha; exact rd_mid
      have hrd2 : rd b ((pre.length : Nat) : Int) = y := by rw [hp]; subst hb; exact rd_mid
      have hl1 : a.length = pre.length + rest.length + 1 := by subst ha; simp; omega
      have hw : IntKind.i64.wrap (((pre.length : Nat) : Int) + 1) = (((pre ++ [x]).length : Nat) : Int) := by
        rw [i64w (by omega)]; simp
      simp only [f108_l26, f109, cond_dec, hrd, hrd2, hw, Option.bind_some]
      rw [if_pos (by omega), gd_pos (by omega), gd_pos (by omega), h1]
      by_cases hxy : x = y
      · subst hxy; simp
      · have : (decide (((x.toNat : Nat) : Int) = ((y.toNat : Nat) : Int))) = false := by
          apply Bool.eq_false_iff.2
          intro h
          apply hxy
          exact UInt8.toNat_inj.1 (Int.ofNat_inj.1 (by simpa using h))
        rw [this]; simp [hxy]
theorem same108 {a b : List UInt8} (hn : a.length ≤ 1048576000) {k : Nat} (hk : a.length < k) : f108 k a b = some (decide (a = b)) := by
  by_cases hl : a.length = b.length
  · have := same108_loop hl hn a [] b [] k rfl rfl rfl hk
    simp only [List.length_nil] at this
    simp only [f108]
    rw [show ((0 : Int)) = (((0 : Nat)) : Int) from rfl, this]
    by_cases h : a = b <;> simp [h, hl]
  · have : a ≠ b := fun h => hl (by rw [h])
    simp only [f108, cond_dec]
    rw [if_pos (by omega)]
    simp [this]
theorem plain83 {a b : List UInt8} (hn : a.length ≤ 1048576000) {k : Nat} (hk : a.length < k) : f83 k a b = some (decide (a = b)) := by
  simp only [f83, same108 hn hk, Option.bind_some]

theorem kept29_loop {a : List UInt8} {x : UInt8} (hn : a.length ≤ 1048576000) (k j : Nat) (hj : j < 3) : f29_l44 a (a ++ [x, x, x]) x (k + 1) ((a.length + j : Nat) : Int) = f29_l44 a (a ++ [x, x, x]) x k ((a.length + (j + 1) : Nat) : Int) := by
  have h1 : IntKind.i64.wrap (((a.length : Nat) : Int) + 3) = ((a.length + 3 : Nat) : Int) := by rw [i64w (by omega)]; simp
  have h2 : IntKind.i64.wrap (((a.length + j : Nat) : Int) + 1) = ((a.length + (j + 1) : Nat) : Int) := by rw [i64w (by omega)]; omega
  have h3 : List.take (a.length + 3) (a ++ [x, x, x]) = a ++ [x, x, x] := List.take_of_length_le (by simp)
  have h4 : rd (a ++ [x, x, x]) ((a.length + j : Nat) : Int) = x := by
    simp only [rd, Int.toNat_natCast, List.getD, List.getElem?_append_right (Nat.le_add_right _ _), Nat.add_sub_cancel_left]
    match j, hj with
    | 0, _ => rfl
    | 1, _ => rfl
    | 2, _ => rfl
  simp only [f29_l44, h1, h2, cond_dec, Int.toNat_natCast, h3, h4]
  rw [if_pos (by simp; omega), gd_pos (by simp; omega)]
  simp
theorem kept29_done {a : List UInt8} {x : UInt8} (hn : a.length ≤ 1048576000) (k : Nat) : f29_l44 a (a ++ [x, x, x]) x (k + 1) ((a.length + 3 : Nat) : Int) = some (.b0 ()) := by
  have h1 : IntKind.i64.wrap (((a.length : Nat) : Int) + 3) = ((a.length + 3 : Nat) : Int) := by rw [i64w (by omega)]; simp
  have h3 : List.take (a.length + 3) (a ++ [x, x, x]) = a ++ [x, x, x] := List.take_of_length_le (by simp)
  simp only [f29_l44, h1, cond_dec, Int.toNat_natCast, h3]
  rw [if_neg (by simp)]
theorem kept29 {a : List UInt8} {x : UInt8} (hn : a.length ≤ 1048576000) {k : Nat} (hk : a.length + 4 < k) : f29 k (a ++ [x, x, x]) ((0 : Int).toNat + a.length) a x = some true := by
  obtain ⟨k, rfl⟩ : ∃ j, k = j + 4 := ⟨k - 4, by omega⟩
  have h1 : IntKind.i64.wrap (((a.length : Nat) : Int) + 3) = ((a.length + 3 : Nat) : Int) := by rw [i64w (by omega)]; simp
  have h2 : List.take ((0 : Int).toNat + a.length) (a ++ [x, x, x]) = a := by simp
  simp only [f29, h1, h2, plain83 hn (show a.length < k + 4 by omega), Option.bind_some, cond_dec]
  rw [gd_pos (by simp; omega)]
  rw [show ((a.length : Nat) : Int) = ((a.length + 0 : Nat) : Int) from rfl, kept29_loop hn _ _ (by omega), kept29_loop hn _ _ (by omega), kept29_loop hn _ _ (by omega), kept29_done hn]
  simp

end Go.Proofs.Abs
