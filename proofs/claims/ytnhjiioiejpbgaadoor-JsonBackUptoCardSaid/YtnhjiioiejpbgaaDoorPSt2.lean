/- JsonStrings: signs written as digits of 16 are read. -/
import Derived.Test.YtnhjiioiejpbgaaDoorPSt1
set_option linter.unusedSimpArgs false
namespace Go.Proofs.Abs
open Go
set_option linter.unusedVariables false
set_option maxRecDepth 100000
variable {s R : List UInt8} {n : Int} {c : UInt8}
/-- a digit of 16 -/
def hv (c : UInt8) : Option Nat := if 48 ≤ c.toNat ∧ c.toNat ≤ 57 then some (c.toNat - 48) else if 97 ≤ c.toNat ∧ c.toNat ≤ 102 then some (c.toNat - 87) else if 65 ≤ c.toNat ∧ c.toNat ≤ 70 then some (c.toNat - 55) else none
theorem hv_le {d : Nat} (h : hv c = some d) : d ≤ 15 := by
  unfold hv at h
  split at h
  · cases h; omega
  · split at h
    · cases h; omega
    · split at h
      · cases h; omega
      · cases h
theorem or_i32 (v d : Nat) (hv : v ≤ 4095) (hd : d ≤ 15) : bitsA .or .i32 (IntKind.i32.wrap ((v : Int) * 2 ^ (min ((4 : Int)).toNat IntKind.i32.bits))) (IntKind.i32.wrap (d : Int)) = 16 * (v : Int) + (d : Int) := by
  have e : (v : Int) * 2 ^ (min ((4 : Int)).toNat IntKind.i32.bits) = ((16 * v : Nat) : Int) := by
    show (v : Int) * 2 ^ 4 = _
    omega
  rw [e, i32w (by omega), i32w (by omega)]
  unfold bitsA
  simp only [BitVec.toNat_or, BitVec.toNat_ofInt]
  have h1 : (((16 * v : Nat) : Int) % ((2 ^ IntKind.i32.bits : Nat) : Int)).toNat = 16 * v := by
    show (((16 * v : Nat) : Int) % 4294967296).toNat = _
    omega
  have h2 : ((d : Int) % ((2 ^ IntKind.i32.bits : Nat) : Int)).toNat = d := by
    show ((d : Int) % 4294967296).toNat = _
    omega
  rw [h1, h2]
  have := Nat.two_pow_add_eq_or_of_lt (i := 4) (b := d) (by omega) v
  rw [show 16 * v = 2 ^ 4 * v by omega, ← this, i32w (by omega)]
  omega
theorem dig_v : ∀ x : Fin 256, (48 ≤ x.val ∧ x.val ≤ 57 → (u8 (IntKind.u8.wrap ((x.val : Int) - 48))).toNat = x.val - 48) ∧ (97 ≤ x.val ∧ x.val ≤ 102 → (u8 (IntKind.u8.wrap ((((u8 (IntKind.u8.wrap ((x.val : Int) - 97))).toNat : Nat) : Int) + 10))).toNat = x.val - 87) ∧
    (65 ≤ x.val ∧ x.val ≤ 70 → (u8 (IntKind.u8.wrap ((((u8 (IntKind.u8.wrap ((x.val : Int) - 65))).toNat : Nat) : Int) + 10))).toNat = x.val - 55) := by decide
theorem pstep (K : Nat) (v : Nat) (i : Int) (h : At s n (c :: R)) (hb : s.length ≤ 20000) (hi : 0 ≤ i ∧ i < 4) (hvb : v ≤ 4095) :
    f420_l38 s (K + 1) (v : Int) i n = match hv c with | some d => f420_l38 s K (16 * (v : Int) + (d : Int)) (i + 1) (n + 1) | none => some (.r (0, false, n + 1)) := by
  have hl := h.len
  rw [List.length_cons] at hl
  have hcl := c.toNat_lt
  obtain ⟨d1, d2, d3⟩ := dig_v ⟨c.toNat, hcl⟩
  simp only at d1 d2 d3
  rw [f420_l38, cdp (by omega), gdp (by omega), h.get]
  have key : ∀ b, (b = true ↔ 48 ≤ c.toNat ∧ c.toNat ≤ 57) → f420_j85 (f420_l38 s K) K (v : Int) s n i b = match hv c with | some d => f420_l38 s K (16 * (v : Int) + (d : Int)) (i + 1) (n + 1) | none => some (.r (0, false, n + 1)) := by
    intro b hbq
    unfold f420_j85
    rw [h.get, i64w (n := i + 1) (by omega), i64w (n := n + 1) (by omega)]
    cases b with
    | true =>
      have hq := hbq.1 rfl
      have : hv c = some (c.toNat - 48) := if_pos hq
      rw [this, cond_true, d1 hq, or_i32 v (c.toNat - 48) hvb (by omega)]
    | false =>
      have hq : ¬ (48 ≤ c.toNat ∧ c.toNat ≤ 57) := fun hq => by cases hbq.2 hq
      rw [cond_false]
      have key2 : ∀ b, (b = true ↔ 97 ≤ c.toNat ∧ c.toNat ≤ 102) → f420_j105 (f420_l38 s K) K (v : Int) s n i b = match hv c with | some d => f420_l38 s K (16 * (v : Int) + (d : Int)) (i + 1) (n + 1) | none => some (.r (0, false, n + 1)) := by
        intro b hbq2
        unfold f420_j105
        rw [h.get, i64w (n := i + 1) (by omega), i64w (n := n + 1) (by omega)]
        cases b with
        | true =>
          have hq2 := hbq2.1 rfl
          have : hv c = some (c.toNat - 87) := by unfold hv; rw [if_neg hq, if_pos hq2]
          rw [this, cond_true, d2 hq2, or_i32 v (c.toNat - 87) hvb (by omega)]
        | false =>
          have hq2 : ¬ (97 ≤ c.toNat ∧ c.toNat ≤ 102) := fun hq => by cases hbq2.2 hq
          rw [cond_false]
          have key3 : ∀ b, (b = true ↔ 65 ≤ c.toNat ∧ c.toNat ≤ 70) → f420_j126 (f420_l38 s K) K (v : Int) s n i b = match hv c with | some d => f420_l38 s K (16 * (v : Int) + (d : Int)) (i + 1) (n + 1) | none => some (.r (0, false, n + 1)) := by
            intro b hbq3
            unfold f420_j126
            rw [h.get, i64w (n := i + 1) (by omega), i64w (n := n + 1) (by omega)]
            cases b with
            | true =>
              have hq3 := hbq3.1 rfl
              have : hv c = some (c.toNat - 55) := by unfold hv; rw [if_neg hq, if_neg hq2, if_pos hq3]
              rw [this, cond_true, d3 hq3, or_i32 v (c.toNat - 55) hvb (by omega)]
            | false =>
              have hq3 : ¬ (65 ≤ c.toNat ∧ c.toNat ≤ 70) := fun hq => by cases hbq3.2 hq
              have : hv c = none := by unfold hv; rw [if_neg hq, if_neg hq2, if_neg hq3]
              rw [this, cond_false]
          by_cases h65 : 65 ≤ c.toNat
          · rw [cdp (by omega)]
            exact key3 _ (by simp only [decide_eq_true_eq]; omega)
          · rw [cdn (by omega)]
            exact key3 _ (by simp; omega)
      by_cases h97 : 97 ≤ c.toNat
      · rw [cdp (by omega)]
        exact key2 _ (by simp only [decide_eq_true_eq]; omega)
      · rw [cdn (by omega)]
        exact key2 _ (by simp; omega)
  by_cases h48 : 48 ≤ c.toNat
  · rw [cdp (by omega)]
    exact key _ (by simp only [decide_eq_true_eq]; omega)
  · rw [cdn (by omega)]
    exact key _ (by simp; omega)
theorem cont_fin : ∀ x : Fin 256, u8 (bitsA .or .u8 (128 : Int) (((u8 (bitsA .and .u8 (x.val : Int) (63 : Int))).toNat : Nat) : Int)) = UInt8.ofNat (128 + x.val % 64) := by decide
theorem lead2_fin : ∀ x : Fin 32, u8 (bitsA .or .u8 (192 : Int) (x.val : Int)) = UInt8.ofNat (192 + x.val) := by decide
theorem lead3_fin : ∀ x : Fin 16, u8 (bitsA .or .u8 (224 : Int) (x.val : Int)) = UInt8.ofNat (224 + x.val) := by decide
theorem lead4_fin : ∀ x : Fin 8, u8 (bitsA .or .u8 (240 : Int) (x.val : Int)) = UInt8.ofNat (240 + x.val) := by decide
theorem u8_mod (v : Nat) : (u8 (IntKind.u8.wrap (v : Int))).toNat = v % 256 := by
  have : IntKind.u8.wrap (v : Int) = ((v % 256 : Nat) : Int) := by
    simp only [IntKind.wrap, IntKind.signed, IntKind.bits]
    simp
  rw [this]
  unfold u8
  rw [Int.toNat_natCast]
  simp
theorem shr_nat (v m b : Nat) (k : IntKind) (hk : min ((m : Int)).toNat k.bits = m) (hb : 2 ^ m = b) : Int.fdiv (v : Int) (2 ^ (min ((m : Int)).toNat k.bits)) = ((v / b : Nat) : Int) := by
  rw [hk, show ((2 : Int) ^ m) = ((b : Nat) : Int) by rw [← hb]; simp, Int.fdiv_eq_ediv_of_nonneg _ (by omega)]
  rfl
/-- the bytes of a sign: the library's way and the model's -/
theorem append_enc (K : Nat) (v : Nat) (h : v < 55296 ∨ (57343 < v ∧ v ≤ 1114111)) : f417 K [] (v : Int) = some (encL (v : Int)) := by
  have hval : Utf8.valid (v : Int) = true := by
    simp only [Utf8.valid, Bool.and_eq_true, Bool.or_eq_true, decide_eq_true_eq]
    omega
  have s6 : Int.fdiv (v : Int) (2 ^ (min ((6 : Int)).toNat IntKind.i32.bits)) = ((v / 64 : Nat) : Int) := shr_nat v 6 64 .i32 rfl rfl
  have s12 : Int.fdiv (v : Int) (2 ^ (min ((12 : Int)).toNat IntKind.i32.bits)) = ((v / 4096 : Nat) : Int) := shr_nat v 12 4096 .i32 rfl rfl
  have s18 : Int.fdiv (v : Int) (2 ^ (min ((18 : Int)).toNat IntKind.i32.bits)) = ((v / 262144 : Nat) : Int) := shr_nat v 18 262144 .i32 rfl rfl
  have ct : ∀ w : Nat, u8 (bitsA .or .u8 (128 : Int) (((u8 (bitsA .and .u8 (((u8 (IntKind.u8.wrap (w : Int))).toNat : Nat) : Int) (63 : Int))).toNat : Nat) : Int)) = UInt8.ofNat (128 + w % 64) := by
    intro w
    rw [u8_mod w]
    have := cont_fin ⟨w % 256, by omega⟩
    simp only at this
    rw [this, show w % 256 % 64 = w % 64 by omega]
  unfold encL Utf8.encode
  simp only [hval, if_true, Int.toNat_natCast]
  unfold f417
  rw [u32w (by omega)]
  by_cases h1 : v ≤ 127
  · rw [cdp (by omega), gdp (by show (0 + 1) * 2 * 1 ≤ 281474976710656; decide), if_pos (by omega)]
    have e1 : u8 (IntKind.u8.wrap (v : Int)) = UInt8.ofNat v := by
      apply UInt8.toNat.inj
      rw [u8_mod]
      simp
    rw [e1]
    rfl
  · rw [cdn (by omega), if_neg (by omega)]
    unfold f419
    rw [u32w (by omega), s6]
    by_cases h2 : v ≤ 2047
    · rw [cdp (by omega), gdp (by show (0 + 2) * 2 * 1 ≤ 281474976710656; decide), if_pos (by omega), Option.bind_some, u8_mod (v / 64), ct v]
      have := lead2_fin ⟨v / 64, by omega⟩
      simp only at this
      rw [show v / 64 % 256 = v / 64 by omega, this]
      rfl
    · rw [cdn (by omega), if_neg (by omega)]
      have e3 : v ≤ 65535 → f419_j53 K [] (v : Int) true = some [UInt8.ofNat (224 + v / 4096), UInt8.ofNat (128 + v / 64 % 64), UInt8.ofNat (128 + v % 64)] := by
        intro h3
        unfold f419_j53
        rw [cond_true, gdp (by show (0 + 3) * 2 * 1 ≤ 281474976710656; decide), s6, s12, u8_mod (v / 4096), ct v, ct (v / 64)]
        have := lead3_fin ⟨v / 4096, by omega⟩
        simp only at this
        rw [show v / 4096 % 256 = v / 4096 by omega, this]
        rfl
      by_cases h3 : v < 55296
      · rw [cdp (by omega), decide_eq_true (by omega), e3 (by omega), if_pos (by omega)]
        rfl
      · rw [cdn (by omega), cdp (by omega)]
        by_cases h4 : v ≤ 65535
        · rw [decide_eq_true (by omega), e3 h4, if_pos (by omega)]
          rfl
        · rw [decide_eq_false (by omega), if_neg (by omega)]
          unfold f419_j53
          rw [cond_false, u32w (by omega), cdp (by omega), decide_eq_true (by omega)]
          unfold f419_j85
          rw [cond_true, gdp (by show (0 + 4) * 2 * 1 ≤ 281474976710656; decide), s6, s12, s18, u8_mod (v / 262144), ct v, ct (v / 64), ct (v / 4096)]
          have := lead4_fin ⟨v / 262144, by omega⟩
          simp only at this
          rw [show v / 262144 % 256 = v / 262144 by omega, this]
          rfl
abbrev hexM : List UInt8 := [48, 49, 50, 51, 52, 53, 54, 55, 56, 57, 97, 66, 99, 68, 101, 70]
def hm (d : Nat) : UInt8 := hexM.getD d 0
def hd4 (v : Nat) : List UInt8 := [92, 117, hm (v / 4096 % 16), hm (v / 256 % 16), hm (v / 16 % 16), hm (v % 16)]
def hexR (v : Nat) : List UInt8 := if v < 65536 then hd4 v else hd4 (55296 + (v - 65536) / 1024) ++ hd4 (56320 + (v - 65536) % 1024)
def hexT (rs : List Int) : List UInt8 := rs.flatMap fun r => hexR r.toNat
theorem enc_len (v : Int) : (encL v).length ≤ 4 := by
  unfold encL Utf8.encode
  simp only
  repeat' split
  all_goals simp
end Go.Proofs.Abs
