/- (Without the program's own taking.) Frames are taken from a row of bytes, and scanned: what both readers come to. -/
import Derived.Test.YtgimibhacllcpaaGLfta
import Derived.Test.YtgimibhacllcpaaPFrm
set_option linter.unusedSimpArgs false
namespace Go.Proofs.Abs
open Go
set_option linter.unusedVariables false
set_option maxRecDepth 10000

/-- the number that bytes make, the greatest first -/
def valN : Nat → List UInt8 → Nat
  | v, [] => v
  | v, b :: r => valN (v * 256 + b.toNat) r
theorem or_byte (v : Nat) {b : Nat} (hb : b < 256) : v * 256 ||| b = v * 256 + b := by
  have := Nat.two_pow_add_eq_or_of_lt (i := 8) (b := b) hb v
  rw [show (2 : Nat) ^ 8 = 256 from rfl] at this
  rw [Nat.mul_comm v 256]; exact this.symm
theorem valN_lt : ∀ (r : List UInt8) (v n : Nat), v < 256 ^ n → valN v r < 256 ^ (n + r.length)
  | [], v, n, h => h
  | b :: r, v, n, h => by
    have hb := b.toNat_lt
    have h1 : v * 256 + b.toNat < 256 ^ (n + 1) := by
      rw [Nat.pow_succ]
      have : (v + 1) * 256 ≤ 256 ^ n * 256 := Nat.mul_le_mul_right _ h
      omega
    have := valN_lt r _ _ h1
    rw [List.length_cons, show n + (r.length + 1) = n + 1 + r.length by omega]
    exact this
theorem l275 {a : List UInt8} (hn : a.length ≤ 8) : ∀ (rest pre : List UInt8) (k v : Nat), a = pre ++ rest → rest.length < k → v < 256 ^ pre.length →
    f275_l16 a k (v : Int) ((pre.length : Nat) : Int) = some (.b0 ((valN v rest : Nat) : Int)) := by
  intro rest
  induction rest with
  | nil =>
    intro pre k v ha hk hv
    obtain ⟨k, rfl, _⟩ := succ_of_pos hk
    have hl : a.length = pre.length := by rw [ha]; simp
    rw [f275_l16, cond_dec, if_neg (by omega)]
    rfl
  | cons b rest ih =>
    intro pre k v ha hk hv
    obtain ⟨k, rfl, hk'⟩ := succ_of_pos hk
    have hb := b.toNat_lt
    have hrd : rd a ((pre.length : Nat) : Int) = b := by rw [ha]; exact rd_mid
    have hl : a.length = pre.length + rest.length + 1 := by rw [ha]; simp; omega
    have hw : IntKind.i64.wrap (((pre.length : Nat) : Int) + 1) = (((pre ++ [b]).length : Nat) : Int) := by
      rw [i64w (by omega)]; simp
    have hv1 : v * 256 + b.toNat < 256 ^ (pre.length + 1) := by
      rw [Nat.pow_succ]
      have : (v + 1) * 256 ≤ 256 ^ pre.length * 256 := Nat.mul_le_mul_right _ hv
      omega
    have hv2 : 256 ^ (pre.length + 1) ≤ 256 ^ 8 := Nat.pow_le_pow_right (by decide) (by omega)
    have hv3 : (256 : Nat) ^ 8 = 18446744073709551616 := by decide
    have e1 : bitsA .or .u64 (IntKind.u64.wrap ((v : Int) * 2 ^ (min (8 : Int).toNat IntKind.u64.bits))) (IntKind.u64.wrap ((b.toNat : Nat) : Int)) = ((v * 256 + b.toNat : Nat) : Int) := by
      rw [show (v : Int) * 2 ^ (min (8 : Int).toNat IntKind.u64.bits) = ((v * 256 : Nat) : Int) from by
        rw [show min (8 : Int).toNat IntKind.u64.bits = 8 from rfl]; push_cast; rfl, u64w (by omega), u64w (by omega), or64 (by omega) (by omega), or_byte v hb]
    rw [f275_l16]
    simp only [cond_dec, hrd, hw, e1]
    rw [if_pos (by omega), gd_pos (by omega)]
    exact ih (pre ++ [b]) k _ (by simp [ha]) (by simp at hk'; omega) (by simpa using hv1)
theorem num_take {a : List UInt8} (hn : a.length ≤ 8) {k : Nat} (hk : 8 < k) : f275 k a = some ((valN 0 a : Nat) : Int) := by
  simp only [f275]
  rw [show f275_l16 a k 0 0 = _ from l275 hn a [] k 0 rfl (by omega) (by simp)]
  rfl
theorem l280 {a : List UInt8} (hn : a.length ≤ 8) : ∀ (rest pre : List UInt8) (k v : Nat), a = pre ++ rest → rest.length < k → v < 256 ^ pre.length →
    f280_l14 a k (v : Int) ((pre.length : Nat) : Int) = some (.b0 ((valN v rest : Nat) : Int)) := by
  intro rest
  induction rest with
  | nil =>
    intro pre k v ha hk hv
    obtain ⟨k, rfl, _⟩ := succ_of_pos hk
    have hl : a.length = pre.length := by rw [ha]; simp
    rw [f280_l14, cond_dec, if_neg (by omega)]
    rfl
  | cons b rest ih =>
    intro pre k v ha hk hv
    obtain ⟨k, rfl, hk'⟩ := succ_of_pos hk
    have hb := b.toNat_lt
    have hrd : rd a ((pre.length : Nat) : Int) = b := by rw [ha]; exact rd_mid
    have hl : a.length = pre.length + rest.length + 1 := by rw [ha]; simp; omega
    have hw : IntKind.i64.wrap (((pre.length : Nat) : Int) + 1) = (((pre ++ [b]).length : Nat) : Int) := by
      rw [i64w (by omega)]; simp
    have hv1 : v * 256 + b.toNat < 256 ^ (pre.length + 1) := by
      rw [Nat.pow_succ]
      have : (v + 1) * 256 ≤ 256 ^ pre.length * 256 := Nat.mul_le_mul_right _ hv
      omega
    have hv2 : 256 ^ (pre.length + 1) ≤ 256 ^ 8 := Nat.pow_le_pow_right (by decide) (by omega)
    have hv3 : (256 : Nat) ^ 8 = 18446744073709551616 := by decide
    have e1 : bitsA .or .u64 (IntKind.u64.wrap ((v : Int) * 2 ^ (min (8 : Int).toNat IntKind.u64.bits))) (IntKind.u64.wrap ((b.toNat : Nat) : Int)) = ((v * 256 + b.toNat : Nat) : Int) := by
      rw [show (v : Int) * 2 ^ (min (8 : Int).toNat IntKind.u64.bits) = ((v * 256 : Nat) : Int) from by
        rw [show min (8 : Int).toNat IntKind.u64.bits = 8 from rfl]; push_cast; rfl, u64w (by omega), u64w (by omega), or64 (by omega) (by omega), or_byte v hb]
    rw [f280_l14]
    simp only [cond_dec, hrd, hw, e1]
    rw [if_pos (by omega), gd_pos (by omega)]
    exact ih (pre ++ [b]) k _ (by simp [ha]) (by simp at hk'; omega) (by simpa using hv1)
theorem num_ref {a : List UInt8} (hn : a.length ≤ 8) {k : Nat} (hk : 8 < k) : f280 k a = some ((valN 0 a : Nat) : Int) := by
  simp only [f280]
  rw [show f280_l14 a k 0 0 = _ from l280 hn a [] k 0 rfl (by omega) (by simp)]
  rfl

/-- one frame off the front: length, fault, number, data -/
def takeF (a : List UInt8) : Int × Int × Int × List UInt8 :=
  if a.length < 16 then (0, 3, 0, [])
  else
    let n := valN 0 (a.take 4)
    if 32768 < n then (0, 5, 0, [])
    else if a.length - 16 < n then (0, 3, 0, [])
    else if addC 0 ((a.take (16 + n)).drop 8) ≠ valN 0 ((a.take 8).drop 4) then (0, 4, 0, [])
    else (((16 + n : Nat) : Int), 0, ((valN 0 ((a.take 16).drop 8) : Nat) : Int), (a.take (16 + n)).drop 16)
theorem val4 {x : List UInt8} (h : x.length = 4) : valN 0 x < 4294967296 := by
  have := valN_lt x 0 0 (by decide)
  rw [h] at this
  exact this
theorem take_ref {a : List UInt8} (hn : a.length ≤ 1048576000) {k : Nat} (hk : a.length + 400 < k) : f279 k a = some (takeF a) := by
  simp only [f279, cond_dec]
  unfold takeF
  by_cases c1 : a.length < 16
  · rw [if_pos (by omega), if_pos c1]
  rw [if_neg (by omega), if_neg c1, gd_pos (by omega)]
  have s1 : sl a 0 4 = a.take 4 := by simp [sl]
  have hl4 : (a.take 4).length = 4 := by simp; omega
  have hv := val4 hl4
  rw [s1, num_ref (by omega) (by omega)]
  simp only [Option.bind_some]
  generalize valN 0 (a.take 4) = n at hv
  by_cases c2 : 32768 < n
  · rw [if_pos (by omega), if_pos c2]
  rw [if_neg (by omega), if_neg c2, i64w (n := ((a.length : Nat) : Int) - 16) (by omega), u64w (n := ((a.length : Nat) : Int) - 16) (by omega)]
  by_cases c3 : a.length - 16 < n
  · rw [if_pos (by omega), if_pos c3]
  have e1 : IntKind.i64.wrap (n : Int) = (n : Int) := i64w (by omega)
  have e2 : IntKind.i64.wrap ((16 : Int) + (n : Int)) = ((16 + n : Nat) : Int) := by rw [i64w (by omega)]; omega
  rw [if_neg (by omega), if_neg c3]
  simp only [e1, e2]
  have s2 : sl a 8 ((16 + n : Nat) : Int) = (a.take (16 + n)).drop 8 := by simp only [sl, Int.toNat_natCast]; rfl
  have s3 : sl a 4 8 = (a.take 8).drop 4 := by simp [sl]
  have s4 : sl a 8 16 = (a.take 16).drop 8 := by simp [sl]
  have s5 : sl a 16 ((16 + n : Nat) : Int) = (a.take (16 + n)).drop 16 := by simp only [sl, Int.toNat_natCast]; rfl
  have hl8 : ((a.take 8).drop 4).length = 4 := by simp; omega
  have hl16 : ((a.take 16).drop 8).length = 8 := by simp; omega
  have hlc : ((a.take (16 + n)).drop 8).length = 8 + n := by simp; omega
  have hld : ((a.take (16 + n)).drop 16).length = n := by simp; omega
  have hc : addC 0 ((a.take (16 + n)).drop 8) < 4294967296 := addC_lt (by decide)
  rw [gd_pos (by omega), s2, sum_ref17 (by omega) (by omega)]
  simp only [Option.bind_some]
  rw [gd_pos (by omega), s3, num_ref (by omega) (by omega)]
  simp only [Option.bind_some]
  rw [u64w (n := ((addC 0 ((a.take (16 + n)).drop 8) : Nat) : Int)) (by omega)]
  by_cases c4 : addC 0 ((a.take (16 + n)).drop 8) = valN 0 ((a.take 8).drop 4)
  · rw [if_neg (by rw [c4]; simp), if_neg (by rw [c4]; simp), gd_pos (by omega), s4, num_ref (by omega) (by omega)]
    simp only [Option.bind_some]
    rw [gd_pos (by omega), s5, gd_pos (by omega)]
  · rw [if_pos (fun h => c4 (Int.ofNat_inj.1 h)), if_pos c4]
end Go.Proofs.Abs
