/- JsonBack: signs of a text, whatever it is. -/
import Derived.Test.YtnhjiioiejpbgaaDoorPSt2
set_option linter.unusedSimpArgs false
namespace Go.Proofs.Abs
open Go
set_option linter.unusedVariables false
set_option maxRecDepth 100000
set_option maxHeartbeats 4000000
variable {s R : List UInt8} {n : Int} {c : UInt8}
theorem rune_any (l t : List UInt8) (b : UInt8) (h0 : l = b :: t) (hb : 128 ≤ b.toNat) (hbad : ¬ ((Lib.decodeL l).1 = 65533 ∧ (Lib.decodeL l).2 = 1)) :
    ∃ (x rest : List UInt8) (r : Nat), l = x ++ rest ∧ 2 ≤ x.length ∧ x.length ≤ 4 ∧ (∀ c ∈ x, 128 ≤ c.toNat) ∧ Lib.decodeL l = (r, x.length) ∧ 128 ≤ r ∧ r ≤ 1114111 ∧ ∀ Y, Lib.decodeL (x ++ Y) = (r, x.length) := by
  have hne : l ≠ [] := by rw [h0]; simp
  have hbl := b.toNat_lt
  have hd := Lib.decodeL_N l
  have g0 : l.getD 0 0 = b := by rw [h0]; rfl
  rw [g0] at hd
  unfold Lib.decodeN at hd
  rw [if_neg (by omega)] at hd
  by_cases c2 : b.toNat / 32 = 6 ∧ (1 < l.length ∧ (l.getD 1 0).toNat / 64 = 2)
  · rw [if_pos c2] at hd
    split at hd
    · rename_i hq
      match l, h0, c2, hq, hd with
      | _ :: b1 :: t', h0, c2, hq, hd =>
        cases h0
        have hb1 := b1.toNat_lt
        simp only [List.getD_cons_succ, List.getD_cons_zero] at c2 hq hd
        refine ⟨[b, b1], t', b.toNat % 32 * 64 + b1.toNat % 64, rfl, by simp, by simp, ?_, hd, hq, by omega, fun Y => ?_⟩
        · intro c hc
          simp only [List.mem_cons, List.not_mem_nil, or_false] at hc
          rcases hc with rfl | rfl
          · exact hb
          · omega
        · rw [Lib.decodeL_N]
          unfold Lib.decodeN
          simp only [List.cons_append, List.nil_append, List.getD_cons_succ, List.getD_cons_zero, List.length_cons, List.length_nil]
          rw [if_neg (by omega), if_pos ⟨c2.1, by omega, c2.2.2⟩, if_pos hq]
    · rw [hd] at hbad
      exact absurd ⟨rfl, rfl⟩ hbad
  rw [if_neg c2] at hd
  by_cases c3 : b.toNat / 16 = 14 ∧ (1 < l.length ∧ (l.getD 1 0).toNat / 64 = 2) ∧ (2 < l.length ∧ (l.getD 2 0).toNat / 64 = 2)
  · rw [if_pos c3] at hd
    split at hd
    · rename_i hq
      match l, h0, c3, hq, hd with
      | _ :: b1 :: b2 :: t', h0, c3, hq, hd =>
        cases h0
        have hb1 := b1.toNat_lt
        have hb2 := b2.toNat_lt
        simp only [List.getD_cons_succ, List.getD_cons_zero] at c3 hq hd
        refine ⟨[b, b1, b2], t', b.toNat % 16 * 4096 + b1.toNat % 64 * 64 + b2.toNat % 64, rfl, by simp, by simp, ?_, hd, ?_, ?_, fun Y => ?_⟩
        · intro c hc
          simp only [List.mem_cons, List.not_mem_nil, or_false] at hc
          rcases hc with rfl | rfl | rfl
          · exact hb
          · omega
          · omega
        · omega
        · omega
        · rw [Lib.decodeL_N]
          unfold Lib.decodeN
          simp only [List.cons_append, List.nil_append, List.getD_cons_succ, List.getD_cons_zero, List.length_cons, List.length_nil]
          rw [if_neg (by omega), if_neg (by omega), if_pos ⟨c3.1, ⟨by omega, c3.2.1.2⟩, ⟨by omega, c3.2.2.2⟩⟩, if_pos hq]
    · rw [hd] at hbad
      exact absurd ⟨rfl, rfl⟩ hbad
  rw [if_neg c3] at hd
  by_cases c4 : b.toNat / 8 = 30 ∧ (1 < l.length ∧ (l.getD 1 0).toNat / 64 = 2) ∧ (2 < l.length ∧ (l.getD 2 0).toNat / 64 = 2) ∧ (3 < l.length ∧ (l.getD 3 0).toNat / 64 = 2)
  · rw [if_pos c4] at hd
    split at hd
    · rename_i hq
      match l, h0, c4, hq, hd with
      | _ :: b1 :: b2 :: b3 :: t', h0, c4, hq, hd =>
        cases h0
        have hb1 := b1.toNat_lt
        have hb2 := b2.toNat_lt
        have hb3 := b3.toNat_lt
        simp only [List.getD_cons_succ, List.getD_cons_zero] at c4 hq hd
        refine ⟨[b, b1, b2, b3], t', b.toNat % 8 * 262144 + b1.toNat % 64 * 4096 + b2.toNat % 64 * 64 + b3.toNat % 64, rfl, by simp, by simp, ?_, hd, ?_, ?_, fun Y => ?_⟩
        · intro c hc
          simp only [List.mem_cons, List.not_mem_nil, or_false] at hc
          rcases hc with rfl | rfl | rfl | rfl
          · exact hb
          · omega
          · omega
          · omega
        · omega
        · omega
        · rw [Lib.decodeL_N]
          unfold Lib.decodeN
          simp only [List.cons_append, List.nil_append, List.getD_cons_succ, List.getD_cons_zero, List.length_cons, List.length_nil]
          rw [if_neg (by omega), if_neg (by omega), if_neg (by omega), if_pos ⟨c4.1, ⟨by omega, c4.2.1.2⟩, ⟨by omega, c4.2.2.1.2⟩, ⟨by omega, c4.2.2.2.2⟩⟩, if_pos hq]
    · rw [hd] at hbad
      exact absurd ⟨rfl, rfl⟩ hbad
  rw [if_neg c4] at hd
  rw [hd] at hbad
  exact absurd ⟨rfl, rfl⟩ hbad
/-- whatever stands behind, it is right just if that is -/
def VT (y : List UInt8) : Prop := ∀ Y, Lib.validD (y ++ Y) = Lib.validD Y
theorem VT.nil : VT [] := fun Y => rfl
theorem VT.app {x y : List UInt8} (hx : VT x) (hy : VT y) : VT (x ++ y) := fun Y => by rw [List.append_assoc, hx, hy]
theorem VT.valid {y : List UInt8} (h : VT y) : Lib.validD y = true := by
  have := h []
  rw [List.append_nil] at this
  rw [this]
  rfl
theorem VT.asc {c : UInt8} (h : c.toNat < 128) : VT [c] := fun Y => Lib.validD_cons c Y h
theorem VT.of {x : List UInt8} {r : Nat} (hx : 2 ≤ x.length) (h : ∀ Y, Lib.decodeL (x ++ Y) = (r, x.length)) : VT x := fun Y => by
  have hne : x ++ Y ≠ [] := by
    cases x with
    | nil => simp at hx
    | cons c t => simp
  rw [Lib.validD_step _ hne, h Y, if_neg (by rintro ⟨_, h2⟩; simp only at h2; omega), List.drop_left]
/-- the next sign of a text: what it is, and that it is right -/
theorem chunk (R : List UInt8) (hne : R ≠ []) : ∃ (r m : Nat), u8I R = ((r : Int), (m : Int)) ∧ 1 ≤ m ∧ m ≤ R.length ∧ (¬ (r = 65533 ∧ m = 1) → VT (R.take m)) ∧ (r < 128 → ∃ t, R = UInt8.ofNat r :: t ∧ m = 1) := by
  obtain ⟨c, t, rfl⟩ : ∃ c t, R = c :: t := by
    cases R with
    | nil => exact absurd rfl hne
    | cons c t => exact ⟨c, t, rfl⟩
  by_cases hc : c.toNat < 128
  · refine ⟨c.toNat, 1, u8I_asc t hc, Nat.le_refl _, by simp, fun _ => VT.asc hc, fun _ => ⟨t, by rw [UInt8.ofNat_toNat], rfl⟩⟩
  · by_cases hbad : (Lib.decodeL (c :: t)).1 = 65533 ∧ (Lib.decodeL (c :: t)).2 = 1
    · refine ⟨65533, 1, ?_, Nat.le_refl _, by simp, fun q => absurd ⟨rfl, rfl⟩ q, fun q => by omega⟩
      rw [u8I_cons, hbad.1, hbad.2]
    · obtain ⟨x, rest, r, e, h1, h2, _, hd, h3, h4, h5⟩ := rune_any (c :: t) t c rfl (by omega) hbad
      refine ⟨r, x.length, ?_, by omega, by rw [e]; simp, fun _ => ?_, fun q => by omega⟩
      · rw [u8I_cons, hd]
      · rw [e, List.take_left]
        exact VT.of h1 h5
theorem ofNat_small {w : Nat} (h : w < 256) : (UInt8.ofNat w).toNat = w := by
  rw [UInt8.toNat_ofNat']
  omega
theorem enc_vt (v : Nat) (h : v < 55296 ∨ (57343 < v ∧ v ≤ 1114111)) : VT (encL (v : Int)) := by
  have hval : Utf8.valid (v : Int) = true := by
    simp only [Utf8.valid, Bool.and_eq_true, Bool.or_eq_true, decide_eq_true_eq]
    omega
  unfold encL Utf8.encode
  simp only [hval, if_true, Int.toNat_natCast]
  by_cases h1 : v < 128
  · rw [if_pos h1]
    show VT [UInt8.ofNat v]
    exact VT.asc (by rw [ofNat_small (by omega)]; exact h1)
  · rw [if_neg h1]
    by_cases h2 : v < 2048
    · rw [if_pos h2]
      have q : ∀ Y, Lib.decodeL ([UInt8.ofNat (192 + v / 64), UInt8.ofNat (128 + v % 64)] ++ Y) = (v, 2) := fun Y => by
        have a0 := ofNat_small (w := 192 + v / 64) (by omega)
        have a1 := ofNat_small (w := 128 + v % 64) (by omega)
        rw [Lib.decodeL_N]
        simp only [List.cons_append, List.nil_append, List.getD_cons_succ, List.getD_cons_zero, List.length_cons]
        rw [a0, a1]
        have ev : (192 + v / 64) % 32 * 64 + (128 + v % 64) % 64 = v := by omega
        unfold Lib.decodeN
        rw [if_neg (by omega), if_pos (by omega), ev, if_pos (by omega)]
      exact VT.of (x := [UInt8.ofNat (192 + v / 64), UInt8.ofNat (128 + v % 64)]) (by simp) q
    · rw [if_neg h2]
      by_cases h3 : v < 65536
      · rw [if_pos h3]
        have q : ∀ Y, Lib.decodeL ([UInt8.ofNat (224 + v / 4096), UInt8.ofNat (128 + v / 64 % 64), UInt8.ofNat (128 + v % 64)] ++ Y) = (v, 3) := fun Y => by
          have a0 := ofNat_small (w := 224 + v / 4096) (by omega)
          have a1 := ofNat_small (w := 128 + v / 64 % 64) (by omega)
          have a2 := ofNat_small (w := 128 + v % 64) (by omega)
          rw [Lib.decodeL_N]
          simp only [List.cons_append, List.nil_append, List.getD_cons_succ, List.getD_cons_zero, List.length_cons]
          rw [a0, a1, a2]
          have ev : (224 + v / 4096) % 16 * 4096 + (128 + v / 64 % 64) % 64 * 64 + (128 + v % 64) % 64 = v := by omega
          unfold Lib.decodeN
          rw [if_neg (by omega), if_neg (by omega), if_pos (by omega), ev, if_pos (by omega)]
        exact VT.of (x := [UInt8.ofNat (224 + v / 4096), UInt8.ofNat (128 + v / 64 % 64), UInt8.ofNat (128 + v % 64)]) (by simp) q
      · rw [if_neg h3]
        have q : ∀ Y, Lib.decodeL ([UInt8.ofNat (240 + v / 262144), UInt8.ofNat (128 + v / 4096 % 64), UInt8.ofNat (128 + v / 64 % 64), UInt8.ofNat (128 + v % 64)] ++ Y) = (v, 4) := fun Y => by
          have a0 := ofNat_small (w := 240 + v / 262144) (by omega)
          have a1 := ofNat_small (w := 128 + v / 4096 % 64) (by omega)
          have a2 := ofNat_small (w := 128 + v / 64 % 64) (by omega)
          have a3 := ofNat_small (w := 128 + v % 64) (by omega)
          rw [Lib.decodeL_N]
          simp only [List.cons_append, List.nil_append, List.getD_cons_succ, List.getD_cons_zero, List.length_cons]
          rw [a0, a1, a2, a3]
          have ev : (240 + v / 262144) % 8 * 262144 + (128 + v / 4096 % 64) % 64 * 4096 + (128 + v / 64 % 64) % 64 * 64 + (128 + v % 64) % 64 = v := by omega
          unfold Lib.decodeN
          rw [if_neg (by omega), if_neg (by omega), if_neg (by omega), if_pos (by omega), ev, if_pos (by omega)]
        exact VT.of (x := [UInt8.ofNat (240 + v / 262144), UInt8.ofNat (128 + v / 4096 % 64), UInt8.ofNat (128 + v / 64 % 64), UInt8.ofNat (128 + v % 64)]) (by simp) q
theorem enc_len4 (v : Nat) : (encL (v : Int)).length ≤ 4 := enc_len (v : Int)
/-- .. and short where the number is -/
theorem enc_len3 (v : Nat) (h : v < 65536) (h2 : v < 55296 ∨ 57343 < v) : (encL (v : Int)).length ≤ 3 := by
  have hval : Utf8.valid (v : Int) = true := by
    simp only [Utf8.valid, Bool.and_eq_true, Bool.or_eq_true, decide_eq_true_eq]
    omega
  unfold encL Utf8.encode
  simp only [hval, if_true, Int.toNat_natCast]
  split
  · exact (by decide : 1 ≤ 3)
  · split
    · exact (by decide : 2 ≤ 3)
    · exact (by decide : 3 ≤ 3)
end Go.Proofs.Abs
