/- The law FrameBack over the Lean functions. -/
import Derived.Test.YtgimibhacllcpaaGLfba
import Derived.Test.YtgimibhacllcpaaPSem
import Derived.Test.YtgimibhacllcpaaPCre
set_option linter.unusedSimpArgs false
namespace Go.Proofs.Abs
open Go
set_option linter.unusedVariables false
set_option maxRecDepth 10000
theorem xor_self_ne {x w : Nat} (h : x ^^^ w = x) : w = 0 := by
  have := congrArg (fun t => x ^^^ t) h
  simp only [← Nat.xor_assoc, Nat.xor_self, Nat.zero_xor] at this
  exact this
theorem addC_byte {bs : List UInt8} {j : Nat} {w : UInt8} (hj : j < bs.length) (hw : w.toNat ≠ 0) : addC 0 (bs.set j (bs.getD j default ^^^ w)) ≠ addC 0 bs := by
  have hw8 := w.toNat_lt
  have e1 : runC (0 ^^^ 4294967295) (bs.set j (bs.getD j default ^^^ w)) = runC (0 ^^^ 4294967295) bs ^^^ it (8 * bs.length - 8 * j) w.toNat := by
    rw [runC_msg, runC_msg, msg_set bs j w hj, List.length_set, ← Nat.xor_assoc, it_xor]
    congr 1
    have : ∀ X, it (8 * bs.length) X = it (8 * bs.length - 8 * j) (it (8 * j) X) := fun X => by
      rw [← it_add]; congr 1; omega
    rw [this, it_shl]
  intro h
  simp only [addC, e1] at h
  generalize runC (0 ^^^ 4294967295) bs = z at h
  apply hw
  apply it_zero (n := 8 * bs.length - 8 * j) (by omega)
  generalize it (8 * bs.length - 8 * j) w.toNat = y at h
  have := congrArg (fun t => t ^^^ 4294967295) h
  simp only [Nat.xor_assoc, Nat.xor_self, Nat.xor_zero] at this
  exact xor_self_ne this
theorem valN_inj : ∀ (a b : List UInt8) (v w : Nat), a.length = b.length → valN v a = valN w b → v = w ∧ a = b
  | [], [], v, w, _, h => ⟨h, rfl⟩
  | [], _ :: _, _, _, h, _ => by simp at h
  | _ :: _, [], _, _, h, _ => by simp at h
  | c :: r, d :: s, v, w, hl, h => by
    obtain ⟨h1, h2⟩ := valN_inj r s _ _ (by simpa using hl) h
    have hc := c.toNat_lt
    have hd := d.toNat_lt
    have h3 : c.toNat = d.toNat := by omega
    exact ⟨by omega, by rw [h2, UInt8.toNat_inj.1 h3]⟩
theorem set_right {l m : List UInt8} {j : Nat} {w : UInt8} (h : l.length ≤ j) : (l ++ m).set j ((l ++ m).getD j default ^^^ w) = l ++ m.set (j - l.length) (m.getD (j - l.length) default ^^^ w) := by
  rw [List.set_append, if_neg (by omega)]
  simp [List.getD, List.getElem?_append_right h]
theorem set_left {l m : List UInt8} {j : Nat} {w : UInt8} (h : j < l.length) : (l ++ m).set j ((l ++ m).getD j default ^^^ w) = l.set j (l.getD j default ^^^ w) ++ m := by
  rw [List.set_append, if_pos h]
  simp [List.getD, List.getElem?_append_left h]
theorem set_ne {l : List UInt8} {j : Nat} {w : UInt8} (h : j < l.length) (hw : w.toNat ≠ 0) : l.set j (l.getD j default ^^^ w) ≠ l := by
  intro he
  have h1 := congrArg (fun t => (t.getD j default).toNat) he
  simp [List.getD, h] at h1
  exact hw (by rw [xor_self_ne h1])
theorem take_flip {v : Nat} {b : List UInt8} (hb : b.length ≤ 32768) {j : Nat} {w : UInt8} (h4 : 4 ≤ j) (hj : j < 16 + b.length) (hw : w.toNat ≠ 0) :
    (takeF ((mkF (v : Int) b).1.set j ((mkF (v : Int) b).1.getD j default ^^^ w))).2.1 = 4 := by
  have hc : addC 0 (num8 (v : Int) ++ b) < 4294967296 := addC_lt (by decide)
  have e : (mkF (v : Int) b).1 = num4 ((b.length : Nat) : Int) ++ (num4 ((addC 0 (num8 (v : Int) ++ b) : Nat) : Int) ++ (num8 (v : Int) ++ b)) := by rw [mkF_fst hb]
  have hR : (num8 (v : Int) ++ b).length = 8 + b.length := by simp [num8_len]
  have gen : ∀ (C R : List UInt8), C.length = 4 → R.length = 8 + b.length → addC 0 R ≠ valN 0 C → (takeF (num4 ((b.length : Nat) : Int) ++ (C ++ R))).2.1 = 4 := by
    intro C R hC hR hne
    have hL : (num4 ((b.length : Nat) : Int) ++ (C ++ R)).length = 16 + b.length := by simp [num4_len, hC, hR]; omega
    have t1 : (num4 ((b.length : Nat) : Int) ++ (C ++ R)).take 4 = num4 ((b.length : Nat) : Int) := by
      rw [List.take_append_of_le_length (by rw [num4_len]; omega), List.take_of_length_le (by rw [num4_len]; omega)]
    have t2 : ((num4 ((b.length : Nat) : Int) ++ (C ++ R)).take 8).drop 4 = C := by
      rw [List.drop_take, show (4 : Nat) = (num4 ((b.length : Nat) : Int)).length from rfl, List.drop_left, num4_len, show 8 - 4 = C.length by omega, List.take_left]
    have t4 : ((num4 ((b.length : Nat) : Int) ++ (C ++ R)).take (16 + b.length)).drop 8 = R := by
      rw [← hL, List.take_length, ← List.append_assoc, show (8 : Nat) = (num4 ((b.length : Nat) : Int) ++ C).length by simp [num4_len, hC], List.drop_left]
    unfold takeF
    rw [if_neg (by omega), t1, val_num4 (by omega)]
    simp only []
    rw [if_neg (by omega), if_neg (by omega), t2, t4, if_pos hne]
  rw [e, set_right (by rw [num4_len]; omega), num4_len]
  by_cases h8 : j < 8
  · rw [set_left (by rw [num4_len]; omega)]
    refine gen _ _ (by rw [List.length_set, num4_len]) hR ?_
    intro h
    have hne := set_ne (l := num4 ((addC 0 (num8 (v : Int) ++ b) : Nat) : Int)) (j := j - 4) (w := w) (by rw [num4_len]; omega) hw
    have h2 : valN 0 (num4 ((addC 0 (num8 (v : Int) ++ b) : Nat) : Int)) = valN 0 ((num4 ((addC 0 (num8 (v : Int) ++ b) : Nat) : Int)).set (j - 4) ((num4 ((addC 0 (num8 (v : Int) ++ b) : Nat) : Int)).getD (j - 4) default ^^^ w)) := by rw [val_num4 hc, ← h]
    exact hne (valN_inj _ _ _ _ (by rw [List.length_set]) h2).2.symm
  · rw [set_right (by rw [num4_len]; omega), num4_len]
    refine gen _ _ (num4_len _) (by rw [List.length_set]; exact hR) ?_
    rw [val_num4 hc]
    exact addC_byte (by omega) hw
theorem take_cut3 {v : Nat} {b : List UInt8} (hb : b.length ≤ 32768) {c : Nat} (hc : c < 16 + b.length) : (takeF ((mkF (v : Int) b).1.take c)).2.1 = 3 := by
  have hl := mkF_len (v := (v : Int)) hb
  have hlc : ((mkF (v : Int) b).1.take c).length = c := by simp [hl]; omega
  by_cases h16 : c < 16
  · unfold takeF; rw [if_pos (by omega)]
  have e : (mkF (v : Int) b).1 = num4 ((b.length : Nat) : Int) ++ (num4 ((addC 0 (num8 (v : Int) ++ b) : Nat) : Int) ++ (num8 (v : Int) ++ b)) := by rw [mkF_fst hb]
  have t1 : ((mkF (v : Int) b).1.take c).take 4 = num4 ((b.length : Nat) : Int) := by
    rw [List.take_take, show min 4 c = 4 by omega, e]; rfl
  unfold takeF
  rw [if_neg (by omega), t1, val_num4 (by omega)]
  simp only []
  rw [if_neg (by omega), if_pos (by omega)]
theorem law_FrameBack (a0 : Int) (a1 : (List UInt8)) (a2 : (List UInt8)) (a3 : Int) (a4 : Int) (w0 : (0 ≤ a0 ∧ a0 ≤ 18446744073709551615)) (w1 : (∀ e0 ∈ a1, True)) (w2 : (∀ e0 ∈ a2, True)) (w3 : (-9223372036854775808 ≤ a3 ∧ a3 ≤ 9223372036854775807)) (w4 : (-9223372036854775808 ≤ a4 ∧ a4 ≤ 9223372036854775807)) (hb : 1 + ((a1.map (fun _ => 1)).sum + 1) + ((a2.map (fun _ => 1)).sum + 1) + 1 + 1 ≤ 1048576) : ∃ k, f253 k a0 a1 a2 a3 a4 = some true := by
  obtain ⟨v, rfl⟩ := Int.eq_ofNat_of_zero_le w0.1
  have hv : v < 18446744073709551616 := by omega
  refine ⟨10000, ?_⟩
  simp only [f253, awake18 (show 500 < 10000 by omega), Option.bind_some]
  rw [cond_dec]
  split
  · rfl
  rw [cond_dec]
  split
  · rfl
  rename_i c1 c2
  have hb1 : a1.length ≤ 32768 := by omega
  rw [make_frame (by omega) (by omega)]
  simp only [Option.bind_some, Bool.not_true, cond_false]
  have hl := mkF_len (v := (v : Int)) hb1
  have h2 : (mkF (v : Int) a1).2 = 0 := by rw [mkF_fst hb1]
  have hm := take_made hv (R := a2) hb1
  have hcut := fun c hc => take_cut3 (v := v) hb1 (c := c) hc
  have hflip := fun j w h4 hj hw => take_flip (v := v) hb1 (j := j) (w := w) h4 hj hw
  generalize mkF (v : Int) a1 = F at hl h2 hm hcut hflip ⊢
  obtain ⟨B, e⟩ := F
  simp only [] at hl h2 hm hcut hflip ⊢
  subst h2
  rw [cdn (by simp), cdn (by rw [i64w (by omega)]; omega)]
  simp only [f97, f97v2]
  rw [gdp (by omega)]
  simp only [Option.bind_some]
  rw [gdp (by omega), take_frame (by simp only [List.length_append]; omega) (by simp only [List.length_append]; omega), hm]
  simp only [Option.bind_some]
  rw [hl]
  have eL : IntKind.u64.wrap ((16 + a1.length : Nat) : Int) = ((16 + a1.length : Nat) : Int) := u64w (by omega)
  obtain ⟨u3, hu3⟩ := Int.eq_ofNat_of_zero_le (u64_range' a3)
  obtain ⟨u4, hu4⟩ := Int.eq_ofNat_of_zero_le (u64_range' a4)
  have m3 : u3 % (16 + a1.length) < 16 + a1.length := Nat.mod_lt _ (by omega)
  have e3 : IntKind.i64.wrap (Int.tmod (IntKind.u64.wrap a3) (IntKind.u64.wrap ((16 + a1.length : Nat) : Int))) = ((u3 % (16 + a1.length) : Nat) : Int) := by
    rw [eL, hu3, Int.tmod_eq_emod_of_nonneg (by omega), ← Int.natCast_emod, i64w (by omega)]
  rw [e3, gdp (by omega), gdp (by omega)]
  have s1 : sl B 0 ((u3 % (16 + a1.length) : Nat) : Int) = B.take (u3 % (16 + a1.length)) := by
    simp only [sl, Int.toNat_natCast]; rfl
  have l1 : (B.take (u3 % (16 + a1.length))).length ≤ B.length := by simp only [List.length_take]; omega
  rw [s1, take_frame (by omega) (by omega)]
  simp only [Option.bind_some]
  have e4 : IntKind.u64.wrap (IntKind.i64.wrap (IntKind.i64.wrap ((8 : Int) * ((16 + a1.length : Nat) : Int)) - 32)) = ((8 * (16 + a1.length) - 32 : Nat) : Int) := by
    rw [i64w (n := (8 : Int) * ((16 + a1.length : Nat) : Int)) (by omega), i64w (by omega), u64w (by omega)]; omega
  have m4 : u4 % (8 * (16 + a1.length) - 32) < 8 * (16 + a1.length) - 32 := Nat.mod_lt _ (by omega)
  rw [e4]
  generalize hK : 32 + u4 % (8 * (16 + a1.length) - 32) = K
  have e5 : IntKind.i64.wrap ((32 : Int) + IntKind.i64.wrap (Int.tmod (IntKind.u64.wrap a4) ((8 * (16 + a1.length) - 32 : Nat) : Int))) = (K : Int) := by
    rw [hu4, Int.tmod_eq_emod_of_nonneg (by omega), ← Int.natCast_emod, i64w (n := ((u4 % (8 * (16 + a1.length) - 32) : Nat) : Int)) (by omega), i64w (by omega)]; omega
  have e6 : IntKind.i64.wrap (Int.tdiv (K : Int) 8) = ((K / 8 : Nat) : Int) := by
    rw [Int.tdiv_eq_ediv_of_nonneg (by omega), i64w (by omega)]; omega
  have e7 : IntKind.u64.wrap (Int.tmod (K : Int) 8) = ((K % 8 : Nat) : Int) := by
    rw [Int.tmod_eq_emod_of_nonneg (by omega), u64w (by omega)]; omega
  rw [e5, e6, e7]
  simp only [Int.toNat_natCast]
  rw [gdp (by omega), gdp (by omega), gdp (by omega), gdp (by omega), gdp (by omega), gdp (by omega), gdp (by rw [List.length_set]; omega)]
  have hp : (2 : Nat) ^ (K % 8) < 256 ∧ 0 < (2 : Nat) ^ (K % 8) := by
    have : K % 8 < 8 := Nat.mod_lt _ (by decide)
    exact ⟨Nat.pow_lt_pow_right (by decide) this, Nat.pow_pos (by decide)⟩
  have e8 : IntKind.u8.wrap ((1 : Int) * 2 ^ (min (K % 8) IntKind.u8.bits)) = ((2 ^ (K % 8) : Nat) : Int) := by
    rw [show IntKind.u8.bits = 8 from rfl, Nat.min_eq_left (by omega), Int.one_mul, show (2 : Int) ^ (K % 8) = ((2 ^ (K % 8) : Nat) : Int) by push_cast; rfl]
    exact u8w (by omega)
  have e9 : u8 (bitsA .xor .u8 (((List.getD B (K / 8) default).toNat : Nat) : Int) ((2 ^ (K % 8) : Nat) : Int)) = List.getD B (K / 8) default ^^^ UInt8.ofNat (2 ^ (K % 8)) := by
    rw [xor8 (List.getD B (K / 8) default).toNat_lt hp.1]
    apply UInt8.toNat_inj.1
    have hx : (List.getD B (K / 8) default).toNat ^^^ 2 ^ (K % 8) < 256 := Nat.xor_lt_two_pow (n := 8) (List.getD B (K / 8) default).toNat_lt hp.1
    simp only [u8, Int.toNat_natCast, UInt8.toNat_ofNat', UInt8.toNat_xor]
    rw [Nat.mod_eq_of_lt (b := 2 ^ 8) hx, Nat.mod_eq_of_lt (b := 2 ^ 8) hp.1]
  rw [e8, e9]
  have hlen : (List.set B (K / 8) (List.getD B (K / 8) default ^^^ UInt8.ofNat (2 ^ (K % 8)))).length = 16 + a1.length := by rw [List.length_set, hl]
  rw [List.take_of_length_le (by omega), take_frame (by omega) (by omega)]
  simp only [Option.bind_some]
  rw [cdp trivial, cdp trivial, show f287 10000 (TRec.mk (v : Int) a1) (TRec.mk (v : Int) a1) = some true by simp [f287, f22]]
  simp only [Option.bind_some, cond_true]
  rw [cdp (hcut _ m3), hflip _ _ (by omega) (by omega) (by rw [UInt8.toNat_ofNat', Nat.mod_eq_of_lt (b := 2 ^ 8) hp.1]; omega)]
  rfl
end Go.Proofs.Abs
