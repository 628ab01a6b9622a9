/- JsonStrings: signs written as digits of 16, and what json prints of a text. -/
import Derived.Test.YtnhjiioiejpbgaaDoorPJqu
import Derived.Lib.MapLaws
set_option linter.unusedSimpArgs false
namespace Go.Proofs.Abs
open Go
set_option linter.unusedVariables false
set_option maxRecDepth 100000
variable {s R : List UInt8} {n : Int} {c : UInt8}
/-- the bytes of a sign, the model's way and the library's -/
theorem encL_rune (v : Nat) (h : v < 55296 ∨ (57343 < v ∧ v ≤ 1114111)) : encL (v : Int) = Lib.encodeRune (v : Int) := by
  have hval : Utf8.valid (v : Int) = true := by
    simp only [Utf8.valid, Bool.and_eq_true, Bool.or_eq_true, decide_eq_true_eq]
    omega
  have tb : ∀ w : Nat, ((w : Int)).toNat.toUInt8 = UInt8.ofNat w := fun w => by rw [Int.toNat_natCast]
  unfold encL Utf8.encode Lib.encodeRune
  simp only [hval, if_true, Int.toNat_natCast]
  by_cases h1 : v < 128
  · rw [if_pos h1, Lib.encodeRuneZ_one (by omega) (by omega)]
    simp only [List.map_cons, List.map_nil]
    rw [tb]
  · rw [if_neg h1]
    by_cases h2 : v < 2048
    · rw [if_pos h2, Lib.encodeRuneZ_two (by omega) (by omega)]
      simp only [List.map_cons, List.map_nil]
      rw [show (192 : Int) + (v : Int) / 64 = ((192 + v / 64 : Nat) : Int) by omega, show (128 : Int) + (v : Int) % 64 = ((128 + v % 64 : Nat) : Int) by omega, tb, tb]
    · rw [if_neg h2]
      by_cases h3 : v < 65536
      · rw [if_pos h3, Lib.encodeRuneZ_three (by omega)]
        simp only [List.map_cons, List.map_nil]
        rw [show (224 : Int) + (v : Int) / 4096 = ((224 + v / 4096 : Nat) : Int) by omega, show (128 : Int) + (v : Int) / 64 % 64 = ((128 + v / 64 % 64 : Nat) : Int) by omega, show (128 : Int) + (v : Int) % 64 = ((128 + v % 64 : Nat) : Int) by omega, tb, tb, tb]
      · rw [if_neg h3, Lib.encodeRuneZ_four (by omega) (by omega)]
        simp only [List.map_cons, List.map_nil]
        rw [show (240 : Int) + (v : Int) / 262144 = ((240 + v / 262144 : Nat) : Int) by omega, show (128 : Int) + (v : Int) / 4096 % 64 = ((128 + v / 4096 % 64 : Nat) : Int) by omega, show (128 : Int) + (v : Int) / 64 % 64 = ((128 + v / 64 % 64 : Nat) : Int) by omega, show (128 : Int) + (v : Int) % 64 = ((128 + v % 64 : Nat) : Int) by omega, tb, tb, tb, tb]
def runeOk (r : Int) : Prop := ∃ v : Nat, r = (v : Int) ∧ (v < 55296 ∨ (57343 < v ∧ v ≤ 1114111))
theorem decN_valid (n b0 b1 b2 b3 : Nat) (h0 : b0 < 256) : (Lib.decodeN n b0 b1 b2 b3).1 < 55296 ∨ (57343 < (Lib.decodeN n b0 b1 b2 b3).1 ∧ (Lib.decodeN n b0 b1 b2 b3).1 ≤ 1114111) := by
  unfold Lib.decodeN
  repeat' split
  all_goals (simp only; omega)
theorem decode_drop (l : List UInt8) (i : Nat) : Utf8.decode ⟨l.toArray⟩ i = Lib.decodeL (l.drop i) := by
  rw [Lib.decode_N, Lib.decodeL_N]
  simp only [List.length_drop, List.getD_eq_getElem?_getD, List.getElem?_drop, Nat.add_zero]
/-- the runes of a text that is valid: they are signs, and their bytes are the text -/
theorem runes_ok : ∀ (b i : Nat) (l : List UInt8), (l.drop i).length ≤ b → Lib.validD (l.drop i) = true → (∀ r ∈ rfrom ⟨l.toArray⟩ b i, runeOk r) ∧ (rfrom ⟨l.toArray⟩ b i).flatMap encL = l.drop i
  | 0, i, l, hb, hv => by
    have : l.drop i = [] := List.length_eq_zero_iff.1 (by omega)
    exact ⟨fun r hr => (List.not_mem_nil hr).elim, by rw [this]; rfl⟩
  | b + 1, i, l, hb, hv => by
    unfold rfrom
    by_cases h : i < (ByteArray.mk l.toArray).size
    · rw [if_pos h, decode_drop]
      have hne : l.drop i ≠ [] := by
        intro e
        have := congrArg List.length e
        rw [List.length_drop] at this
        simp [ByteArray.size] at h this
        omega
      rw [Lib.validD_step _ hne] at hv
      by_cases hbad : (Lib.decodeL (l.drop i)).1 = 65533 ∧ (Lib.decodeL (l.drop i)).2 = 1
      · rw [if_pos hbad] at hv
        cases hv
      rw [if_neg hbad, List.drop_drop] at hv
      have hw := Lib.decodeL_width (l.drop i)
      have hle := Lib.decodeL_le (l.drop i) hne
      obtain ⟨h1, h2⟩ := runes_ok b (i + (Lib.decodeL (l.drop i)).2) l (by rw [List.length_drop] at hb hle ⊢; omega) hv
      have hr : runeOk ((Lib.decodeL (l.drop i)).1 : Int) := by
        refine ⟨_, rfl, ?_⟩
        rw [Lib.decodeL_N]
        exact decN_valid _ _ _ _ _ (UInt8.toNat_lt _)
      refine ⟨fun r hr' => ?_, ?_⟩
      · rcases List.mem_cons.1 hr' with rfl | hr'
        · exact hr
        · exact h1 r hr'
      · obtain ⟨v, e, hv'⟩ := hr
        rw [List.flatMap_cons, h2, e, encL_rune v hv', ← e, Lib.encode_decode _ hne hbad, ← List.drop_drop, List.take_append_drop]
    · rw [if_neg h]
      have : l.drop i = [] := by
        apply List.drop_eq_nil_of_le
        simp [ByteArray.size] at h
        omega
      exact ⟨fun r hr => (List.not_mem_nil hr).elim, by rw [this]; rfl⟩
theorem runL_ok (l : List UInt8) (hv : Lib.validD l = true) : (∀ r ∈ runL l, runeOk r) ∧ (runL l).flatMap encL = l := by
  have := runes_ok l.length 0 l (by simp) (by simpa using hv)
  simpa [runL] using this
/-- what json prints of a text -/
theorem out_loop (hs : s.length ≤ 1000) : ∀ (rest y : List UInt8) (n : Int) (K : Nat), At s n rest → rest.length + 1 ≤ K → y.length + 6 * rest.length ≤ 100000 → f424_l19 s K y n = some (.b0 (y ++ escT rest)) := by
  intro rest
  induction rest with
  | nil =>
    intro y n K h hK hy
    obtain ⟨K, rfl⟩ : ∃ j, K = j + 1 := ⟨K - 1, by omega⟩
    have hl := h.len
    rw [List.length_nil] at hl
    rw [f424_l19, cdn (by omega)]
    simp [escT]
  | cons c t ih =>
    intro y n K h hK hy
    rw [List.length_cons] at hK hy
    obtain ⟨K, rfl⟩ : ∃ j, K = j + 1 := ⟨K - 1, by omega⟩
    have hl := h.len
    rw [List.length_cons] at hl
    have hcl := c.toNat_lt
    have q : (c.toNat = 34 ∨ c.toNat = 92) → f424_j54 (f424_l19 s K) K y s n true = some (.b0 (y ++ escT (c :: t))) := by
      intro hq
      have eB : escB c = [92, c] := if_pos hq
      unfold f424_j54
      rw [cond_true, h.get, gdp (by simp only [List.length_cons, List.length_nil]; omega), i64w (by omega), ih _ _ _ h.next (by omega) (by simp only [List.length_append, List.length_cons, List.length_nil]; omega), escT_cons, eB]
      simp
    rw [f424_l19, cdp (by omega), gdp (by omega), h.get]
    by_cases h1 : c.toNat = 34
    · rw [cdp (by omega)]
      exact q (.inl h1)
    · rw [cdn (by omega)]
      by_cases h2 : c.toNat = 92
      · rw [decide_eq_true (by omega)]
        exact q (.inr h2)
      · rw [decide_eq_false (by omega)]
        unfold f424_j54
        rw [cond_false, h.get]
        by_cases h3 : c.toNat < 32
        · have eB : escB c = [92, 117, 48, 48, hexd (c.toNat / 16), hexd (c.toNat % 16)] := by unfold escB; rw [if_neg (by omega), if_pos h3]
          have key : ∀ c : Fin 32, (0 ≤ hiI (c.val : Int) ∧ hiI (c.val : Int) < 16) ∧ (0 ≤ loI (c.val : Int) ∧ loI (c.val : Int) < 16) ∧ hexs.getD (hiI (c.val : Int)).toNat 0 = hexd (c.val / 16) ∧ hexs.getD (loI (c.val : Int)).toNat 0 = hexd (c.val % 16) := by decide
          obtain ⟨g1, g2, e1, e2⟩ := key ⟨c.toNat, h3⟩
          simp only at g1 g2 e1 e2
          rw [cdp (by omega)]
          show gd (0 ≤ hiI (c.toNat : Int) ∧ hiI (c.toNat : Int) < 16) (gd (0 ≤ loI (c.toNat : Int) ∧ loI (c.toNat : Int) < 16) (gd ((y.length + ([(92 : UInt8), 117, 48, 48, hexs.getD (hiI (c.toNat : Int)).toNat 0, hexs.getD (loI (c.toNat : Int)).toNat 0] : List UInt8).length) * 2 * 1 ≤ 281474976710656) (f424_l19 s K (y ++ [(92 : UInt8), 117, 48, 48, hexs.getD (hiI (c.toNat : Int)).toNat 0, hexs.getD (loI (c.toNat : Int)).toNat 0]) (IntKind.i64.wrap (n + 1))))) = _
          rw [gdp g1, gdp g2, e1, e2, gdp (by simp only [List.length_cons, List.length_nil]; omega), i64w (by omega), ih _ _ _ h.next (by omega) (by simp only [List.length_append, List.length_cons, List.length_nil]; omega), escT_cons, eB]
          simp
        · have eB : escB c = [c] := by unfold escB; rw [if_neg (by omega), if_neg h3]
          rw [cdn (by omega), gdp (by simp only [List.length_cons, List.length_nil]; omega), i64w (by omega), ih _ _ _ h.next (by omega) (by simp only [List.length_append, List.length_cons, List.length_nil]; omega), escT_cons, eB]
          simp
theorem out_at (K : Nat) (s : List UInt8) (hs : s.length ≤ 1000) (hK : s.length + 1 ≤ K) : f424 K [] s = some (quo s) := by
  have := escT_len s
  unfold f424
  rw [gdp (by simp), List.nil_append, out_loop hs s [34] 0 K (At.start s) hK (by simp; omega), Option.bind_some]
  show f424_j92 K ([34] ++ escT s) = _
  unfold f424_j92
  rw [gdp (by simp only [List.length_append, List.length_cons, List.length_nil]; omega)]
  simp [quo]
theorem print_at (K : Nat) (s : List UInt8) (hs : s.length ≤ 1000) (hv : Lib.validD s = true) (hK : s.length + 10 ≤ K) : f421 K ⟨5, s, [], []⟩ = some (quo s) := by
  obtain ⟨K, rfl⟩ : ∃ j, K = j + 3 := ⟨K - 3, by omega⟩
  have h5 : f351 (K + 2) s = some true := by unfold f351; rw [gdp (by omega), hv]
  have h1 : f422 (K + 3) ⟨5, s, [], []⟩ = some true := by
    have : f425 (K + 3) ⟨5, s, [], []⟩ 0 = some true := by
      rw [f425]
      unfold f425_s
      show cond (decide ((5 : Int) = 1)) _ (cond (decide ((5 : Int) = 2)) _ (f425_j33 (K + 2) ⟨5, s, [], []⟩ 0 (f425 (K + 2)) (decide ((5 : Int) = 3)))) = _
      rw [cdn (by decide), cdn (by decide), decide_eq_false (by decide)]
      unfold f425_j33
      rw [cond_false]
      show cond (decide ((5 : Int) = 4)) _ (cond (decide ((5 : Int) = 5)) (Option.bind (f426 (K + 2) ⟨5, s, [], []⟩ true) fun r69 => cond r69 ((f351 (K + 2) s).bind fun r73 => some r73) (some false)) _) = _
      rw [cdn (by decide), cdp (by decide)]
      have : f426 (K + 2) ⟨5, s, [], []⟩ true = some true := rfl
      rw [this, Option.bind_some, cond_true, h5]
      rfl
    unfold f422
    show Option.bind (f425 (K + 3) ⟨5, s, [], []⟩ 0) _ = _
    rw [this]
    rfl
  unfold f421
  show Option.bind (f422 (K + 3) ⟨5, s, [], []⟩) _ = _
  rw [h1, Option.bind_some]
  show cond false _ (Option.bind (f423 (K + 3) [] ⟨5, s, [], []⟩) _) = _
  rw [cond_false]
  have : f423 (K + 3) [] ⟨5, s, [], []⟩ = some (quo s) := by
    rw [f423]
    unfold f423_s
    show cond (decide ((5 : Int) = 1)) _ (cond (decide ((5 : Int) = 2)) _ (cond (decide ((5 : Int) = 3)) _ (cond (decide ((5 : Int) = 4)) _ (cond (decide ((5 : Int) = 5)) (Option.bind (f424 (K + 2) [] s) _) _)))) = _
    rw [cdn (by decide), cdn (by decide), cdn (by decide), cdn (by decide), cdp (by decide), out_at (K + 2) s hs (by omega)]
    rfl
  rw [this]
  rfl
end Go.Proofs.Abs
