/- A quoted text is read as it was. -/
import Derived.Test.YtnhjiioiejpbgaaDoorPJat
import Derived.Test.YtnhjiioiejpbgaaDoorPU8j
import Derived.Lib.ValidLaws
set_option linter.unusedSimpArgs false
namespace Go.Proofs.Abs
open Go
set_option linter.unusedVariables false
set_option maxRecDepth 100000
variable {s R : List UInt8} {n : Int} {c : UInt8}
theorem u8I_cons (c : UInt8) (t : List UInt8) : u8I (c :: t) = (((Lib.decodeL (c :: t)).1 : Int), ((Lib.decodeL (c :: t)).2 : Int)) := by
  have : ¬ (ByteArray.mk (c :: t).toArray).size = 0 := by simp [ByteArray.size]
  unfold u8I Lib.decodeGo Lib.decodeL
  rw [if_neg this]
theorem u8I_asc (t : List UInt8) (h : c.toNat < 128) : u8I (c :: t) = ((c.toNat : Int), 1) := by
  rw [u8I_cons, Lib.decodeL_ascii c t h]
  rfl
set_option maxHeartbeats 4000000 in
/-- a rune of more than a byte -/
theorem rune_step (l t : List UInt8) (b : UInt8) (h0 : l = b :: t) (hb : 128 ≤ b.toNat) (hv : Lib.validD l = true) :
    ∃ (x rest : List UInt8) (r : Nat), l = x ++ rest ∧ 2 ≤ x.length ∧ x.length ≤ 4 ∧ (∀ c ∈ x, 128 ≤ c.toNat) ∧ Lib.validD rest = true ∧ 128 ≤ r ∧ r ≤ 1114111 ∧ ∀ Y, Lib.decodeL (x ++ Y) = (r, x.length) := by
  have hne : l ≠ [] := by rw [h0]; simp
  rw [Lib.validD_step l hne] at hv
  have hbl := b.toNat_lt
  by_cases hbad : (Lib.decodeL l).1 = 65533 ∧ (Lib.decodeL l).2 = 1
  · rw [if_pos hbad] at hv
    cases hv
  rw [if_neg hbad] at hv
  have hd := Lib.decodeL_N l
  have g0 : l.getD 0 0 = b := by rw [h0]; rfl
  rw [g0] at hd
  unfold Lib.decodeN at hd
  rw [if_neg (by omega)] at hd
  by_cases c2 : b.toNat / 32 = 6 ∧ (1 < l.length ∧ (l.getD 1 0).toNat / 64 = 2)
  · rw [if_pos c2] at hd
    split at hd
    · rename_i hq
      rw [hd] at hv
      match l, h0, c2, hq, hd, hv with
      | _ :: b1 :: t', h0, c2, hq, hd, hv =>
        cases h0
        have hb1 := b1.toNat_lt
        simp only [List.getD_cons_succ, List.getD_cons_zero] at c2 hq hd
        refine ⟨[b, b1], t', b.toNat % 32 * 64 + b1.toNat % 64, rfl, by simp, by simp, ?_, hv, hq, by omega, fun Y => ?_⟩
        · intro c hc
          simp only [List.mem_cons, List.not_mem_nil, or_false] at hc
          rcases hc with rfl | rfl
          · exact hb
          · omega
        · rw [Lib.decodeL_N]
          unfold Lib.decodeN
          simp only [List.cons_append, List.nil_append, List.getD_cons_succ, List.getD_cons_zero, List.length_cons, List.length_nil]
          rw [if_neg (by omega), if_pos ⟨c2.1, by omega, c2.2.2⟩, if_pos hq]
    · rw [hd] at hbad
      exact absurd ⟨rfl, rfl⟩ hbad
  rw [if_neg c2] at hd
  by_cases c3 : b.toNat / 16 = 14 ∧ (1 < l.length ∧ (l.getD 1 0).toNat / 64 = 2) ∧ (2 < l.length ∧ (l.getD 2 0).toNat / 64 = 2)
  · rw [if_pos c3] at hd
    split at hd
    · rename_i hq
      rw [hd] at hv
      match l, h0, c3, hq, hd, hv with
      | _ :: b1 :: b2 :: t', h0, c3, hq, hd, hv =>
        cases h0
        have hb1 := b1.toNat_lt
        have hb2 := b2.toNat_lt
        simp only [List.getD_cons_succ, List.getD_cons_zero] at c3 hq hd
        refine ⟨[b, b1, b2], t', b.toNat % 16 * 4096 + b1.toNat % 64 * 64 + b2.toNat % 64, rfl, by simp, by simp, ?_, hv, ?_, ?_, fun Y => ?_⟩
        · intro c hc
          simp only [List.mem_cons, List.not_mem_nil, or_false] at hc
          rcases hc with rfl | rfl | rfl
          · exact hb
          · omega
          · omega
        · omega
        · omega
        · rw [Lib.decodeL_N]
          unfold Lib.decodeN
          simp only [List.cons_append, List.nil_append, List.getD_cons_succ, List.getD_cons_zero, List.length_cons, List.length_nil]
          rw [if_neg (by omega), if_neg (by omega), if_pos ⟨c3.1, ⟨by omega, c3.2.1.2⟩, ⟨by omega, c3.2.2.2⟩⟩, if_pos hq]
    · rw [hd] at hbad
      exact absurd ⟨rfl, rfl⟩ hbad
  rw [if_neg c3] at hd
  by_cases c4 : b.toNat / 8 = 30 ∧ (1 < l.length ∧ (l.getD 1 0).toNat / 64 = 2) ∧ (2 < l.length ∧ (l.getD 2 0).toNat / 64 = 2) ∧ (3 < l.length ∧ (l.getD 3 0).toNat / 64 = 2)
  · rw [if_pos c4] at hd
    split at hd
    · rename_i hq
      rw [hd] at hv
      match l, h0, c4, hq, hd, hv with
      | _ :: b1 :: b2 :: b3 :: t', h0, c4, hq, hd, hv =>
        cases h0
        have hb1 := b1.toNat_lt
        have hb2 := b2.toNat_lt
        have hb3 := b3.toNat_lt
        simp only [List.getD_cons_succ, List.getD_cons_zero] at c4 hq hd
        refine ⟨[b, b1, b2, b3], t', b.toNat % 8 * 262144 + b1.toNat % 64 * 4096 + b2.toNat % 64 * 64 + b3.toNat % 64, rfl, by simp, by simp, ?_, hv, ?_, ?_, fun Y => ?_⟩
        · intro c hc
          simp only [List.mem_cons, List.not_mem_nil, or_false] at hc
          rcases hc with rfl | rfl | rfl | rfl
          · exact hb
          · omega
          · omega
          · omega
        · omega
        · omega
        · rw [Lib.decodeL_N]
          unfold Lib.decodeN
          simp only [List.cons_append, List.nil_append, List.getD_cons_succ, List.getD_cons_zero, List.length_cons, List.length_nil]
          rw [if_neg (by omega), if_neg (by omega), if_neg (by omega), if_pos ⟨c4.1, ⟨by omega, c4.2.1.2⟩, ⟨by omega, c4.2.2.1.2⟩, ⟨by omega, c4.2.2.2.2⟩⟩, if_pos hq]
    · rw [hd] at hbad
      exact absurd ⟨rfl, rfl⟩ hbad
  rw [if_neg c4] at hd
  rw [hd] at hbad
  exact absurd ⟨rfl, rfl⟩ hbad
def hexd (v : Nat) : UInt8 := ([48, 49, 50, 51, 52, 53, 54, 55, 56, 57, 97, 98, 99, 100, 101, 102] : List UInt8).getD v 0
def escB (c : UInt8) : List UInt8 := if c.toNat = 34 ∨ c.toNat = 92 then [92, c] else if c.toNat < 32 then [92, 117, 48, 48, hexd (c.toNat / 16), hexd (c.toNat % 16)] else [c]
def escT (l : List UInt8) : List UInt8 := l.flatMap escB
def quo (l : List UInt8) : List UInt8 := 34 :: (escT l ++ [34])
theorem escT_cons (c : UInt8) (t : List UInt8) : escT (c :: t) = escB c ++ escT t := rfl
theorem escT_high : ∀ (x t : List UInt8), (∀ c ∈ x, 128 ≤ c.toNat) → escT (x ++ t) = x ++ escT t
  | [], t, _ => rfl
  | c :: x, t, h => by
    have hc := h c (List.mem_cons_self ..)
    rw [List.cons_append, escT_cons, escT_high x t fun d hd => h d (List.mem_cons_of_mem _ hd)]
    unfold escB
    rw [if_neg (by omega), if_neg (by omega)]
    rfl
/-- one digit of 16 more -/
def hx (v : Int) (d : UInt8) : Option Int :=
  if 48 ≤ d.toNat ∧ d.toNat ≤ 57 then some (bitsA .or .i32 (IntKind.i32.wrap (v * 2 ^ (min ((4 : Int)).toNat IntKind.i32.bits))) (IntKind.i32.wrap (((u8 (IntKind.u8.wrap (((d.toNat : Nat) : Int) - (48 : Int)))).toNat : Nat) : Int)))
  else if 97 ≤ d.toNat ∧ d.toNat ≤ 102 then some (bitsA .or .i32 (IntKind.i32.wrap (v * 2 ^ (min ((4 : Int)).toNat IntKind.i32.bits))) (IntKind.i32.wrap (((u8 (IntKind.u8.wrap ((((u8 (IntKind.u8.wrap (((d.toNat : Nat) : Int) - (97 : Int)))).toNat : Nat) : Int) + (10 : Int)))).toNat : Nat) : Int)))
  else none
theorem four_step (k : Nat) (v i v' : Int) {d : UInt8} (h : At s n (d :: R)) (hb : s.length ≤ 20000) (hi : 0 ≤ i ∧ i < 4) (hv : hx v d = some v') : f420_l38 s (k + 1) v i n = f420_l38 s k v' (i + 1) (n + 1) := by
  have hl := h.len
  rw [List.length_cons] at hl
  unfold hx at hv
  rw [f420_l38, cdp (by omega), gdp (by omega), h.get]
  split at hv
  · rename_i hq
    cases hv
    rw [cdp (by omega), decide_eq_true (by omega)]
    unfold f420_j85
    rw [cond_true, h.get, i64w (by omega), i64w (by omega)]
  · split at hv
    · rename_i hn hq
      cases hv
      rw [cdp (by omega), decide_eq_false (by omega)]
      unfold f420_j85
      rw [cond_false, h.get, cdp (by omega), decide_eq_true (by omega)]
      unfold f420_j105
      rw [cond_true, h.get, i64w (by omega), i64w (by omega)]
    · cases hv
theorem hx_ctl : ∀ c : Fin 32, hx 0 48 = some 0 ∧ hx 0 (hexd (c.val / 16)) = some ((c.val / 16 : Nat) : Int) ∧ hx ((c.val / 16 : Nat) : Int) (hexd (c.val % 16)) = some (c.val : Int) := by decide
theorem u8_of : ∀ c : Fin 256, u8 (IntKind.u8.wrap (c.val : Int)) = UInt8.ofNat c.val := by decide
theorem esc_ctl (k : Nat) (hc : c.toNat < 32) (h : At s n (117 :: 48 :: 48 :: hexd (c.toNat / 16) :: hexd (c.toNat % 16) :: R)) (hb : s.length ≤ 20000) : f402 (k + 5) s n = some ([c], true, n + 5) := by
  have hl := h.len
  simp only [List.length_cons] at hl
  obtain ⟨h0, h1, h2⟩ := hx_ctl ⟨c.toNat, hc⟩
  simp only at h1 h2
  have e : u8 (IntKind.u8.wrap ((c.toNat : Nat) : Int)) = c := by rw [u8_of ⟨c.toNat, by omega⟩]; simp
  unfold f402
  rw [is_yes _ h hb, Option.bind_some]
  show cond true _ _ = _
  rw [cond_true]
  show (f416 (k + 5) s (n + 1)).bind _ = _
  have h4 : f420 (k + 5) s (n + 1) = some ((c.toNat : Int), true, n + 5) := by
    unfold f420
    rw [i64w (by omega), cdn (by omega), four_step (k + 4) 0 0 0 h.next hb (by omega) h0, four_step (k + 3) 0 (0 + 1) 0 h.next.next hb (by omega) h0, four_step (k + 2) 0 (0 + 1 + 1) _ h.next.next.next hb (by omega) h1, four_step (k + 1) _ (0 + 1 + 1 + 1) _ h.next.next.next.next hb (by omega) h2, f420_l38, cdn (by omega), Option.bind_some]
    show f420_j147 _ _ _ = _
    unfold f420_j147
    rw [show n + 1 + 1 + 1 + 1 + 1 = n + 5 by omega]
  have h5 : f416 (k + 5) s (n + 1) = some ((c.toNat : Int), true, n + 5) := by
    unfold f416
    rw [h4, Option.bind_some]
    show cond false _ _ = _
    rw [cond_false]
    show cond (decide ((c.toNat : Int) < 55296)) _ _ = _
    rw [cdp (by omega)]
    rfl
  rw [h5, Option.bind_some]
  show (f417 (k + 5) [] (c.toNat : Int)).bind _ = _
  have h6 : f417 (k + 5) [] (c.toNat : Int) = some [c] := by
    unfold f417
    rw [u32w (by omega), cdp (by omega), gdp (by show (0 + 1) * 2 * 1 ≤ 281474976710656; decide), e]
    rfl
  rw [h6]
  rfl
theorem esc_sim (k : Nat) (hc : c.toNat = 34 ∨ c.toNat = 92) (h : At s n (c :: R)) (hb : s.length ≤ 20000) : f402 k s n = some ([c], true, n + 1) := by
  have hl := h.len
  rw [List.length_cons] at hl
  unfold f402
  rw [is_no _ h (by rw [show ((117 : UInt8).toNat : Int) = 117 from rfl]; omega), Option.bind_some]
  show cond false _ _ = _
  rw [cond_false]
  show cond (decide (n = ((s.length : Nat) : Int))) _ _ = _
  rw [cdn (by omega)]
  show gd (0 ≤ n ∧ n < ((s.length : Nat) : Int)) _ = _
  rw [gdp (by omega)]
  show (f418 k (s.getD n.toNat 0)).bind _ = _
  rw [h.get]
  have : f418 k c = some (c, true) := by
    have : c = 34 ∨ c = 92 := by rcases hc with h | h; exact .inl (UInt8.toNat.inj h); exact .inr (UInt8.toNat.inj h)
    rcases this with rfl | rfl <;> rfl
  rw [this, Option.bind_some, i64w (by omega)]
theorem text_loop (hb : s.length ≤ 20000) : ∀ (m k : Nat) (rest y R : List UInt8) (n : Int), rest.length ≤ m → Lib.validD rest = true → y.length + rest.length ≤ 100000 → At s n (escT rest ++ 34 :: R) →
    f400_l26 s (k + m + 7) y n = some (.r (y ++ rest, 0, n + (((escT rest).length : Nat) : Int) + 1)) := by
  intro m
  induction m with
  | zero =>
    intro k rest y R n hm hv hy h
    have : rest = [] := List.length_eq_zero_iff.1 (by omega)
    subst this
    have h : At s n (34 :: R) := h
    have hl := h.len
    rw [List.length_cons] at hl
    rw [f400_l26, cdp (by omega), gdp (by omega), h.sl]
    unfold f336
    rw [u8I_asc R (by decide), Option.bind_some]
    show cond (decide ((((34 : UInt8).toNat : Nat) : Int) = 34)) _ _ = _
    rw [cdp (by decide), i64w (by omega), List.append_nil]
    show some (LR2.r (y, (0 : Int), n + 1)) = some (.r (y, (0 : Int), n + ((0 : Nat) : Int) + 1))
    rw [show n + ((0 : Nat) : Int) + 1 = n + 1 by omega]
  | succ m ih =>
    intro k rest y R n hm hv hy h
    match rest, hm, hv, hy, h with
    | [], hm, hv, hy, h =>
      have := ih (k + 1) [] y R n (by simp) hv hy h
      rw [show k + (m + 1) + 7 = k + 1 + m + 7 by omega]
      exact this
    | c :: t, hm, hv, hy, h =>
      have hcl := c.toNat_lt
      rw [List.length_cons] at hm hy
      by_cases ha : c.toNat < 128
      · rw [Lib.validD_cons c t ha] at hv
        rw [escT_cons, List.append_assoc] at h
        by_cases hq : c.toNat = 34 ∨ c.toNat = 92
        · have eB : escB c = [92, c] := if_pos hq
          rw [eB] at h
          have h : At s n (92 :: c :: (escT t ++ 34 :: R)) := h
          have hl := h.len
          simp only [List.length_cons] at hl
          have := ih k t (y ++ [c]) R (n + 1 + 1) (by omega) hv (by simp only [List.length_append, List.length_cons, List.length_nil]; omega) h.next.next
          rw [show k + (m + 1) + 7 = (k + m + 7) + 1 by omega, f400_l26, cdp (by omega), gdp (by omega), h.sl]
          unfold f336
          rw [u8I_asc _ (by decide), Option.bind_some]
          show cond (decide ((((92 : UInt8).toNat : Nat) : Int) = 34)) _ _ = _
          rw [cdn (by decide)]
          show cond (decide ((((92 : UInt8).toNat : Nat) : Int) = 92)) _ _ = _
          rw [cdp (by decide), i64w (by omega), esc_sim _ hq h.next hb, Option.bind_some]
          show cond false _ _ = _
          rw [cond_false, gdp (by simp only [List.length_cons, List.length_nil]; omega)]
          show f400_l26 s (k + m + 7) (y ++ [c]) (n + 1 + 1) = _
          rw [this, escT_cons, eB, List.append_assoc]
          simp only [List.cons_append, List.nil_append, List.length_cons]
          congr 3
          congr 1
          omega
        · by_cases hc : c.toNat < 32
          · have eB : escB c = [92, 117, 48, 48, hexd (c.toNat / 16), hexd (c.toNat % 16)] := by unfold escB; rw [if_neg hq, if_pos hc]
            rw [eB] at h
            have h : At s n (92 :: 117 :: 48 :: 48 :: hexd (c.toNat / 16) :: hexd (c.toNat % 16) :: (escT t ++ 34 :: R)) := h
            have hl := h.len
            simp only [List.length_cons] at hl
            have h6 : At s (n + 1 + 5) (escT t ++ 34 :: R) := by
              have := h.next.next.next.next.next.next
              rwa [show n + 1 + 1 + 1 + 1 + 1 + 1 = n + 1 + 5 by omega] at this
            have := ih k t (y ++ [c]) R (n + 1 + 5) (by omega) hv (by simp only [List.length_append, List.length_cons, List.length_nil]; omega) h6
            rw [show k + (m + 1) + 7 = (k + m + 7) + 1 by omega, f400_l26, cdp (by omega), gdp (by omega), h.sl]
            unfold f336
            rw [u8I_asc _ (by decide), Option.bind_some]
            show cond (decide ((((92 : UInt8).toNat : Nat) : Int) = 34)) _ _ = _
            rw [cdn (by decide)]
            show cond (decide ((((92 : UInt8).toNat : Nat) : Int) = 92)) _ _ = _
            rw [cdp (by decide), i64w (by omega), show k + m + 7 = (k + m + 2) + 5 by omega, esc_ctl _ hc h.next hb, Option.bind_some]
            show cond false _ _ = _
            rw [cond_false, gdp (by simp only [List.length_cons, List.length_nil]; omega)]
            show f400_l26 s (k + m + 7) (y ++ [c]) (n + 1 + 5) = _
            rw [this, escT_cons, eB, List.append_assoc]
            simp only [List.cons_append, List.nil_append, List.length_cons]
            congr 3
            congr 1
            omega
          · have eB : escB c = [c] := by unfold escB; rw [if_neg hq, if_neg hc]
            rw [eB] at h
            have h : At s n (c :: (escT t ++ 34 :: R)) := h
            have hl := h.len
            simp only [List.length_cons] at hl
            have := ih k t (y ++ [c]) R (n + 1) (by omega) hv (by simp only [List.length_append, List.length_cons, List.length_nil]; omega) h.next
            rw [show k + (m + 1) + 7 = (k + m + 7) + 1 by omega, f400_l26, cdp (by omega), gdp (by omega), h.sl]
            unfold f336
            rw [u8I_asc _ ha, Option.bind_some]
            show cond (decide ((c.toNat : Int) = 34)) _ _ = _
            rw [cdn (by omega)]
            show cond (decide ((c.toNat : Int) = 92)) _ _ = _
            rw [cdn (by omega)]
            show cond (decide ((c.toNat : Int) < 32)) _ _ = _
            rw [cdn (by omega)]
            show cond (decide ((c.toNat : Int) = 65533)) _ _ = _
            rw [cdn (by omega)]
            unfold f400_j153
            rw [cond_false]
            show gd (0 ≤ n ∧ n ≤ IntKind.i64.wrap (n + 1) ∧ IntKind.i64.wrap (n + 1) ≤ ((s.length : Nat) : Int)) (gd ((y.length + (sl s n (IntKind.i64.wrap (n + 1))).length) * 2 * 1 ≤ 281474976710656) (f400_l26 s (k + m + 7) (y ++ sl s n (IntKind.i64.wrap (n + 1))) (IntKind.i64.wrap (n + 1)))) = _
            rw [i64w (by omega), gdp (by omega), h.sl1, gdp (by simp only [List.length_cons, List.length_nil]; omega), this, escT_cons, eB, List.append_assoc]
            simp only [List.cons_append, List.nil_append, List.length_cons]
            congr 3
            congr 1
            omega
      · obtain ⟨x, rest, r, e, l2, l4, hx, hv', hr, hr', hdec⟩ := rune_step (c :: t) t c rfl (by omega) hv
        rw [e] at h ⊢
        have hlen : t.length + 1 = x.length + rest.length := by have := congrArg List.length e; simpa using this
        rw [escT_high x rest hx, List.append_assoc] at h
        have hl := h.len
        simp only [List.length_append, List.length_cons] at hl
        obtain ⟨x0, x', ex⟩ : ∃ x0 x', x = x0 :: x' := by cases x with | nil => simp at l2 | cons a b => exact ⟨a, b, rfl⟩
        have := ih k rest (y ++ x) R (n + ((x.length : Nat) : Int)) (by omega) hv' (by simp only [List.length_append]; omega) h.skip
        have hs : sl s n (n + ((x.length : Nat) : Int)) = x := by
          obtain ⟨P, hP, hn⟩ := h
          subst hP hn
          unfold sl
          rw [show (((P.length : Nat) : Int) + ((x.length : Nat) : Int)).toNat = P.length + x.length by omega, Int.toNat_natCast, List.take_append, List.take_of_length_le (by omega), show P.length + x.length - P.length = x.length by omega, List.take_left', List.drop_left']
          · rfl
          · rfl
        rw [show k + (m + 1) + 7 = (k + m + 7) + 1 by omega, f400_l26, cdp (by omega), gdp (by omega), h.sl]
        unfold f336
        have eu : u8I (x ++ (escT rest ++ 34 :: R)) = ((r : Int), ((x.length : Nat) : Int)) := by
          have := hdec (escT rest ++ 34 :: R)
          rw [ex, List.cons_append] at this ⊢
          rw [u8I_cons, this]
        rw [eu, Option.bind_some]
        show cond (decide ((r : Int) = 34)) _ _ = _
        rw [cdn (by omega)]
        show cond (decide ((r : Int) = 92)) _ _ = _
        rw [cdn (by omega)]
        show cond (decide ((r : Int) < 32)) _ _ = _
        rw [cdn (by omega)]
        show cond (decide ((r : Int) = 65533)) (f400_j153 (f400_l26 s (k + m + 7)) (k + m + 7) n ((r : Int), ((x.length : Nat) : Int)) s y (decide (((x.length : Nat) : Int) = 1))) (f400_j153 (f400_l26 s (k + m + 7)) (k + m + 7) n ((r : Int), ((x.length : Nat) : Int)) s y false) = _
        have e1 : decide (((x.length : Nat) : Int) = 1) = false := decide_eq_false (by omega)
        rw [e1, show ∀ {α : Type} (b : Bool) (z : α), cond b z z = z from fun b z => by cases b <;> rfl]
        unfold f400_j153
        rw [cond_false]
        show gd (0 ≤ n ∧ n ≤ IntKind.i64.wrap (n + ((x.length : Nat) : Int)) ∧ IntKind.i64.wrap (n + ((x.length : Nat) : Int)) ≤ ((s.length : Nat) : Int)) (gd ((y.length + (sl s n (IntKind.i64.wrap (n + ((x.length : Nat) : Int)))).length) * 2 * 1 ≤ 281474976710656) (f400_l26 s (k + m + 7) (y ++ sl s n (IntKind.i64.wrap (n + ((x.length : Nat) : Int)))) (IntKind.i64.wrap (n + ((x.length : Nat) : Int))))) = _
        rw [i64w (by omega), gdp (by omega), hs, gdp (by omega), this, escT_high x rest hx, List.append_assoc, List.length_append]
        congr 3
        congr 1
        omega
/-- A QUOTED TEXT IS READ AS IT WAS. -/
theorem text_at (k : Nat) (t : List UInt8) (hv : Lib.validD t = true) (hb : s.length ≤ 20000) (ht : t.length ≤ 20000) (h : At s n (quo t ++ R)) : f400 (k + t.length + 7) s n = some (t, 0, n + (((quo t).length : Nat) : Int)) := by
  have h : At s n (34 :: (escT t ++ 34 :: R)) := by
    have : quo t ++ R = 34 :: (escT t ++ 34 :: R) := by simp [quo]
    rwa [this] at h
  unfold f400
  rw [is_yes _ h hb, Option.bind_some]
  show cond false _ _ = _
  rw [cond_false]
  show (f400_l26 s (k + t.length + 7) [] (n + 1)).bind _ = _
  rw [text_loop hb t.length k t [] R (n + 1) (Nat.le_refl _) hv (by simp; omega) h.next, Option.bind_some]
  show some (([] : List UInt8) ++ t, (0 : Int), n + 1 + (((escT t).length : Nat) : Int) + 1) = _
  rw [List.nil_append]
  simp only [quo, List.length_cons, List.length_append, List.length_nil]
  congr 3
  omega
end Go.Proofs.Abs
