/- Two parsers of json at the same place: strings. -/
import Derived.Test.YtnhjiioiejpbgaaDoorPKp3
set_option linter.unusedSimpArgs false
namespace Go.Proofs.Abs
open Go
set_option linter.unusedVariables false
set_option maxRecDepth 100000
variable {s R : List UInt8} {n : Int} {c : UInt8}
theorem encL_len (v : Int) : (encL v).length ≤ 4 := by
  unfold encL Utf8.encode
  simp only
  repeat' split
  all_goals simp
def pl (c : UInt8) : Option UInt8 := if c.toNat = 34 ∨ c.toNat = 92 ∨ c.toNat = 47 then some c else if c.toNat = 98 then some 8 else if c.toNat = 102 then some 12 else if c.toNat = 110 then some 10 else if c.toNat = 114 then some 13 else if c.toNat = 116 then some 9 else none
def plR (c : UInt8) : UInt8 × Bool := match pl c with | some x => (x, true) | none => (0, false)
theorem pl_fin : ∀ x : Fin 256, f418 0 (UInt8.ofNat x.val) = some (plR (UInt8.ofNat x.val)) := by decide
theorem pl_at (k : Nat) (c : UInt8) : f418 k c = some (plR c) := by
  have := pl_fin ⟨c.toNat, c.toNat_lt⟩
  simp only [UInt8.ofNat_toNat] at this
  exact this
theorem esc_ref (K : Nat) (h : At s n (c :: R)) (hb : s.length ≤ 20000) : f301 K s n 0 = if c.toNat = 117 then refU K s (n + 1) else match pl c with | some x => some ([x], n + 1, 0) | none => some ([], n + 1, 4) := by
  have hl := h.len
  rw [List.length_cons] at hl
  have w1 : IntKind.i64.wrap (n + 1) = n + 1 := i64w (by omega)
  unfold f301
  rw [cdn (by omega), gdp (by omega), h.get]
  have t : f301_j80 K s n 0 true = some ([c], n + 1, 0) := by unfold f301_j80; rw [cond_true, h.get, w1]
  by_cases a1 : c.toNat = 34
  · rw [cdp (by omega), decide_eq_true (by omega), t, if_neg (by omega)]
    have : pl c = some c := if_pos (.inl a1)
    rw [this]
  rw [cdn (by omega)]
  by_cases a2 : c.toNat = 92
  · rw [cdp (by omega), decide_eq_true (by omega), t, if_neg (by omega)]
    have : pl c = some c := if_pos (.inr (.inl a2))
    rw [this]
  rw [cdn (by omega)]
  by_cases a3 : c.toNat = 47
  · rw [decide_eq_true (by omega), t, if_neg (by omega)]
    have : pl c = some c := if_pos (.inr (.inr a3))
    rw [this]
  rw [decide_eq_false (by omega)]
  unfold f301_j80
  rw [cond_false, h.get, w1]
  unfold pl
  rw [if_neg (c := c.toNat = 34 ∨ c.toNat = 92 ∨ c.toNat = 47) (by omega)]
  by_cases b1 : c.toNat = 98
  · rw [cdp (by omega), if_neg (by omega), if_pos b1]
  rw [cdn (by omega), if_neg b1]
  by_cases b2 : c.toNat = 102
  · rw [cdp (by omega), if_neg (by omega), if_pos b2]
  rw [cdn (by omega), if_neg b2]
  by_cases b3 : c.toNat = 110
  · rw [cdp (by omega), if_neg (by omega), if_pos b3]
  rw [cdn (by omega), if_neg b3]
  by_cases b4 : c.toNat = 114
  · rw [cdp (by omega), if_neg (by omega), if_pos b4]
  rw [cdn (by omega), if_neg b4]
  by_cases b5 : c.toNat = 116
  · rw [cdp (by omega), if_neg (by omega), if_pos b5]
  rw [cdn (by omega), if_neg b5]
  by_cases b6 : c.toNat = 117
  · rw [cdp (by omega), if_pos b6]
    rfl
  · rw [cdn (by omega), if_neg b6]
    rfl
theorem esc2 (hb : s.length ≤ 20000) (K : Nat) (hK : 6 ≤ K) (h : At s n R) :
    (∃ t n' R', f402 K s n = some (t, true, n') ∧ f301 K s n 0 = some (t, n', 0) ∧ At s n' R' ∧ R'.length ≤ R.length ∧ t.length ≤ 4) ∨
    ((∃ t n1, f402 K s n = some (t, false, n1)) ∧ ∃ t n2 R2, f301 K s n 0 = some (t, n2, 4) ∧ t.length ≤ 4 ∧ At s n2 R2 ∧ R2.length ≤ R.length) := by
  have hl := h.len
  match R, h, hl with
  | [], h, hl =>
    rw [List.length_nil] at hl
    refine .inr ⟨⟨[], n, ?_⟩, [], n, [], ?_, by simp, h, Nat.le_refl _⟩
    · unfold f402
      rw [is_end K 117 h, Option.bind_some]
      show cond false _ (cond (decide (n = ((s.length : Nat) : Int))) _ _) = _
      rw [cond_false, cdp (by omega)]
    · unfold f301
      rw [cdp (by omega)]
      rfl
  | c :: t, h, hl =>
    rw [List.length_cons] at hl
    rw [esc_ref K h hb]
    by_cases hu : c.toNat = 117
    · have : c = 117 := UInt8.toNat.inj hu
      subst this
      rw [if_pos hu]
      have p : f402 K s n = (f416 K s (n + 1)).bind fun r17 => (f417 K ([] : List UInt8) r17.1).bind fun r27 => some (r27, r17.2.1, r17.2.2) := by
        unfold f402
        rw [is_yes K h hb, Option.bind_some]
        rfl
      rcases sign2 hb K hK h.next with ⟨v, n', R', hv, g1, g2, g3, g4⟩ | ⟨⟨n1, g1⟩, n2, R2, g2, g3, g4⟩
      · refine .inl ⟨encL (v : Int), n', R', ?_, g2, g3, by simp; omega, encL_len _⟩
        rw [p, g1, Option.bind_some, append_enc K v hv]
        rfl
      · refine .inr ⟨⟨encL ((0 : Nat) : Int), n1, ?_⟩, [], n2, R2, g2, by simp, g3, by simp; omega⟩
        rw [p, g1, Option.bind_some]
        show Option.bind (f417 K [] ((0 : Nat) : Int)) _ = _
        rw [append_enc K 0 (.inl (by omega))]
        rfl
    · rw [if_neg hu]
      have p : f402 K s n = some ([(plR c).1], (plR c).2, n + 1) := by
        unfold f402
        rw [is_no K h (by rw [show ((117 : UInt8).toNat : Int) = 117 from rfl]; omega), Option.bind_some]
        show cond false _ (cond (decide (n = ((s.length : Nat) : Int))) _ (gd (0 ≤ n ∧ n < ((s.length : Nat) : Int)) ((f418 K (s.getD n.toNat 0)).bind _))) = _
        rw [cond_false, cdn (by omega), gdp (by omega), h.get, pl_at, Option.bind_some, i64w (by omega)]
      rw [p]
      unfold plR
      cases hp : pl c with
      | some x => exact .inl ⟨[x], n + 1, t, rfl, rfl, h.next, by simp, by simp⟩
      | none => exact .inr ⟨⟨[0], n + 1, rfl⟩, [], n + 1, t, rfl, by simp, h.next, by simp⟩
theorem text2 (hb : s.length ≤ 20000) : ∀ (m : Nat) (R : List UInt8) (n : Int) (y : List UInt8) (K : Nat), R.length ≤ m → At s n R → R.length + 12 ≤ K → y.length + 4 * R.length ≤ 100000 →
    (∃ t n' R', f400_l26 s K y n = some (.r (t, 0, n')) ∧ f300_l10 s K y n 0 = some (.r (t, n', 0)) ∧ At s n' R' ∧ R'.length < R.length) ∨
    ((∃ n1, f400_l26 s K y n = some (.r ([], 4, n1)) ∨ f400_l26 s K y n = some (.b0 n1)) ∧ ∃ n2 R2, f300_l10 s K y n 0 = some (.b0 (n2, 4)) ∧ At s n2 R2 ∧ R2.length ≤ R.length) := by
  intro m
  induction m with
  | zero =>
    intro R n y K hm h hK hy
    have : R = [] := List.length_eq_zero_iff.1 (by omega)
    subst this
    obtain ⟨K, rfl⟩ : ∃ i, K = i + 1 := ⟨K - 1, by omega⟩
    have hl := h.len
    rw [List.length_nil] at hl
    refine .inr ⟨⟨n, .inr ?_⟩, n, [], ?_, h, Nat.le_refl _⟩
    · rw [f400_l26, cdn (by omega)]
    · rw [f300_l10, cdp rfl, cdp (by omega)]
      rfl
  | succ m ih =>
    intro R n y K hm h hK hy
    match R, h, hm, hK, hy with
    | [], h, hm, hK, hy => exact ih [] n y K (by simp) h hK hy
    | c :: t, h, hm, hK, hy =>
      obtain ⟨K, rfl⟩ : ∃ i, K = i + 1 := ⟨K - 1, by omega⟩
      have hl := h.len
      have hcl := c.toNat_lt
      rw [List.length_cons] at hl hm hK hy
      obtain ⟨r, w, hu, hr, hrr, hw1, hw2⟩ : ∃ r w : Nat, u8I (c :: t) = ((r : Int), (w : Int)) ∧ (c.toNat < 128 ∧ r = c.toNat ∨ 128 ≤ c.toNat ∧ 128 ≤ r) ∧ r ≤ 1114111 ∧ 1 ≤ w ∧ w ≤ (c :: t).length := by
        by_cases ha : c.toNat < 128
        · exact ⟨c.toNat, 1, u8I_asc t ha, .inl ⟨ha, rfl⟩, by omega, Nat.le_refl _, by simp⟩
        · obtain ⟨r, w, a1, a2, a3, a4, a5⟩ := dec_big c t (by omega)
          exact ⟨r, w, a1, .inr ⟨by omega, a2⟩, a3, a4, a5⟩
      have pp : ∀ {x}, (cond (decide ((r : Int) = (34 : Int))) (some (LR2.r (y, (0 : Int), (IntKind.i64.wrap (n + (1 : Int)))))) (cond (decide ((r : Int) = (92 : Int))) ((f402 K s (IntKind.i64.wrap (n + (1 : Int)))).bind fun r113 => cond (!r113.2.1) (some (LR2.r (([] : List UInt8), (4 : Int), r113.2.2))) (gd ((y.length + r113.1.length) * 2 * 1 ≤ 281474976710656) (f400_l26 s K (y ++ r113.1) r113.2.2))) (cond (decide ((r : Int) < (32 : Int))) (f400_j153 (f400_l26 s K) K n ((r : Int), (w : Int)) s y true) (cond (decide ((r : Int) = (65533 : Int))) (f400_j153 (f400_l26 s K) K n ((r : Int), (w : Int)) s y (decide ((w : Int) = (1 : Int)))) (f400_j153 (f400_l26 s K) K n ((r : Int), (w : Int)) s y false))))) = x → f400_l26 s (K + 1) y n = x := by
        intro x hx
        rw [← hx, f400_l26, cdp (by omega), gdp (by omega), h.sl]
        unfold f336
        rw [hu, Option.bind_some]
      have w1 : IntKind.i64.wrap (n + 1) = n + 1 := i64w (by omega)
      by_cases c1 : c.toNat < 32
      · refine .inr ⟨⟨n, .inl (pp ?_)⟩, n, c :: t, ?_, h, Nat.le_refl _⟩
        · rw [cdn (by omega), cdn (by omega), cdp (by omega)]
          rfl
        · rw [f300_l10, cdp rfl, cdn (by omega), gdp (by omega), h.get, cdp (by omega)]
          rfl
      by_cases c2 : c.toNat = 34
      · refine .inl ⟨y, n + 1, t, pp ?_, ?_, h.next, by simp⟩
        · rw [cdp (by omega), w1]
        · rw [f300_l10, cdp rfl, cdn (by omega), gdp (by omega), h.get, cdn (by omega), gdp (by omega), cdp (by omega), w1]
      by_cases c3 : c.toNat = 92
      · have rr : ∀ {x}, ((f301 K s (n + 1) 0).bind fun r120 => gd (y.length + r120.1.length ≤ 9223372036854775807) (f300_l10 s K (y ++ r120.1) r120.2.1 r120.2.2)) = x → f300_l10 s (K + 1) y n 0 = x := by
          intro x hx
          rw [← hx, f300_l10, cdp rfl, cdn (by omega), gdp (by omega), h.get, cdn (by omega), gdp (by omega), cdn (by omega), cdp (by omega), w1]
        rcases esc2 hb K (by omega) h.next with ⟨t', n', R', g1, g2, g3, g4, g5⟩ | ⟨⟨t1, n1, g1⟩, t2, n2, R2, g2, g5, g3, g4⟩
        · have p0 : f400_l26 s (K + 1) y n = f400_l26 s K (y ++ t') n' := pp (by
            rw [cdn (by omega), cdp (by omega), w1, g1, Option.bind_some]
            show cond false _ (gd ((y.length + t'.length) * 2 * 1 ≤ 281474976710656) _) = _
            rw [cond_false, gdp (by omega)])
          have r0 : f300_l10 s (K + 1) y n 0 = f300_l10 s K (y ++ t') n' 0 := rr (by
            rw [g2, Option.bind_some]
            show gd (y.length + t'.length ≤ 9223372036854775807) _ = _
            rw [gdp (by omega)])
          rw [p0, r0]
          rcases ih R' n' (y ++ t') K (by omega) g3 (by omega) (by rw [List.length_append]; omega) with ⟨t3, n3, R3, k1, k2, k3, k4⟩ | ⟨k1, n3, R3, k2, k3, k4⟩
          · exact .inl ⟨t3, n3, R3, k1, k2, k3, by simp; omega⟩
          · exact .inr ⟨k1, n3, R3, k2, k3, by simp; omega⟩
        · refine .inr ⟨⟨n1, .inl (pp ?_)⟩, n2, R2, rr ?_, g3, by simp; omega⟩
          · rw [cdn (by omega), cdp (by omega), w1, g1]
            rfl
          · rw [g2, Option.bind_some]
            show gd (y.length + t2.length ≤ 9223372036854775807) (f300_l10 s K (y ++ t2) n2 4) = _
            obtain ⟨K, rfl⟩ : ∃ i, K = i + 1 := ⟨K - 1, by omega⟩
            rw [gdp (by omega), f300_l10, cdn (by omega)]
      · have rr : ∀ {x}, (cond (decide ((r : Int) = (65533 : Int))) (cond (decide ((w : Int) < (2 : Int))) ((f298 K s n 0 (4 : Int)).bind fun r158 => some (LR2.b0 (n, r158))) (f300_j161 (f300_l10 s K) K n ((r : Int), (w : Int)) s y 0)) (f300_j161 (f300_l10 s K) K n ((r : Int), (w : Int)) s y 0)) = x → f300_l10 s (K + 1) y n 0 = x := by
          intro x hx
          rw [← hx, f300_l10, cdp rfl, cdn (by omega), gdp (by omega), h.get, cdn (by omega), gdp (by omega), cdn (by omega), cdn (by omega), gdp (by omega), h.sl]
          unfold f336
          rw [hu, Option.bind_some]
        by_cases c4 : r = 65533 ∧ w = 1
        · refine .inr ⟨⟨n, .inl (pp ?_)⟩, n, c :: t, rr ?_, h, Nat.le_refl _⟩
          · rw [cdn (by omega), cdn (by omega), cdn (by omega), cdp (by omega), decide_eq_true (by omega)]
            rfl
          · rw [cdp (by omega), cdp (by omega)]
            rfl
        · have hA : At s (n + (w : Int)) ((c :: t).drop w) := by
            have : At s n ((c :: t).take w ++ (c :: t).drop w) := by rw [List.take_append_drop]; exact h
            have := this.skip
            rwa [List.length_take, Nat.min_eq_left hw2] at this
          have hsl : Abs.sl s n (n + (w : Int)) = (c :: t).take w := h.slk w hw2
          rw [List.length_cons] at hw2
          have wn : IntKind.i64.wrap (n + (w : Int)) = n + (w : Int) := i64w (by omega)
          have tl : ((c :: t).take w).length = w := by rw [List.length_take, List.length_cons]; omega
          have dl : ((c :: t).drop w).length = t.length + 1 - w := by rw [List.length_drop, List.length_cons]
          have pj : f400_j153 (f400_l26 s K) K n ((r : Int), (w : Int)) s y false = f400_l26 s K (y ++ (c :: t).take w) (n + (w : Int)) := by
            unfold f400_j153
            rw [cond_false]
            show gd (0 ≤ n ∧ n ≤ IntKind.i64.wrap (n + (w : Int)) ∧ IntKind.i64.wrap (n + (w : Int)) ≤ ((s.length : Nat) : Int)) (gd ((y.length + (Abs.sl s n (IntKind.i64.wrap (n + (w : Int)))).length) * 2 * 1 ≤ 281474976710656) (f400_l26 s K (y ++ Abs.sl s n (IntKind.i64.wrap (n + (w : Int)))) (IntKind.i64.wrap (n + (w : Int))))) = _
            rw [wn, gdp (by omega), hsl, gdp (by omega)]
          have rj : f300_j161 (f300_l10 s K) K n ((r : Int), (w : Int)) s y 0 = f300_l10 s K (y ++ (c :: t).take w) (n + (w : Int)) 0 := by
            unfold f300_j161
            show gd (0 ≤ n ∧ n ≤ IntKind.i64.wrap (n + (w : Int)) ∧ IntKind.i64.wrap (n + (w : Int)) ≤ ((s.length : Nat) : Int)) (gd (y.length + (Abs.sl s n (IntKind.i64.wrap (n + (w : Int)))).length ≤ 9223372036854775807) (f300_l10 s K (y ++ Abs.sl s n (IntKind.i64.wrap (n + (w : Int)))) (IntKind.i64.wrap (n + (w : Int))) 0)) = _
            rw [wn, gdp (by omega), hsl, gdp (by omega)]
          have p0 : f400_l26 s (K + 1) y n = f400_l26 s K (y ++ (c :: t).take w) (n + (w : Int)) := pp (by
            rw [cdn (by omega), cdn (by omega), cdn (by omega)]
            by_cases c5 : r = 65533
            · rw [cdp (by omega), decide_eq_false (by omega), pj]
            · rw [cdn (by omega), pj])
          have r0 : f300_l10 s (K + 1) y n 0 = f300_l10 s K (y ++ (c :: t).take w) (n + (w : Int)) 0 := rr (by
            by_cases c5 : r = 65533
            · rw [cdp (by omega), cdn (by omega), rj]
            · rw [cdn (by omega), rj])
          rw [p0, r0]
          rcases ih ((c :: t).drop w) (n + (w : Int)) (y ++ (c :: t).take w) K (by omega) hA (by omega) (by rw [List.length_append]; omega) with ⟨t3, n3, R3, k1, k2, k3, k4⟩ | ⟨k1, n3, R3, k2, k3, k4⟩
          · exact .inl ⟨t3, n3, R3, k1, k2, k3, by simp; omega⟩
          · exact .inr ⟨k1, n3, R3, k2, k3, by simp; omega⟩
/-- a string, from its first quote -/
theorem texts (hb : s.length ≤ 20000) (K : Nat) (h : At s n (34 :: R)) (hK : R.length + 12 ≤ K) :
    (∃ t n' R', f400 K s n = some (t, 0, n') ∧ f300 K s (n + 1) 0 = some (t, n', 0) ∧ At s n' R' ∧ R'.length < R.length) ∨
    ((∃ t n1, f400 K s n = some (t, 4, n1)) ∧ ∃ n2 R2, f300 K s (n + 1) 0 = some ([], n2, 4) ∧ At s n2 R2 ∧ R2.length ≤ R.length) := by
  have hl := h.len
  rw [List.length_cons] at hl
  have p : f400 K s n = (f400_l26 s K ([] : List UInt8) (n + 1)).bind fun o26 => (match o26 with | .b0 x26_1 => some (([] : List UInt8), (4 : Int), x26_1) | .r x => some x | _ => none) := by
    unfold f400
    rw [is_yes K h hb, Option.bind_some]
    rfl
  rw [p]
  unfold f300
  rcases text2 hb R.length R (n + 1) [] K (Nat.le_refl _) h.next hK (by simp; omega) with ⟨t, n', R', g1, g2, g3, g4⟩ | ⟨⟨n1, g1⟩, n2, R2, g2, g3, g4⟩
  · rw [g1, g2]
    exact .inl ⟨t, n', R', rfl, rfl, g3, g4⟩
  · rw [g2]
    refine .inr ⟨?_, n2, R2, rfl, g3, g4⟩
    rcases g1 with g1 | g1
    · rw [g1]; exact ⟨[], n1, rfl⟩
    · rw [g1]; exact ⟨[], n1, rfl⟩
end Go.Proofs.Abs
