/- JsonBack: the parser's texts, whatever they are. -/
import Derived.Test.YtnhjiioiejpbgaaDoorPB1
import Derived.Test.YtnhjiioiejpbgaaDoorPR7
set_option linter.unusedSimpArgs false
namespace Go.Proofs.Abs
open Go
set_option linter.unusedVariables false
set_option maxRecDepth 100000
variable {s R : List UInt8} {n : Int} {c : UInt8}
/-- four digits of 16, or none -/
theorem four_tot (K : Nat) (h : At s n R) (hb : s.length ≤ 20000) (hK : 10 ≤ K) : (∃ m, f420 K s n = some (0, false, m)) ∨ ∃ (v : Nat) (R' : List UInt8), f420 K s n = some ((v : Int), true, n + 4) ∧ v ≤ 65535 ∧ At s (n + 4) R' ∧ R'.length + 4 = R.length := by
  have hl := h.len
  unfold f420
  by_cases h4 : ((s.length : Nat) : Int) - n < 4
  · rw [i64w (by omega), cdp h4]
    exact .inl ⟨n, rfl⟩
  · rw [i64w (by omega), cdn h4]
    obtain ⟨K, rfl⟩ : ∃ j, K = j + 5 := ⟨K - 5, by omega⟩
    match R, h, hl with
    | [], h, hl => simp at hl; omega
    | [_], h, hl => simp at hl; omega
    | [_, _], h, hl => simp at hl; omega
    | [_, _, _], h, hl => simp at hl; omega
    | c0 :: c1 :: c2 :: c3 :: R', h, hl =>
      have p0 := pstep (K + 4) 0 0 h hb (by omega) (by omega)
      have p0 : f420_l38 s (K + 4 + 1) 0 0 n = _ := p0
      rw [show K + 5 = K + 4 + 1 by omega, p0]
      cases e0 : hv c0 with
      | none => exact .inl ⟨n + 1, rfl⟩
      | some d0 =>
        have l0 := hv_le e0
        have p1 := pstep (K + 3) (16 * 0 + d0) 1 h.next hb (by omega) (by omega)
        have p1 : f420_l38 s (K + 3 + 1) (16 * ((0 : Nat) : Int) + (d0 : Int)) (0 + 1) (n + 1) = _ := p1
        dsimp only
        rw [show K + 4 = K + 3 + 1 by omega, p1]
        cases e1 : hv c1 with
        | none => exact .inl ⟨n + 1 + 1, rfl⟩
        | some d1 =>
          have l1 := hv_le e1
          have p2 := pstep (K + 2) (16 * (16 * 0 + d0) + d1) 2 h.next.next hb (by omega) (by omega)
          have p2 : f420_l38 s (K + 2 + 1) (16 * ((16 * 0 + d0 : Nat) : Int) + (d1 : Int)) (1 + 1) (n + 1 + 1) = _ := p2
          dsimp only
          rw [show K + 3 = K + 2 + 1 by omega, p2]
          cases e2 : hv c2 with
          | none => exact .inl ⟨n + 1 + 1 + 1, rfl⟩
          | some d2 =>
            have l2 := hv_le e2
            have p3 := pstep (K + 1) (16 * (16 * (16 * 0 + d0) + d1) + d2) 3 h.next.next.next hb (by omega) (by omega)
            have p3 : f420_l38 s (K + 1 + 1) (16 * ((16 * (16 * 0 + d0) + d1 : Nat) : Int) + (d2 : Int)) (2 + 1) (n + 1 + 1 + 1) = _ := p3
            dsimp only
            rw [show K + 2 = K + 1 + 1 by omega, p3]
            cases e3 : hv c3 with
            | none => exact .inl ⟨n + 1 + 1 + 1 + 1, rfl⟩
            | some d3 =>
              have l3 := hv_le e3
              dsimp only
              rw [f420_l38, cdn (by omega)]
              refine .inr ⟨16 * (16 * (16 * (16 * 0 + d0) + d1) + d2) + d3, R', ?_, by omega, ?_, by simp⟩
              · rw [Option.bind_some]
                show some (16 * ((16 * (16 * (16 * 0 + d0) + d1) + d2 : Nat) : Int) + (d3 : Int), true, n + 1 + 1 + 1 + 1) = _
                rw [show n + 1 + 1 + 1 + 1 = n + 4 by omega, show 16 * ((16 * (16 * (16 * 0 + d0) + d1) + d2 : Nat) : Int) + (d3 : Int) = ((16 * (16 * (16 * (16 * 0 + d0) + d1) + d2) + d3 : Nat) : Int) by omega]
              · have := h.next.next.next.next
                rwa [show n + 1 + 1 + 1 + 1 = n + 4 by omega] at this
/-- is a sign here? -/
theorem is_tot (K : Nat) (d : UInt8) (h : At s n R) (hb : s.length ≤ 20000) : f401 K s n d = some (false, n) ∨ ∃ R', f401 K s n d = some (true, n + 1) ∧ At s (n + 1) R' ∧ R'.length + 1 = R.length ∧ R = d :: R' := by
  cases R with
  | nil => exact .inl (is_end K d h)
  | cons c R' =>
    by_cases hc : ((c.toNat : Nat) : Int) = ((d.toNat : Nat) : Int)
    · have e : c = d := UInt8.toNat.inj (by omega)
      subst e
      exact .inr ⟨R', is_yes K h hb, h.next, by simp, rfl⟩
    · exact .inl (is_no K h hc)
/-- the second half of a pair -/
theorem pair_tot (K : Nat) (v : Nat) (h : At s n R) (hb : s.length ≤ 20000) (hK : 10 ≤ K) (hv0 : 55296 ≤ v) (hv1 : v ≤ 57343) : (∃ m : Int, f416_j30 K ((v : Int), true, n) s false = some ((0 : Int), false, m)) ∨ ∃ (v' : Nat) (m : Int) (R' : List UInt8), f416_j30 K ((v : Int), true, n) s false = some ((v' : Int), true, m) ∧ (57343 < v' ∧ v' ≤ 1114111) ∧ At s m R' ∧ R'.length + 6 = R.length := by
  have e10 : (2 : Int) ^ (min ((10 : Int)).toNat IntKind.i32.bits) = 1024 := rfl
  unfold f416_j30
  rw [e10]
  dsimp only
  rw [cond_false]
  by_cases c3 : (v : Int) ≥ 56320
  · rw [cdp c3]
    exact .inl ⟨_, rfl⟩
  · rw [cdn c3]
    rcases is_tot K 92 h hb with e2 | ⟨R2, e2, h2, l2, _⟩
    · rw [e2, Option.bind_some]
      dsimp only
      rw [Bool.not_false, cond_true]
      exact .inl ⟨_, rfl⟩
    · rw [e2, Option.bind_some]
      dsimp only
      rw [Bool.not_true, cond_false]
      rcases is_tot K 117 h2 hb with e3 | ⟨R3, e3, h3, l3, _⟩
      · rw [e3, Option.bind_some]
        dsimp only
        rw [Bool.not_false, cond_true]
        exact .inl ⟨_, rfl⟩
      · rw [e3, Option.bind_some]
        dsimp only
        rw [Bool.not_true, cond_false]
        rcases four_tot K h3 hb hK with ⟨m, e4⟩ | ⟨w, R4, e4, hw, h4, l4⟩
        · rw [e4, Option.bind_some]
          dsimp only
          rw [Bool.not_false, cond_true]
          exact .inl ⟨_, rfl⟩
        · rw [e4, Option.bind_some]
          dsimp only
          rw [Bool.not_true, cond_false]
          by_cases c5 : (w : Int) < 56320
          · rw [cdp c5]
            exact .inl ⟨_, rfl⟩
          · by_cases c6 : (w : Int) > 57343
            · rw [cdn c5, cdp c6]
              exact .inl ⟨_, rfl⟩
            · rw [cdn c5, cdn c6, i32w (n := (v : Int) - 55296) (by omega), i32w (n := (w : Int) - 56320) (by omega), i32w (n := ((v : Int) - 55296) * 1024) (by omega), i32w (n := 65536 + ((v : Int) - 55296) * 1024) (by omega), i32w (by omega)]
              have ev : 65536 + ((v : Int) - 55296) * 1024 + ((w : Int) - 56320) = ((65536 + (v - 55296) * 1024 + (w - 56320) : Nat) : Int) := by omega
              rw [ev]
              exact .inr ⟨_, _, R4, rfl, by omega, h4, by omega⟩
/-- a sign that is written as digits -/
theorem sign_tot (K : Nat) (h : At s n R) (hb : s.length ≤ 20000) (hK : 10 ≤ K) : (∃ (v : Nat) (m : Int), f416 K s n = some ((v : Int), false, m) ∧ v = 0) ∨ ∃ (v : Nat) (m : Int) (R' : List UInt8), f416 K s n = some ((v : Int), true, m) ∧ (v < 55296 ∨ (57343 < v ∧ v ≤ 1114111)) ∧ At s m R' ∧ R'.length + (encL (v : Int)).length ≤ R.length := by
  unfold f416
  rcases four_tot K h hb hK with ⟨m, e⟩ | ⟨v, R1, e, hv, h1, l1⟩
  · rw [e, Option.bind_some]
    exact .inl ⟨0, m, rfl, rfl⟩
  · rw [e, Option.bind_some]
    dsimp only
    rw [Bool.not_true, cond_false]
    have ok : (v < 55296 ∨ 57343 < v) → ∃ (v' : Nat) (m : Int) (R' : List UInt8), f416_j30 K ((v : Int), true, n + 4) s true = some ((v' : Int), true, m) ∧ (v' < 55296 ∨ (57343 < v' ∧ v' ≤ 1114111)) ∧ At s m R' ∧ R'.length + (encL (v' : Int)).length ≤ R.length := fun q => by
      have := enc_len3 v (by omega) q
      exact ⟨v, n + 4, R1, rfl, by omega, h1, by omega⟩
    by_cases c1 : (v : Int) < 55296
    · rw [cdp c1]
      exact .inr (ok (.inl (by omega)))
    · rw [cdn c1]
      by_cases c2 : (v : Int) > 57343
      · rw [decide_eq_true c2]
        exact .inr (ok (.inr (by omega)))
      · rw [decide_eq_false c2]
        rcases pair_tot K v h1 hb hK (by omega) (by omega) with ⟨m, e2⟩ | ⟨v', m, R', e2, q1, q2, q3⟩
        · exact .inl ⟨0, m, e2, rfl⟩
        · have := enc_len4 v'
          exact .inr ⟨v', m, R', e2, .inr q1, q2, by omega⟩
/-- what stands behind a backslash -/
theorem esc_tot (K : Nat) (h : At s n R) (hb : s.length ≤ 20000) (hK : 10 ≤ K) : (∃ (b : List UInt8) (m : Int), f402 K s n = some (b, false, m)) ∨ ∃ (b : List UInt8) (m : Int) (R' : List UInt8), f402 K s n = some (b, true, m) ∧ VT b ∧ At s m R' ∧ R'.length + b.length ≤ R.length ∧ R'.length < R.length := by
  unfold f402
  rcases is_tot K 117 h hb with e | ⟨R1, e, h1, l1, _⟩
  · rw [e, Option.bind_some]
    show (∃ (b : List UInt8) (m : Int), cond false _ (cond (decide (n = ((s.length : Nat) : Int))) _ _) = some (b, false, m)) ∨ ∃ (b : List UInt8) (m : Int) (R' : List UInt8), cond false _ (cond (decide (n = ((s.length : Nat) : Int))) _ _) = some (b, true, m) ∧ _
    rw [cond_false]
    have hl := h.len
    cases R with
    | nil =>
      rw [List.length_nil] at hl
      rw [cdp (by omega)]
      exact .inl ⟨_, _, rfl⟩
    | cons c t =>
      rw [List.length_cons] at hl
      rw [cdn (by omega)]
      have pl : ∃ (d : UInt8) (q : Bool), f418 K c = some (d, q) ∧ (q = true → d.toNat < 128) := by
        have hc := c.toNat_lt
        have j31 : ∀ b : Bool, (b = true → c.toNat < 128) → ∃ (d : UInt8) (q : Bool), f418_j31 K c b = some (d, q) ∧ (q = true → d.toNat < 128) := by
          intro b hbb
          unfold f418_j31
          cases b with
          | true => exact ⟨c, true, rfl, hbb⟩
          | false =>
            rw [cond_false]
            by_cases a1 : ((c.toNat : Nat) : Int) = 98
            · rw [cdp a1]; exact ⟨8, true, rfl, fun _ => by decide⟩
            · rw [cdn a1]
              by_cases a2 : ((c.toNat : Nat) : Int) = 102
              · rw [cdp a2]; exact ⟨12, true, rfl, fun _ => by decide⟩
              · rw [cdn a2]
                by_cases a3 : ((c.toNat : Nat) : Int) = 110
                · rw [cdp a3]; exact ⟨10, true, rfl, fun _ => by decide⟩
                · rw [cdn a3]
                  by_cases a4 : ((c.toNat : Nat) : Int) = 114
                  · rw [cdp a4]; exact ⟨13, true, rfl, fun _ => by decide⟩
                  · rw [cdn a4]
                    by_cases a5 : ((c.toNat : Nat) : Int) = 116
                    · rw [cdp a5]; exact ⟨9, true, rfl, fun _ => by decide⟩
                    · rw [cdn a5]; exact ⟨0, false, rfl, fun h => by cases h⟩
        unfold f418
        by_cases b1 : ((c.toNat : Nat) : Int) = 34
        · rw [cdp b1]; exact j31 _ (fun _ => by omega)
        · rw [cdn b1]
          by_cases b2 : ((c.toNat : Nat) : Int) = 92
          · rw [cdp b2]; exact j31 _ (fun _ => by omega)
          · rw [cdn b2]; exact j31 _ (fun q => by have := of_decide_eq_true q; omega)
      obtain ⟨d, q, e1, e2⟩ := pl
      dsimp only
      rw [gdp (by omega), h.get, e1, Option.bind_some, i64w (by omega)]
      cases q with
      | false => exact .inl ⟨_, _, rfl⟩
      | true => exact .inr ⟨[d], n + 1, t, rfl, VT.asc (e2 rfl), h.next, by simp, by simp⟩
  · rw [e, Option.bind_some]
    show (∃ (b : List UInt8) (m : Int), cond true (Option.bind (f416 K s (n + 1)) _) _ = some (b, false, m)) ∨ ∃ (b : List UInt8) (m : Int) (R' : List UInt8), cond true (Option.bind (f416 K s (n + 1)) _) _ = some (b, true, m) ∧ _
    rw [cond_true]
    rcases sign_tot K h1 hb hK with ⟨v, m, e1, e0⟩ | ⟨v, m, R', e1, hv, h2, l2⟩
    · subst e0
      rw [e1, Option.bind_some]
      dsimp only
      rw [append_enc K 0 (by omega)]
      exact .inl ⟨_, _, rfl⟩
    · rw [e1, Option.bind_some]
      dsimp only
      rw [append_enc K v hv]
      exact .inr ⟨_, m, R', rfl, enc_vt v hv, h2, by omega, by omega⟩
theorem textl_tot (hb : s.length ≤ 20000) : ∀ (N : Nat) (R y : List UInt8) (n : Int) (K : Nat), R.length ≤ N → At s n R → y.length + R.length ≤ 30000 → N + 20 ≤ K → VT y →
    ∃ z, f400_l26 s K y n = some z ∧ ((∃ m, z = .b0 m) ∨ ∃ t e m, z = .r (t, e, m) ∧ (e = 0 → VT t ∧ ∃ R', At s m R' ∧ t.length + R'.length + 1 ≤ y.length + R.length)) := by
  intro N
  induction N with
  | zero =>
    intro R y n K hN h hy hK hv
    obtain ⟨K, rfl⟩ : ∃ j, K = j + 1 := ⟨K - 1, by omega⟩
    have hl := h.len
    have : R = [] := List.length_eq_zero_iff.1 (by omega)
    subst this
    rw [List.length_nil] at hl
    exact ⟨.b0 n, by rw [f400_l26, cdn (by omega)], .inl ⟨n, rfl⟩⟩
  | succ N ih =>
    intro R y n K hN h hy hK hv
    obtain ⟨K, rfl⟩ : ∃ j, K = j + 1 := ⟨K - 1, by omega⟩
    have hl := h.len
    by_cases h0 : R = []
    · subst h0
      rw [List.length_nil] at hl
      exact ⟨.b0 n, by rw [f400_l26, cdn (by omega)], .inl ⟨n, rfl⟩⟩
    · have hpos : 0 < R.length := List.length_pos_iff.2 h0
      obtain ⟨r, m, e1, m1, m2, hvt, hasc⟩ := chunk R h0
      rw [f400_l26, cdp (by omega), gdp (by omega), h.sl]
      show ∃ z, Option.bind (some (u8I R)) _ = some z ∧ _
      rw [e1, Option.bind_some]
      by_cases c1 : (r : Int) = 34
      · obtain ⟨t, et, em⟩ := hasc (by omega)
        subst et
        rw [cdp c1]
        refine ⟨.r (y, 0, IntKind.i64.wrap (n + 1)), rfl, .inr ⟨y, 0, _, rfl, fun _ => ⟨hv, t, ?_, by simp; omega⟩⟩⟩
        rw [i64w (by omega)]
        exact h.next
      · rw [cdn c1]
        by_cases c2 : (r : Int) = 92
        · obtain ⟨t, et, em⟩ := hasc (by omega)
          subst et
          rw [List.length_cons] at hN hy hpos hl
          rw [cdp c2, i64w (by omega)]
          rcases esc_tot K h.next hb (by omega) with ⟨b, m', e2⟩ | ⟨b, m', R', e2, vb, h2, l2, l3⟩
          · rw [e2, Option.bind_some]
            exact ⟨.r ([], 4, m'), rfl, .inr ⟨[], 4, m', rfl, fun q => absurd q (by decide)⟩⟩
          · rw [e2, Option.bind_some]
            show ∃ z, cond false _ (gd ((y.length + b.length) * 2 * 1 ≤ 281474976710656) (f400_l26 s K (y ++ b) m')) = some z ∧ _
            rw [cond_false, gdp (by omega)]
            obtain ⟨z, z1, z2⟩ := ih R' (y ++ b) m' K (by omega) h2 (by rw [List.length_append]; omega) (by omega) (hv.app vb)
            refine ⟨z, z1, z2.imp id fun ⟨t', e', m2', q1, q2⟩ => ⟨t', e', m2', q1, fun q => ?_⟩⟩
            obtain ⟨q3, R2, q4, q5⟩ := q2 q
            rw [List.length_append] at q5
            exact ⟨q3, R2, q4, by rw [List.length_cons]; omega⟩
        · rw [cdn c2]
          have bad : ∃ z, f400_j153 (f400_l26 s K) K n ((r : Int), (m : Int)) s y true = some z ∧ ((∃ m, z = .b0 m) ∨ ∃ t e m, z = .r (t, e, m) ∧ (e = 0 → VT t ∧ ∃ R', At s m R' ∧ t.length + R'.length + 1 ≤ y.length + R.length)) :=
            ⟨.r ([], 4, n), rfl, .inr ⟨[], 4, n, rfl, fun q => absurd q (by decide)⟩⟩
          have good : ¬ (r = 65533 ∧ m = 1) → ∃ z, f400_j153 (f400_l26 s K) K n ((r : Int), (m : Int)) s y false = some z ∧ ((∃ m, z = .b0 m) ∨ ∃ t e m, z = .r (t, e, m) ∧ (e = 0 → VT t ∧ ∃ R', At s m R' ∧ t.length + R'.length + 1 ≤ y.length + R.length)) := by
            intro q
            have vx := hvt q
            have hd : At s (n + (m : Int)) (R.drop m) := by
              have e : R = R.take m ++ R.drop m := (List.take_append_drop m R).symm
              have h' : At s n (R.take m ++ R.drop m) := e ▸ h
              have := h'.skip
              rwa [List.length_take, Nat.min_eq_left m2] at this
            have hsl : Abs.sl s n (n + (m : Int)) = R.take m := by
              obtain ⟨P, rfl, rfl⟩ := h
              unfold Abs.sl
              rw [show (((P.length : Nat) : Int) + (m : Int)).toNat = P.length + m by omega, Int.toNat_natCast, List.take_append, List.take_of_length_le (by omega), show P.length + m - P.length = m by omega, List.drop_left]
            unfold f400_j153
            rw [cond_false]
            show ∃ z, gd (0 ≤ n ∧ n ≤ IntKind.i64.wrap (n + (m : Int)) ∧ IntKind.i64.wrap (n + (m : Int)) ≤ ((s.length : Nat) : Int)) (gd ((y.length + (Abs.sl s n (IntKind.i64.wrap (n + (m : Int)))).length) * 2 * 1 ≤ 281474976710656) (f400_l26 s K (y ++ Abs.sl s n (IntKind.i64.wrap (n + (m : Int)))) (IntKind.i64.wrap (n + (m : Int))))) = some z ∧ _
            rw [i64w (n := n + (m : Int)) (by omega), gdp (by omega), hsl, gdp (by rw [List.length_take]; omega)]
            obtain ⟨z, z1, z2⟩ := ih (R.drop m) (y ++ R.take m) (n + (m : Int)) K (by rw [List.length_drop]; omega) hd (by rw [List.length_append, List.length_take, List.length_drop]; omega) (by omega) (hv.app vx)
            refine ⟨z, z1, z2.imp id fun ⟨t', e', m2', q1, q2⟩ => ⟨t', e', m2', q1, fun q => ?_⟩⟩
            obtain ⟨q3, R2, q4, q5⟩ := q2 q
            rw [List.length_append, List.length_take, List.length_drop] at q5
            exact ⟨q3, R2, q4, by omega⟩
          by_cases c3 : (r : Int) < 32
          · rw [cdp c3]; exact bad
          · rw [cdn c3]
            by_cases c4 : (r : Int) = 65533
            · rw [cdp c4]
              by_cases c5 : (m : Int) = 1
              · show ∃ z, f400_j153 (f400_l26 s K) K n ((r : Int), (m : Int)) s y (decide ((m : Int) = 1)) = some z ∧ _
                rw [decide_eq_true c5]; exact bad
              · show ∃ z, f400_j153 (f400_l26 s K) K n ((r : Int), (m : Int)) s y (decide ((m : Int) = 1)) = some z ∧ _
                rw [decide_eq_false c5]; exact good (by omega)
            · rw [cdn c4]; exact good (by omega)
/-- a text, whatever stands there -/
theorem text_tot (K : Nat) (h : At s n R) (hb : s.length ≤ 20000) (hK : s.length + 30 ≤ K) : ∃ t e m, f400 K s n = some (t, e, m) ∧ (e = 0 → Lib.validD t = true ∧ ∃ R', At s m R' ∧ t.length + R'.length + 2 ≤ R.length) := by
  have hl := h.len
  unfold f400
  rcases is_tot K 34 h hb with e | ⟨R1, e, h1, l1, _⟩
  · rw [e, Option.bind_some]
    exact ⟨[], 4, n, rfl, fun q => absurd q (by decide)⟩
  · rw [e, Option.bind_some]
    obtain ⟨z, z1, z2⟩ := textl_tot hb R1.length R1 [] (n + 1) K (Nat.le_refl _) h1 (by rw [List.length_nil]; omega) (by omega) VT.nil
    show ∃ t e m, cond false _ (Option.bind (f400_l26 s K [] (n + 1)) _) = some (t, e, m) ∧ _
    rw [cond_false, z1, Option.bind_some]
    rcases z2 with ⟨m, rfl⟩ | ⟨t, e, m, rfl, q⟩
    · exact ⟨[], 4, m, rfl, fun q => absurd q (by decide)⟩
    · refine ⟨t, e, m, rfl, fun q0 => ?_⟩
      obtain ⟨q1, R', q2, q3⟩ := q q0
      rw [List.length_nil] at q3
      exact ⟨q1.valid, R', q2, by omega⟩
end Go.Proofs.Abs
