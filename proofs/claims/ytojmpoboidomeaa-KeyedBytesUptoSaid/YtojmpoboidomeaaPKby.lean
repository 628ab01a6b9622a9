/- The law KeyedBytes over the Lean functions. -/
import Derived.Test.YtojmpoboidomeaaGLkbyc
import Derived.Test.YtojmpoboidomeaaPKbc
import Derived.Test.YtojmpoboidomeaaPRef
import Derived.Test.YtojmpoboidomeaaPHel
set_option linter.unusedSimpArgs false
namespace Go.Proofs.Abs
open Go
set_option linter.unusedVariables false
set_option maxRecDepth 10000
theorem raw_rref {b : List UInt8} {p : Nat} {e n : Int} (hb : b.length ≤ 100000000) (hp : p ≤ b.length) (hn : -9223372036854775808 ≤ n ∧ n ≤ 9223372036854775807) {k : Nat} : f49 k b (p : Int) e n = some ((rRaw b p e n).1, (((rRaw b p e n).2.1 : Nat) : Int), (rRaw b p e n).2.2) := by
  rw [f49, cond_dec]
  by_cases he : e = 0
  · subst he
    rw [if_neg (by simp), i64w (n := (b.length : Int) - (p : Int)) (by omega), cond_dec]
    simp only [rRaw, if_true]
    by_cases c : n ≤ 0
    · rw [if_neg (by omega), if_pos c, show max n 0 = 0 by omega, i64w (n := (p : Int) + 0) (by omega), i64w (by omega)]
      rw [show (p : Int) + 0 - 0 = (p : Int) by omega, show (p : Int) + 0 = ((p + 0 : Nat) : Int) by omega, gd_pos (by omega), sl_nat, gd_pos (by simp)]
      simp
    · rw [if_neg c]
      by_cases c2 : (b.length : Int) < (p : Int) + n
      · rw [if_pos (by omega), if_pos c2]
      · rw [if_neg (by omega), if_neg c2]
        obtain ⟨m, rfl⟩ := Int.eq_ofNat_of_zero_le (show 0 ≤ n by omega)
        rw [show max (m : Int) 0 = (m : Int) by omega, i64w (n := (p : Int) + (m : Int)) (by omega), i64w (by omega), show (p : Int) + (m : Int) - (m : Int) = (p : Int) by omega, show (p : Int) + (m : Int) = ((p + m : Nat) : Int) by omega]
        rw [gd_pos (by omega), sl_nat, gd_pos (by have := List.length_take_le m (b.drop p); simp only [List.length_take, List.length_drop]; omega)]
        rfl
  · rw [if_pos he]
    simp only [rRaw, if_neg he]
/-- the next pair -/
def pS (b : List UInt8) (p : Nat) : Int ⊕ (TPair × Nat) :=
  if (rRaw b (rText b p 0 32768).2.1 (rText b p 0 32768).2.2 1).2.2 ≠ 0 then .inl (rRaw b (rText b p 0 32768).2.1 (rText b p 0 32768).2.2 1).2.2
  else if 1 < (rd (rRaw b (rText b p 0 32768).2.1 (rText b p 0 32768).2.2 1).1 0).toNat then .inl 4
  else if (rText b (rRaw b (rText b p 0 32768).2.1 (rText b p 0 32768).2.2 1).2.1 0 32768).2.2 ≠ 0 then .inl (rText b (rRaw b (rText b p 0 32768).2.1 (rText b p 0 32768).2.2 1).2.1 0 32768).2.2
  else if (rd (rRaw b (rText b p 0 32768).2.1 (rText b p 0 32768).2.2 1).1 0).toNat = 1 ∧ 0 < (rText b (rRaw b (rText b p 0 32768).2.1 (rText b p 0 32768).2.2 1).2.1 0 32768).1.length then .inl 4
  else .inr (TPair.mk (rText b p 0 32768).1 (rText b (rRaw b (rText b p 0 32768).2.1 (rText b p 0 32768).2.2 1).2.1 0 32768).1 (decide ((((rd (rRaw b (rText b p 0 32768).2.1 (rText b p 0 32768).2.2 1).1 0).toNat : Nat) : Int) = 1)), (rText b (rRaw b (rText b p 0 32768).2.1 (rText b p 0 32768).2.2 1).2.1 0 32768).2.1)
theorem pS_at {b : List UInt8} {p : Nat} (hp : p ≤ b.length) {q : TPair} {p' : Nat} (h : pS b p = .inr (q, p')) : p' ≤ b.length := by
  unfold pS at h
  repeat' split at h
  all_goals cases h
  exact rText_at (rRaw_at (rText_at hp))
theorem rRaw_one {b : List UInt8} {p : Nat} {e : Int} (h : (rRaw b p e 1).2.2 = 0) : (rRaw b p e 1).1.length = 1 := by
  unfold rRaw at h ⊢
  by_cases he : e = 0
  · rw [if_pos he, if_neg (by decide)] at h ⊢
    by_cases c : ((b.length : Nat) : Int) < (p : Int) + 1
    · rw [if_pos c] at h; cases h
    · rw [if_neg c]
      simp; omega
  · rw [if_neg he] at h; exact absurd h he
theorem rText_stay {b : List UInt8} {p : Nat} {e m : Int} (h : e ≠ 0) : (rText b p e m).2.2 = e := by
  unfold rText
  rw [if_neg h]
theorem pair_code {b : List UInt8} {p : Nat} (hb : b.length ≤ 100000000) (hp : p ≤ b.length) {k : Nat} (hk : 10 ≤ k) :
    (∃ e x y, pS b p = .inl e ∧ e ≠ 0 ∧ f107 k b (p : Int) 0 = some (e, [], [], false, x, y)) ∨ (∃ q p', pS b p = .inr (q, p') ∧ f107 k b (p : Int) 0 = some (0, q.fKey, q.fValue, q.fGone, (p' : Int), 0)) := by
  have h1 := text_read (e := 0) (m := 32768) hb hp hk
  have a1 := rText_at (e := 0) (m := 32768) hp
  have h2 := raw_read (e := (rText b p 0 32768).2.2) (n := 1) hb a1 (by decide) (k := k)
  have a2 := rRaw_at (e := (rText b p 0 32768).2.2) (m := 1) a1
  rw [f107, h1]
  simp only [Option.bind_some]
  rw [h2]
  simp only [Option.bind_some, f42]
  have one := rRaw_one (b := b) (p := (rText b p 0 32768).2.1) (e := (rText b p 0 32768).2.2)
  unfold pS
  generalize hr : rRaw b (rText b p 0 32768).2.1 (rText b p 0 32768).2.2 1 = r at *
  generalize (rText b p 0 32768).1 = key
  by_cases c1 : r.2.2 = 0
  · have one' := one c1
    rw [cdp c1, gdp (by omega), if_neg (fun h => h c1), c1]
    by_cases c2 : 1 < (rd r.1 0).toNat
    · rw [decide_eq_true (show (((rd r.1 0).toNat : Nat) : Int) > 1 by omega), f107_j34, cond_true, if_pos c2]
      exact .inl ⟨4, _, _, rfl, by decide, rfl⟩
    · rw [decide_eq_false (show ¬ (((rd r.1 0).toNat : Nat) : Int) > 1 by omega), f107_j34, cond_false, if_neg c2, text_read hb a2 hk]
      simp only [Option.bind_some, f42]
      generalize rText b r.2.1 0 32768 = t
      by_cases c3 : t.2.2 = 0
      · rw [cdn (fun h => h c3), gdp (by omega), if_neg (fun h => h c3)]
        by_cases c4 : (rd r.1 0).toNat = 1
        · rw [cdp (by omega)]
          by_cases c5 : 0 < t.1.length
          · rw [decide_eq_true (show ((t.1.length : Nat) : Int) > 0 by omega), f107_j93, cond_true, if_pos ⟨c4, c5⟩]
            exact .inl ⟨4, _, _, rfl, by decide, rfl⟩
          · rw [decide_eq_false (show ¬ ((t.1.length : Nat) : Int) > 0 by omega), f107_j93, cond_false, if_neg (fun h => c5 h.2), c3]
            exact .inr ⟨_, _, rfl, rfl⟩
        · rw [cdn (by omega), f107_j93, cond_false, if_neg (fun h => c4 h.1), c3]
          exact .inr ⟨_, _, rfl, rfl⟩
      · rw [cdp c3, if_pos c3]
        exact .inl ⟨_, _, _, rfl, c3, rfl⟩
  · rw [cdn c1, f107_j34, cond_false, if_pos c1, text_read hb a2 hk]
    simp only [Option.bind_some, f42]
    rw [rText_stay c1, cdp c1]
    exact .inl ⟨_, _, _, rfl, c1, rfl⟩
/-- so many pairs -/
def tS (b : List UInt8) : Nat → Nat → List TPair → Int ⊕ (List TPair × Nat)
  | 0, p, acc => .inr (acc, p)
  | n + 1, p, acc => match pS b p with
    | .inl e => .inl e
    | .inr (q, p') => tS b n p' (acc ++ [q])
theorem take_code {b : List UInt8} {r16 : Int × Int × Int} {N : Nat} (hN : r16.1 = (N : Int)) (hN2 : N ≤ 10000) (hb : b.length ≤ 100000000) : ∀ (n j k p : Nat) (acc : List TPair), j + n = N → acc.length ≤ j → p ≤ b.length → n + 12 < k →
    f78_l73 r16 b k acc (j : Int) (p : Int) 0 = some (match tS b n p acc with | .inl e => .r ([], e) | .inr (x, q) => .b0 (x, (q : Int), 0)) ∧ ∀ x q, tS b n p acc = .inr (x, q) → q ≤ b.length := by
  intro n
  induction n with
  | zero =>
    intro j k p acc hj ha hp hk
    obtain ⟨k, rfl, _⟩ := succ_of_pos (show 0 < k by omega)
    rw [f78_l73, hN, cdn (by omega)]
    exact ⟨rfl, fun x q h => by cases h; exact hp⟩
  | succ n ih =>
    intro j k p acc hj ha hp hk
    obtain ⟨k, rfl, _⟩ := succ_of_pos (show 0 < k by omega)
    rw [f78_l73, hN, cdp (by omega)]
    rcases pair_code hb hp (k := k) (by omega) with ⟨e, x, y, h1, h2, h3⟩ | ⟨q, p', h1, h3⟩
    · rw [h3]
      simp only [Option.bind_some]
      rw [cdp h2]
      simp only [tS, h1]
      exact ⟨trivial, fun x q h => by cases h⟩
    · rw [h3]
      simp only [Option.bind_some]
      rw [cdn (by simp), gdp (by simp; omega), i64w (by omega)]
      have h := ih (j + 1) k p' (acc ++ [q]) (by omega) (by simp; omega) (pS_at hp h1) (by omega)
      have e1 : TPair.mk q.fKey q.fValue q.fGone = q := rfl
      rw [e1, show (j : Int) + 1 = ((j + 1 : Nat) : Int) by omega]
      simp only [tS, h1]
      exact h
theorem take_refl {b : List UInt8} {r16 : Int × Int × Int} {N : Nat} (hN : r16.1 = (N : Int)) (hN2 : N ≤ 10000) (hb : b.length ≤ 100000000) : ∀ (n j k p : Nat) (acc : List TPair), j + n = N → acc.length ≤ j → p ≤ b.length → n + 12 < k →
    f79_l76 r16 b k acc (j : Int) (p : Int) 0 = some (match tS b n p acc with | .inl e => .r ([], e) | .inr (x, q) => .b0 (x, (q : Int), 0)) := by
  intro n
  induction n with
  | zero =>
    intro j k p acc hj ha hp hk
    obtain ⟨k, rfl, _⟩ := succ_of_pos (show 0 < k by omega)
    rw [f79_l76, hN, cdn (by omega)]
    rfl
  | succ n ih =>
    intro j k p acc hj ha hp hk
    obtain ⟨k, rfl, _⟩ := succ_of_pos (show 0 < k by omega)
    have h1 := text_rref (e := 0) (m := 32768) hb hp (k := k) (by omega)
    have a1 := rText_at (e := 0) (m := 32768) hp
    have h2 := raw_rref (e := (rText b p 0 32768).2.2) (n := 1) hb a1 (by decide) (k := k)
    have a2 := rRaw_at (e := (rText b p 0 32768).2.2) (m := 1) a1
    have hat := fun q p' => pS_at (q := q) (p' := p') hp
    rw [f79_l76, hN, cdp (by omega), h1]
    simp only [Option.bind_some]
    rw [h2]
    simp only [Option.bind_some, tS]
    have one := rRaw_one (b := b) (p := (rText b p 0 32768).2.1) (e := (rText b p 0 32768).2.2)
    unfold pS at hat ⊢
    generalize hr : rRaw b (rText b p 0 32768).2.1 (rText b p 0 32768).2.2 1 = r at *
    generalize (rText b p 0 32768).1 = key at *
    by_cases c1 : r.2.2 = 0
    · have one' := one c1
      rw [cdn (fun h => h c1), gdp (by omega)]
      simp only [if_neg (fun h => h c1 : ¬ r.2.2 ≠ 0)] at hat ⊢
      by_cases c2 : 1 < (rd r.1 0).toNat
      · rw [cdp (by omega)]
        simp only [if_pos c2]
      · rw [cdn (by omega), gdp (by omega), c1, text_rref hb a2 (by omega)]
        simp only [if_neg c2] at hat ⊢
        simp only [Option.bind_some]
        generalize rText b r.2.1 0 32768 = t at *
        by_cases c3 : t.2.2 = 0
        · rw [cdn (fun h => h c3)]
          simp only [if_neg (fun h => h c3 : ¬ t.2.2 ≠ 0)] at hat ⊢
          have last : ¬ ((rd r.1 0).toNat = 1 ∧ 0 < t.1.length) → f79_j199 (f79_l76 r16 b k) k acc (key, ((rText b p 0 32768).2.1 : Int), (rText b p 0 32768).2.2) (t.1, (t.2.1 : Int), t.2.2) (r.1, (r.2.1 : Int), r.2.2) (j : Int) =
              some (match (if (rd r.1 0).toNat = 1 ∧ 0 < t.1.length then (Sum.inl 4 : Int ⊕ (TPair × Nat)) else .inr (TPair.mk key t.1 (decide ((((rd r.1 0).toNat : Nat) : Int) = 1)), t.2.1)) with
                | .inl e => (.r ([], e) : LR2 ((List TPair) × Int × Int) Unit ((List TPair) × Int))
                | .inr (q, p') => match tS b n p' (acc ++ [q]) with | .inl e => .r ([], e) | .inr (x, q) => .b0 (x, (q : Int), 0)) := by
            intro hno
            simp only [if_neg hno] at hat ⊢
            rw [f79_j199, gdp (by simp; omega), i64w (by omega), c3, show (j : Int) + 1 = ((j + 1 : Nat) : Int) by omega]
            exact ih (j + 1) k t.2.1 _ (by omega) (by simp; omega) (hat _ _ rfl) (by omega)
          by_cases c4 : (rd r.1 0).toNat = 1
          · rw [cdp (by omega)]
            by_cases c5 : 0 < t.1.length
            · rw [cdp (by omega), if_pos ⟨c4, c5⟩]
            · rw [cdn (by omega)]
              have h := last (fun h => c5 h.2)
              rw [if_neg (fun h => c5 h.2 : ¬ ((rd r.1 0).toNat = 1 ∧ 0 < t.1.length))] at h ⊢
              exact h
          · rw [cdn (by omega)]
            have h := last (fun h => c4 h.1)
            rw [if_neg (fun h => c4 h.1 : ¬ ((rd r.1 0).toNat = 1 ∧ 0 < t.1.length))] at h ⊢
            exact h
        · rw [cdp c3]
          simp only [if_pos c3]
    · rw [cdp c1]
      simp only [if_pos c1]
/-- the pairs that bytes are -/
def takeS (b : List UInt8) : List TPair × Int :=
  if (rZig b 0 0).2.2 ≠ 0 then ([], (rZig b 0 0).2.2) else if (rZig b 0 0).1 < 0 then ([], 4) else if 10000 < (rZig b 0 0).1 then ([], 5)
  else match tS b (rZig b 0 0).1.toNat (rZig b 0 0).2.1 [] with
    | .inl e => ([], e)
    | .inr (x, q) => if q < b.length then ([], 4) else (x, 0)
theorem takeB_code {b : List UInt8} (hb : b.length ≤ 100000000) {k : Nat} (hk : 10100 < k) : f78 k b = some (takeS b) := by
  have a0 := rZig_at (b := b) (p := 0) (e := 0) (Nat.zero_le _)
  rw [f78, new_read hb, show f40 k b (0 : Int) (0 : Int) = _ from zig_read (p := 0) hb (Nat.zero_le _) (by omega)]
  simp only [Option.bind_some, f42, takeS]
  generalize rZig b 0 0 = z at *
  by_cases c1 : z.2.2 = 0
  · rw [cdn (fun h => h c1), if_neg (fun h => h c1)]
    by_cases c2 : z.1 < 0
    · rw [cdp c2, if_pos c2]
    · rw [cdn c2, if_neg c2]
      by_cases c3 : 10000 < z.1
      · rw [cdp c3, if_pos c3]
      · rw [cdn c3, if_neg c3, c1]
        obtain ⟨h1, h2⟩ := take_code (b := b) (r16 := (z.1, (z.2.1 : Int), 0)) (N := z.1.toNat) (by show z.1 = _; omega) (by omega) hb z.1.toNat 0 k z.2.1 [] (by omega) (by simp) a0 (by omega)
        rw [show f78_l73 _ b k [] (0 : Int) _ 0 = _ from h1]
        cases ht : tS b z.1.toNat z.2.1 [] with
        | inl e => rfl
        | inr x =>
          obtain ⟨x, q⟩ := x
          have hq := h2 x q ht
          simp only [Option.bind_some, f78_j122]
          rw [end_read hb hq]
          simp only [Option.bind_some, rEnd]
          by_cases c4 : q < b.length
          · rw [if_neg (by decide), if_pos c4, if_pos c4]; rfl
          · rw [if_neg (by decide), if_neg c4, if_neg c4]; rfl
  · rw [cdp c1, if_pos c1]
theorem takeB_ref {b : List UInt8} (hb : b.length ≤ 100000000) {k : Nat} (hk : 10100 < k) : f79 k b = some (takeS b) := by
  have a0 := rZig_at (b := b) (p := 0) (e := 0) (Nat.zero_le _)
  rw [f79, new_rref hb, show f47 k b (0 : Int) (0 : Int) = _ from zig_rref (p := 0) hb (Nat.zero_le _) (by omega)]
  simp only [Option.bind_some, takeS]
  generalize rZig b 0 0 = z at *
  by_cases c1 : z.2.2 = 0
  · rw [cdn (fun h => h c1), if_neg (fun h => h c1)]
    by_cases c2 : z.1 < 0
    · rw [cdp c2, if_pos c2]
    · rw [cdn c2, if_neg c2]
      by_cases c3 : 10000 < z.1
      · rw [cdp c3, if_pos c3]
      · rw [cdn c3, if_neg c3, c1]
        have h1 := take_refl (b := b) (r16 := (z.1, (z.2.1 : Int), 0)) (N := z.1.toNat) (by show z.1 = _; omega) (by omega) hb z.1.toNat 0 k z.2.1 [] (by omega) (by simp) a0 (by omega)
        have h2 := (take_code (b := b) (r16 := (z.1, (z.2.1 : Int), 0)) (N := z.1.toNat) (by show z.1 = _; omega) (by omega) hb z.1.toNat 0 k z.2.1 [] (by omega) (by simp) a0 (by omega)).2
        rw [show f79_l76 _ b k [] (0 : Int) _ 0 = _ from h1]
        cases ht : tS b z.1.toNat z.2.1 [] with
        | inl e => rfl
        | inr x =>
          obtain ⟨x, q⟩ := x
          have hq := h2 x q ht
          simp only [Option.bind_some, f79_j211, f50]
          rw [i64w (by omega)]
          by_cases c4 : q < b.length
          · rw [cdp (by omega), if_pos c4]
          · rw [cdn (by omega), if_neg c4]
  · rw [cdp c1, if_pos c1]
theorem copiesD_loop {a : List TPair} (hv : ∀ p ∈ a, lenP p ≤ 20000) (hb : a.length ≤ 1000) : ∀ (d i k : Nat), i + d = a.length → d < k → f71_l14 a k (a.take i) (i : Int) = some (.b0 a) := by
  intro d
  induction d with
  | zero =>
    intro i k hi hk
    obtain ⟨k, rfl, _⟩ := succ_of_pos (show 0 < k by omega)
    rw [f71_l14, cdn (by omega), List.take_of_length_le (by omega)]
  | succ d ih =>
    intro i k hi hk
    obtain ⟨k, rfl, _⟩ := succ_of_pos (show 0 < k by omega)
    have hm : rd a (i : Int) ∈ a := rd_in (by omega)
    have h1 := hv _ hm
    simp only [lenP] at h1
    have eta : TPair.mk (rd a (i : Int)).fKey (rd a (i : Int)).fValue (rd a (i : Int)).fGone = rd a (i : Int) := rfl
    rw [f71_l14, cdp (by omega), gdp (by omega), gdp (by omega), f97, gdp (by omega)]
    simp only [Option.bind_some]
    rw [gdp (by omega), eta, gdp (by simp; omega), i64w (by omega), show ((i : Int) + 1) = ((i + 1 : Nat) : Int) by omega]
    have e1 : List.take i a ++ [rd a (i : Int)] = a.take (i + 1) := by
      rw [List.take_add_one, List.getElem?_eq_getElem (show i < a.length by omega)]
      simp [rd, List.getD, List.getElem?_eq_getElem (show i < a.length by omega)]
    rw [e1]
    exact ih (i + 1) k (by omega) (by omega)
theorem copiesD22 {a : List TPair} (hv : ∀ p ∈ a, lenP p ≤ 20000) (hb : a.length ≤ 1000) {k : Nat} (hk : a.length < k) : f71 k a = some a := by
  have h := copiesD_loop hv hb a.length 0 k (by omega) hk
  rw [List.take_zero] at h
  rw [f71, show f71_l14 a k [] (0 : Int) = _ from h]
  rfl
theorem bytesR_loop {l : List TPair} (hn : l.length ≤ 1000) (hp : ∀ p ∈ l, lenP p ≤ 20000) : ∀ (rest pre : List TPair) (acc : List UInt8) (k : Nat), l = pre ++ rest → acc.length + 20030 * rest.length ≤ 100000000 → rest.length + 10 < k →
    f81_l17 l k acc ((pre.length : Nat) : Int) = some (.b0 (acc ++ (rest.map pb).flatten)) := by
  intro rest
  induction rest with
  | nil =>
    intro pre acc k hl ha hk
    obtain ⟨k, rfl, _⟩ := succ_of_pos (show 0 < k by omega)
    rw [List.append_nil] at hl
    rw [f81_l17, cdn (by rw [hl]; omega)]
    simp
  | cons p rest ih =>
    intro pre acc k hl ha hk
    obtain ⟨k, rfl, _⟩ := succ_of_pos (show 0 < k by omega)
    have hrd : rd l ((pre.length : Nat) : Int) = p := by subst hl; exact rd_mid
    have hln : l.length = pre.length + rest.length + 1 := by rw [hl]; simp; omega
    have hpl := hp p (by rw [hl]; simp)
    have hpb := pb_len hpl
    simp only [lenP] at hpl hpb
    simp only [List.length_cons] at hk ha
    have hb' : (pb p).length ≤ 20030 := by omega
    simp only [pb, List.length_append] at hb'
    rw [f81_l17, cdp (by omega), gdp (by omega), hrd, text_ref (by omega) (by omega)]
    simp only [Option.bind_some]
    rw [gdp (by omega), gdp (by omega)]
    have h := fun a h1 => ih (pre ++ [p]) a k (by rw [hl]; simp) h1 (by omega)
    have hw : IntKind.i64.wrap (((pre.length : Nat) : Int) + 1) = (((pre ++ [p]).length : Nat) : Int) := by rw [i64w (by omega)]; simp
    cases hg : p.fGone
    · simp only [hg, Bool.false_eq_true, if_false, List.length_append, List.length_singleton] at hb'
      rw [cond_false, gdp (by simp; omega), gdp (by omega), text_ref (by omega) (by omega)]
      simp only [Option.bind_some]
      rw [gdp (by simp; omega), hw, h _ (by simp; omega)]
      simp [pb, hg]
    · have e0 : tb [] = [0] := by
        have hz : zg ((([] : List UInt8).length : Nat) : Int) = 0 := by decide
        rw [tb, hz, nb_lt (by decide)]; rfl
      simp only [hg, if_true, List.length_append, List.length_singleton, e0] at hb'
      rw [cond_true, gdp (by simp; omega), hw, h _ (by simp; omega)]
      simp [pb, hg, e0]
theorem bytesR22 {l : List TPair} (hn : l.length ≤ 1000) (hp : ∀ p ∈ l, lenP p ≤ 20000) {k : Nat} (hk : l.length + 20 < k) : f81 k l = some (pbs l) := by
  have h1 := nb_len10 (zg_lt (a := ((l.length : Nat) : Int)) (by omega))
  rw [f81, zig_ref (by omega) (by omega)]
  simp only [Option.bind_some]
  rw [show f81_l17 l k _ (0 : Int) = _ from bytesR_loop hn hp l [] _ k rfl (by omega) (by omega)]
  rfl
theorem pS_list {b : List UInt8} {p : Nat} {q : TPair} {p' : Nat} (h : pS b p = .inr (q, p')) : True := trivial
theorem tS_len {b : List UInt8} : ∀ (n p : Nat) (acc : List TPair) (x : List TPair) (q : Nat), tS b n p acc = .inr (x, q) → x.length = acc.length + n
  | 0, p, acc, x, q, h => by simp only [tS] at h; cases h; rfl
  | n + 1, p, acc, x, q, h => by
    simp only [tS] at h
    split at h
    · cases h
    · have := tS_len n _ _ x q h
      rw [this, List.length_append, List.length_singleton]; omega
theorem takeS_len (b : List UInt8) : (takeS b).1.length ≤ 10000 := by
  unfold takeS
  split
  · simp
  · split
    · simp
    · split
      · simp
      · rename_i h1 h2 h3
        split
        · simp
        · rename_i x q h
          have := tS_len _ _ _ _ _ h
          split
          · simp
          · simp only [this, List.length_nil]; omega
theorem law_KeyedBytes (a0 : (List TPair)) (a1 : (List UInt8)) (w0 : (∀ e0 ∈ a0, TPair.wf e0)) (w1 : (∀ e0 ∈ a1, True)) (hb : ((a0.map TPair.sz).sum + 1) + ((a1.map (fun _ => 1)).sum + 1) ≤ 1048576) : ∃ k, f18 k a0 a1 = some true := by
  have hsz : ∀ p : TPair, lenP p ≤ TPair.sz p := fun p => by
    have h2 := len_sum (sz := fun _ : UInt8 => 1) (fun _ => Nat.le_refl _) p.fValue
    simp only [TPair.sz, lenP]; omega
  have hsum : ∀ l : List TPair, (l.map lenP).sum ≤ (l.map TPair.sz).sum := by
    intro l
    induction l with
    | nil => simp
    | cons p l ih => have := hsz p; simp only [List.map_cons, List.sum_cons]; omega
  have hn0 := len_sum (sz := TPair.sz) (fun a => by simp only [TPair.sz]; omega) a0
  have s0 := hsum a0
  refine ⟨3 * a0.length + 30000, ?_⟩
  generalize hk : 3 * a0.length + 30000 = k
  have haw := awake22 (show 20 < k by omega)
  have hz : ∀ p ∈ a0, p.fKey.length + p.fValue.length ≤ 1048576 := fun p hp => by
    have h1 := sz_mem a0 p hp
    have h2 := hsz p
    simp only [lenP] at h2; omega
  obtain ⟨b0, f0, q0⟩ := few_exact (l := a0) (by omega) (by omega) hz (show a0.length < k by omega)
  rw [f18, f0]
  simp only [Option.bind_some]
  cases b0
  · rw [Bool.not_false, cond_true, haw]; rfl
  rw [Bool.not_true, cond_false]
  by_cases c : ((a1.length : Nat) : Int) > 5000
  · rw [cdp c, haw]; rfl
  rw [cdn c]
  obtain ⟨n0, t0⟩ := q0 rfl
  have v0 : ∀ p ∈ a0, lenP p ≤ 20000 := fun p hp => by have := lenP_mem a0 p hp; omega
  have ht : List.take ((0 : Int).toNat + a1.length) (a1 ++ [71, 71, 71]) = a1 := by simp
  have hl := takeS_len a1
  rw [copiesD22 v0 (by omega) (by omega)]
  simp only [Option.bind_some]
  rw [own21 (by omega) (by omega)]
  simp only [Option.bind_some, ht]
  rw [takeB_code (by omega) (by omega), takeB_ref (by omega) (by omega), haw]
  simp only [Option.bind_some, cond_true]
  rw [bytes22 (by omega) v0 (by omega), bytesR22 (by omega) v0 (by omega)]
  simp only [Option.bind_some, f22, decide_true, cond_true]
  rw [same22 (by omega) (by omega)]
  simp only [Option.bind_some, cond_true]
  rw [same22 (by omega) (by omega)]
  simp only [Option.bind_some, cond_true]
  rw [kept29 (by omega) (by omega)]
  rfl
end Go.Proofs.Abs
