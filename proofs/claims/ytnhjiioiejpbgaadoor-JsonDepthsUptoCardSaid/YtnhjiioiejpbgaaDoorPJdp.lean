/- JsonDepths: so many arrays, or objects, one in the other, are read as they are, or refused. -/
import Derived.Test.YtnhjiioiejpbgaaDoorGJdb
import Derived.Test.YtnhjiioiejpbgaaDoorAbsxc
set_option linter.unusedSimpArgs false
namespace Go.Proofs.Abs
open Go
set_option linter.unusedVariables false
set_option maxRecDepth 100000
/-- the place n of a text s: R stands there -/
def At (s : List UInt8) (n : Int) (R : List UInt8) : Prop := ∃ P, s = P ++ R ∧ n = ((P.length : Nat) : Int)
theorem At.len {s R : List UInt8} {n : Int} (h : At s n R) : 0 ≤ n ∧ ((s.length : Nat) : Int) = n + ((R.length : Nat) : Int) := by
  obtain ⟨P, rfl, rfl⟩ := h
  simp
theorem At.get {s R : List UInt8} {n : Int} {c : UInt8} (h : At s n (c :: R)) : s.getD n.toNat 0 = c := by
  obtain ⟨P, rfl, rfl⟩ := h
  simp
theorem At.next {s R : List UInt8} {n : Int} {c : UInt8} (h : At s n (c :: R)) : At s (n + 1) R := by
  obtain ⟨P, rfl, rfl⟩ := h
  exact ⟨P ++ [c], by simp, by simp⟩
theorem At.sl {s R : List UInt8} {n : Int} (h : At s n R) : sl s n ((s.length : Nat) : Int) = R := by
  obtain ⟨P, rfl, rfl⟩ := h
  unfold Abs.sl
  rw [Int.toNat_natCast, Int.toNat_natCast, List.take_length]
  simp
theorem At.sl1 {s R : List UInt8} {n : Int} {c : UInt8} (h : At s n (c :: R)) : Abs.sl s n (n + 1) = [c] := by
  obtain ⟨P, rfl, rfl⟩ := h
  unfold Abs.sl
  have : (((P.length : Nat) : Int) + 1).toNat = P.length + 1 := by omega
  rw [Int.toNat_natCast, this, List.take_append, List.take_of_length_le (by omega), show P.length + 1 - P.length = 1 by omega, List.take_succ_cons, List.take_zero, List.drop_left]
theorem At.start (s : List UInt8) : At s 0 s := ⟨[], rfl, rfl⟩
theorem At.skip {s A R : List UInt8} {n : Int} (h : At s n (A ++ R)) : At s (n + ((A.length : Nat) : Int)) R := by
  obtain ⟨P, rfl, rfl⟩ := h
  exact ⟨P ++ A, by simp, by simp⟩
variable {s R : List UInt8} {n : Int} {c : UInt8}
theorem white_at (k : Nat) (h : At s n (c :: R)) (h1 : ¬ ((c.toNat : Nat) : Int) = 32) (h2 : ¬ ((c.toNat : Nat) : Int) = 9) (h3 : ¬ ((c.toNat : Nat) : Int) = 10) (h4 : ¬ ((c.toNat : Nat) : Int) = 13) : f398 (k + 1) s n = some n := by
  have hl := h.len
  rw [List.length_cons] at hl
  have g := h.get
  unfold f398
  rw [f398_l4, cdp (by omega), gdp (by omega), g, cdn h1, cdn h2, cdn h3, cdn h4]
  rfl
theorem white_end (k : Nat) (h : At s n []) : f398 (k + 1) s n = some n := by
  have hl := h.len
  rw [List.length_nil] at hl
  unfold f398
  rw [f398_l4, cdn (by omega)]
  rfl
theorem is_yes (k : Nat) (h : At s n (c :: R)) (hb : s.length ≤ 20000) : f401 k s n c = some (true, n + 1) := by
  have hl := h.len
  rw [List.length_cons] at hl
  unfold f401
  rw [cdp (by omega), gdp (by omega), h.get, decide_eq_true rfl]
  unfold f401_j32
  rw [i64w (by omega)]
  rfl
theorem is_no (k : Nat) {d : UInt8} (h : At s n (c :: R)) (hd : ¬ ((c.toNat : Nat) : Int) = ((d.toNat : Nat) : Int)) : f401 k s n d = some (false, n) := by
  have hl := h.len
  rw [List.length_cons] at hl
  unfold f401
  rw [cdp (by omega), gdp (by omega), h.get, decide_eq_false hd]
  rfl
theorem dec_at (k : Nat) (l : List UInt8) (hc : ((c.toNat : Nat) : Int) < 128) : f336 k (c :: l) = some () := by
  have e : ((c :: l).getD ((0 : Int)).toNat 0) = c := rfl
  unfold f336
  rw [cdp (by simp), gdp (by rw [List.length_cons]; omega), e, decide_eq_true hc]
  unfold f336_j17
  rw [cond_true, gdp (by rw [List.length_cons]; omega)]
theorem i32w {n : Int} (h : -2147483648 ≤ n ∧ n ≤ 2147483647) : IntKind.i32.wrap n = n := by
  simp only [IntKind.wrap, IntKind.signed, IntKind.bits]
  simp
  omega
theorem text_step (k : Nat) (y : List UInt8) (h : At s n (c :: R)) (hb : s.length ≤ 20000) (hy : y.length ≤ 20000) (h0 : ((c.toNat : Nat) : Int) < 128) (h1 : ¬ ((c.toNat : Nat) : Int) = 34) (h2 : ¬ ((c.toNat : Nat) : Int) = 92) (h3 : ¬ ((c.toNat : Nat) : Int) < 32) : f400_l26 s (k + 1) y n = f400_l26 s k (y ++ [c]) (n + 1) := by
  have hl := h.len
  rw [List.length_cons] at hl
  have e : ((c :: R).getD ((0 : Int)).toNat 0) = c := rfl
  rw [f400_l26, cdp (by omega), gdp (by omega), h.sl, dec_at k R h0, Option.bind_some, e, i32w (by omega), cdn h1, cdn h2, cdn h3, cdn (by omega)]
  unfold f400_j153
  rw [cond_false, i64w (by omega), gdp (by omega), h.sl1, gdp (by simp only [List.length_cons, List.length_nil]; omega)]
theorem text_last (k : Nat) (y : List UInt8) (h : At s n (34 :: R)) (hb : s.length ≤ 20000) : f400_l26 s (k + 1) y n = some (.r (y, 0, n + 1)) := by
  have hl := h.len
  rw [List.length_cons] at hl
  have e : (((34 : UInt8) :: R).getD ((0 : Int)).toNat 0) = 34 := rfl
  rw [f400_l26, cdp (by omega), gdp (by omega), h.sl, dec_at k R (by decide), Option.bind_some, e, i32w (by decide), cdp (by decide), i64w (by omega)]
theorem text_a (k : Nat) (h : At s n (34 :: 97 :: 34 :: R)) (hb : s.length ≤ 20000) : f400 (k + 3) s n = some ([97], 0, n + 3) := by
  unfold f400
  rw [is_yes _ h hb, Option.bind_some]
  show (cond false _ _) = _
  rw [cond_false, text_step (k + 2) [] h.next hb (by simp) (by decide) (by decide) (by decide) (by decide), text_last (k + 1) _ h.next.next hb, Option.bind_some]
  show some (([] : List UInt8) ++ [97], (0 : Int), n + 1 + 1 + 1) = _
  rw [show n + 1 + 1 + 1 = n + 3 by omega]
  rfl
theorem num_at (k : Nat) (h : At s n (49 :: R)) (hb : s.length ≤ 20000) (hR : ∀ d R', R = d :: R' → 57 < ((d.toNat : Nat) : Int)) : f405 (k + 3) s n = some (0, 4, [49], n + 1) := by
  have hl := h.len
  rw [List.length_cons] at hl
  have hn : At s (n + 1) R := h.next
  have hst : f405_l28 s (k + 3) n = some (.b0 (n + 1)) := by
    rw [f405_l28, cdp (by omega), gdp (by omega), h.get, cdp (by decide), gdp (by omega), cdp (by decide), i64w (by omega), f405_l28]
    cases R with
    | nil => rw [cdn (by simp only [List.length_nil] at hl; omega)]
    | cons d R' =>
      have := hR d R' rfl
      have hl2 := hn.len
      rw [List.length_cons] at hl2
      rw [cdp (by omega), gdp (by omega), hn.get, cdp (by omega), gdp (by omega), cdn (by omega)]
  have hnum : f406 (k + 3) [49] = some true := by kernel_rfl
  unfold f405
  rw [is_no _ h (by decide), Option.bind_some]
  show (f405_l28 s (k + 3) n).bind _ = _
  rw [hst, Option.bind_some]
  show gd _ _ = _
  rw [gdp (by omega), h.sl1, hnum, Option.bind_some]
  show f405_j116 _ _ _ _ _ = _
  rw [i64w (by omega), decide_eq_false (by omega)]
  unfold f405_j116
  rw [cond_false, h.sl1]
  rfl
def opn (b : Bool) : List UInt8 := cond b [34, 97, 34, 58] []
def fst1 (b : Bool) : UInt8 := cond b 123 91
def cls (b : Bool) : UInt8 := cond b 125 93
def knd (b : Bool) : Int := cond b 7 6
def kys (b : Bool) : List (List UInt8) := cond b [[97]] []
/-- so many, one in the other, as text -/
def deepT (b : Bool) : Nat → List UInt8
  | 0 => [49]
  | m + 1 => fst1 b :: (opn b ++ (deepT b m ++ [cls b]))
def deepV (b : Bool) : Nat → TJson
  | 0 => ⟨4, [49], [], []⟩
  | m + 1 => ⟨knd b, [], [RT.of TJson.ok (deepV b m)], kys b⟩
theorem deep_hd (b : Bool) (m : Nat) (X : List UInt8) : ∃ c Y, deepT b m ++ X = c :: Y ∧ (c = 49 ∨ c = 91 ∨ c = 123) := by
  cases m with
  | zero => exact ⟨49, X, rfl, .inl rfl⟩
  | succ m => cases b with
    | false => exact ⟨91, _, rfl, .inr (.inl rfl)⟩
    | true => exact ⟨123, _, rfl, .inr (.inr rfl)⟩
theorem contains_no (k : Nat) (x : List UInt8) : f239 (k + 1) [] x = some false := rfl
abbrev RcT := (List UInt8) → Int → Int → Option (Int × Int × (List UInt8) × (List (RT 4)) × (List (List UInt8)) × Int)
theorem itemj (rc : RcT) (k : Nat) {d e kd n' : Int} {tx : List UInt8} {l : List (RT 4)} {ks ky : List (List UInt8)} (hd : 0 ≤ d ∧ d ≤ 1000) (hrc : rc s n (d + 1) = some (e, kd, tx, l, ks, n')) : f404v2_j94 k rc s d [] n ky = cond (decide (e = 0)) (some (e, n', [RT.of TJson.ok (TJson.mk kd tx l ks)], ky)) (some (e, n', [], ky)) := by
  unfold f404v2_j94
  rw [i64w (by omega), hrc, Option.bind_some]
  by_cases he : e = 0
  · show cond (decide (e = 0)) _ _ = _
    rw [cdp he, cdp he, gdp (by decide)]
    rfl
  · show cond (decide (e = 0)) _ _ = _
    rw [cdn he, cdn he]
theorem item_at (b : Bool) (rc : RcT) (k : Nat) {d e kd n' : Int} {tx X : List UInt8} {l : List (RT 4)} {ks : List (List UInt8)} (hd : 0 ≤ d ∧ d ≤ 1000) (hb : s.length ≤ 20000) (h : At s n (opn b ++ X)) (hrc : rc s (n + (((opn b).length : Nat) : Int)) (d + 1) = some (e, kd, tx, l, ks, n')) : f404v2 rc (k + 4) s n (knd b) [] [] [] d = cond (decide (e = 0)) (some (e, n', [RT.of TJson.ok (TJson.mk kd tx l ks)], kys b)) (some (e, n', [], kys b)) := by
  cases b with
  | false =>
    unfold f404v2
    rw [cdn (by decide)]
    have e0 : n + (((opn false).length : Nat) : Int) = n := by simp [opn]
    rw [e0] at hrc
    exact itemj rc (k + 4) hd hrc
  | true =>
    have h0 : At s n (34 :: 97 :: 34 :: 58 :: X) := h
    have h3 : At s (n + 3) (58 :: X) := by
      have := h0.next.next.next
      rwa [show n + 1 + 1 + 1 = n + 3 by omega] at this
    unfold f404v2
    rw [cdp (by decide), white_at (k + 3) h0 (by decide) (by decide) (by decide) (by decide), Option.bind_some, text_a (k + 1) h0 hb, Option.bind_some]
    show cond (decide ((0 : Int) ≠ 0)) _ _ = _
    rw [cdn (by decide)]
    show (f239 (k + 4) [] [97]).bind _ = _
    rw [contains_no, Option.bind_some, cond_false, gdp (by show (0 + 1) * 2 * 16 ≤ 281474976710656; decide)]
    show (f398 (k + 4) s (n + 3)).bind _ = _
    rw [white_at (k + 3) h3 (by decide) (by decide) (by decide) (by decide), Option.bind_some, is_yes (k + 4) h3 hb, Option.bind_some]
    show f404v2_j94 (k + 4) _ _ _ _ (n + 3 + 1) _ = _
    have e0 : n + (((opn true).length : Nat) : Int) = n + 3 + 1 := by simp [opn]; omega
    rw [e0] at hrc
    exact itemj rc (k + 4) hd hrc
theorem hd_ne {c : UInt8} (b : Bool) (h : c = 49 ∨ c = 91 ∨ c = 123) : ¬ ((c.toNat : Nat) : Int) = (((cls b).toNat : Nat) : Int) := by
  cases b <;> rcases h with rfl | rfl | rfl <;> decide
theorem opn_hd (b : Bool) (m : Nat) (X : List UInt8) : ∃ c Y, opn b ++ (deepT b m ++ X) = c :: Y ∧ (c = 34 ∨ c = 49 ∨ c = 91 ∨ c = 123) := by
  cases b with
  | false =>
    obtain ⟨c, Y, e, h⟩ := deep_hd false m X
    exact ⟨c, Y, e, .inr h⟩
  | true => exact ⟨34, _, rfl, .inl rfl⟩
/-- a list of one -/
theorem many_at (b : Bool) (m : Nat) (rc : RcT) (k : Nat) {d e kd n' : Int} {tx X : List UInt8} {l : List (RT 4)} {ks : List (List UInt8)} (hd : 0 ≤ d ∧ d < 64) (hb : s.length ≤ 20000) (h : At s n (fst1 b :: (opn b ++ (deepT b m ++ (cls b :: X))))) (hrc : rc s (n + 1 + (((opn b).length : Nat) : Int)) (d + 1) = some (e, kd, tx, l, ks, n')) (he : e = 0 → At s n' (cls b :: X)) :
    f403 rc (k + 6) s n (knd b) (cls b) d = cond (decide (e = 0)) (some (0, knd b, [RT.of TJson.ok (TJson.mk kd tx l ks)], kys b, n' + 1)) (some (e, 0, [], [], n')) := by
  have hl := h.len
  rw [List.length_cons] at hl
  have h1 := h.next
  obtain ⟨c, Y, eY, hc⟩ := opn_hd b m (cls b :: X)
  have h2 : At s (n + 1) (c :: Y) := eY ▸ h1
  unfold f403
  rw [cdn (by omega), i64w (by omega), white_at (k + 5) h2 (by rcases hc with rfl | rfl | rfl | rfl <;> decide) (by rcases hc with rfl | rfl | rfl | rfl <;> decide) (by rcases hc with rfl | rfl | rfl | rfl <;> decide) (by rcases hc with rfl | rfl | rfl | rfl <;> decide), Option.bind_some, is_no _ h2 (by cases b <;> rcases hc with rfl | rfl | rfl | rfl <;> decide), Option.bind_some]
  show cond false _ _ = _
  rw [cond_false]
  show (f403_l60 rc s (knd b) d (cls b) (k + 5 + 1) (n + 1) [] []).bind _ = _
  rw [f403_l60, item_at b rc (k + 1) ⟨hd.1, by omega⟩ hb h1 hrc]
  by_cases h0 : e = 0
  · have h5 := he h0
    rw [cdp h0, cdp h0, Option.bind_some]
    show Option.bind (cond (decide (e ≠ 0)) _ _) _ = _
    rw [cdn (by omega)]
    show Option.bind (Option.bind (f398 (k + 4 + 1) s n') _) _ = _
    rw [white_at (k + 4) h5 (by cases b <;> decide) (by cases b <;> decide) (by cases b <;> decide) (by cases b <;> decide), Option.bind_some, is_yes _ h5 hb, Option.bind_some]
    rfl
  · rw [cdn h0, cdn h0, Option.bind_some]
    show Option.bind (cond (decide (e ≠ 0)) _ _) _ = _
    rw [cdp h0]
    rfl
theorem many_lim (b : Bool) (rc : RcT) (k : Nat) {d : Int} (hd : 64 ≤ d) : f403 rc k s n (knd b) (cls b) d = some (5, 0, [], [], n) := by
  unfold f403
  rw [cdp hd]
theorem value_num (k : Nat) {d : Int} (h : At s n (49 :: R)) (hb : s.length ≤ 20000) (hR : ∀ d R', R = d :: R' → 57 < ((d.toNat : Nat) : Int)) : f397 (k + 10) s n d = some (0, 4, [49], [], [], n + 1) := by
  have hl := h.len
  rw [List.length_cons] at hl
  rw [f397]
  unfold f397_s
  rw [white_at (k + 8) h (by decide) (by decide) (by decide) (by decide), Option.bind_some, cdn (by omega), gdp (by omega), h.get, cdn (by decide), cdn (by decide), cdn (by decide), cdn (by decide), cdn (by decide), cdn (by decide), num_at (k + 6) h hb hR]
  rfl
theorem value_many (b : Bool) (k : Nat) {d : Int} {r : Int × Int × List (RT 4) × List (List UInt8) × Int} (h : At s n (fst1 b :: R)) (hb : s.length ≤ 20000) (hm : f403 (f397 (k + 1)) (k + 1) s n (knd b) (cls b) d = some r) : f397 (k + 2) s n d = some (r.1, r.2.1, [], r.2.2.1, r.2.2.2.1, r.2.2.2.2) := by
  have hl := h.len
  rw [List.length_cons] at hl
  rw [f397]
  unfold f397_s
  rw [white_at k h (by cases b <;> decide) (by cases b <;> decide) (by cases b <;> decide) (by cases b <;> decide), Option.bind_some, cdn (by omega), gdp (by omega), h.get, cdn (by cases b <;> decide), cdn (by cases b <;> decide), cdn (by cases b <;> decide), cdn (by cases b <;> decide)]
  cases b with
  | false =>
    rw [cdp (by decide)]
    show (f403 (f397 (k + 1)) (k + 1) s n (knd false) (cls false) d).bind _ = _
    rw [hm]
    rfl
  | true =>
    rw [cdn (by decide), cdp (by decide)]
    show (f403 (f397 (k + 1)) (k + 1) s n (knd true) (cls true) d).bind _ = _
    rw [hm]
    rfl
theorem value_ok (b : Bool) : ∀ (m k : Nat) (n d : Int) (R : List UInt8), 0 ≤ d → d + (m : Int) ≤ 64 → s.length ≤ 20000 → At s n (deepT b m ++ R) → (∀ d R', R = d :: R' → 57 < ((d.toNat : Nat) : Int)) →
    f397 (k + m + 10) s n d = some (0, (deepV b m).fKind, (deepV b m).fText, (deepV b m).fL, (deepV b m).fKeys, n + (((deepT b m).length : Nat) : Int))
  | 0, k, n, d, R, h0, h1, hb, h, hR => value_num k h hb hR
  | m + 1, k, n, d, R, h0, h1, hb, h, hR => by
    have h' : At s n (fst1 b :: (opn b ++ (deepT b m ++ (cls b :: R)))) := by
      have : deepT b (m + 1) ++ R = fst1 b :: (opn b ++ (deepT b m ++ (cls b :: R))) := by simp [deepT]
      rwa [this] at h
    have h2 := h'.next.skip
    have ih := value_ok b m k (n + 1 + (((opn b).length : Nat) : Int)) (d + 1) (cls b :: R) (by omega) (by omega) hb h2 (fun d R' e => by cases e; cases b <;> decide)
    have hm := many_at b m (f397 (k + m + 10)) (k + m + 4) (d := d) ⟨h0, by omega⟩ hb h' ih (fun _ => h2.skip)
    rw [cdp rfl] at hm
    have := value_many b (k + m + 9) h' hb hm
    rw [show k + (m + 1) + 10 = k + m + 9 + 2 by omega, this]
    have e : n + 1 + (((opn b).length : Nat) : Int) + (((deepT b m).length : Nat) : Int) + 1 = n + (((deepT b (m + 1)).length : Nat) : Int) := by
      simp only [deepT, List.length_cons, List.length_append, List.length_nil]
      omega
    rw [← e]
    rfl
theorem value_lim (b : Bool) : ∀ (m k : Nat) (n d : Int) (R : List UInt8), 0 ≤ d → d ≤ 64 → 64 < d + (m : Int) → s.length ≤ 20000 → At s n (deepT b m ++ R) →
    ∃ n', f397 (k + m + 10) s n d = some (5, 0, [], [], [], n')
  | 0, k, n, d, R, h0, h1, h3, hb, h => by omega
  | m + 1, k, n, d, R, h0, h1, h3, hb, h => by
    have h' : At s n (fst1 b :: (opn b ++ (deepT b m ++ (cls b :: R)))) := by
      have : deepT b (m + 1) ++ R = fst1 b :: (opn b ++ (deepT b m ++ (cls b :: R))) := by simp [deepT]
      rwa [this] at h
    by_cases hd : 64 ≤ d
    · have := value_many b (k + m + 9) h' hb (many_lim b _ _ hd)
      exact ⟨n, by rw [show k + (m + 1) + 10 = k + m + 9 + 2 by omega, this]⟩
    · have h2 := h'.next.skip
      obtain ⟨n', ih⟩ := value_lim b m k (n + 1 + (((opn b).length : Nat) : Int)) (d + 1) (cls b :: R) (by omega) (by omega) (by omega) hb h2
      have hm := many_at b m (f397 (k + m + 10)) (k + m + 4) (d := d) ⟨h0, by omega⟩ hb h' ih (fun h => absurd h (by decide))
      rw [cdn (by decide)] at hm
      have := value_many b (k + m + 9) h' hb hm
      exact ⟨n', by rw [show k + (m + 1) + 10 = k + m + 9 + 2 by omega, this]⟩
def prT (b : Bool) : Nat → List UInt8
  | 0 => []
  | m + 1 => prT b m ++ (fst1 b :: opn b)
def poT (b : Bool) : Nat → List UInt8
  | 0 => []
  | m + 1 => poT b m ++ [cls b]
theorem prT_len (b : Bool) : ∀ m, (prT b m).length ≤ 5 * m
  | 0 => Nat.le_refl _
  | m + 1 => by
    have := prT_len b m
    have : (opn b).length ≤ 4 := by cases b <;> decide
    simp only [prT, List.length_append, List.length_cons]
    omega
theorem poT_len (b : Bool) : ∀ m, (poT b m).length = m
  | 0 => rfl
  | m + 1 => by
    have := poT_len b m
    simp only [poT, List.length_append, List.length_cons, List.length_nil]
    omega
theorem prT_comm (b : Bool) : ∀ m, prT b m ++ (fst1 b :: opn b) = (fst1 b :: opn b) ++ prT b m
  | 0 => by simp [prT]
  | m + 1 => by
    rw [prT, ← List.append_assoc, ← prT_comm b m]
theorem deepT_eq (b : Bool) : ∀ m, deepT b m = (prT b m ++ [49]) ++ poT b m
  | 0 => rfl
  | m + 1 => by
    rw [deepT, deepT_eq b m, prT, prT_comm, poT]
    simp
theorem deepT_len (b : Bool) (m : Nat) : (deepT b m).length ≤ 6 * m + 1 := by
  have := prT_len b m
  have := poT_len b m
  rw [deepT_eq]
  simp only [List.length_append, List.length_cons, List.length_nil]
  omega
theorem build_at (a0 : Int) (b : Bool) (N : Nat) (hN : IntKind.i64.wrap ((1 : Int) + (IntKind.i64.wrap (Int.tmod (IntKind.u64.wrap a0) (70 : Int)))) = (N : Int)) (hb : N ≤ 70) : ∀ (j i k : Nat), i + j = N → f412_l24 a0 b (k + j + 1) (prT b i) (poT b i) (i : Int) = some (.b0 (prT b N, poT b N))
  | 0, i, k, h => by
    rw [f412_l24, hN, cdn (by omega)]
    rw [show i = N by omega]
  | j + 1, i, k, h => by
    have ih := build_at a0 b N hN hb j (i + 1) k (by omega)
    have l1 := prT_len b i
    have l2 := poT_len b i
    rw [show k + (j + 1) + 1 = (k + j + 1) + 1 by omega, f412_l24, hN, cdp (by omega)]
    have e : IntKind.i64.wrap ((i : Int) + 1) = ((i + 1 : Nat) : Int) := by rw [i64w (by omega)]; rfl
    cases b with
    | true =>
      rw [cond_true, gdp (by simp only [List.length_cons, List.length_nil]; omega), gdp (by simp only [List.length_cons, List.length_nil]; omega), e]
      exact ih
    | false =>
      rw [cond_false, gdp (by simp only [List.length_cons, List.length_nil]; omega), gdp (by simp only [List.length_cons, List.length_nil]; omega), e]
      exact ih
theorem depth_at (b : Bool) : ∀ (m k : Nat) (y : Int), 0 ≤ y → y + (m : Int) ≤ 1000 → f412_l89 (k + m + 1) y (deepV b m).fKind (deepV b m).fText (deepV b m).fL (deepV b m).fKeys = some (.b0 (y + (m : Int)))
  | 0, k, y, h0, h1 => by
    rw [f412_l89]
    show cond (decide ((0 : Int) = 1)) _ _ = _
    rw [cdn (by decide)]
    simp
  | m + 1, k, y, h0, h1 => by
    have ih := depth_at b m k (y + 1) (by omega) (by omega)
    rw [show k + (m + 1) + 1 = (k + m + 1) + 1 by omega, f412_l89]
    show cond (decide ((1 : Int) = 1)) (gd ((0 : Int) ≤ 0 ∧ (0 : Int) < 1) ((TJson.dec (rtE (RT.of TJson.ok (deepV b m)))).bind _)) _ = _
    rw [cdp rfl, gdp (by decide), TJson.dec_of, Option.bind_some, i64w (by omega), ih]
    rw [show y + 1 + (m : Int) = y + ((m + 1 : Nat) : Int) by omega]
theorem parse_ok (b : Bool) (m k : Nat) (h : m ≤ 64) : f396 (k + m + 10) (deepT b m) = some (0, (deepV b m).fKind, (deepV b m).fText, (deepV b m).fL, (deepV b m).fKeys) := by
  have hl := deepT_len b m
  have h0 : At (deepT b m) 0 (deepT b m ++ []) := by rw [List.append_nil]; exact At.start _
  have hv := value_ok b m k 0 0 [] (by omega) (by omega) (by omega) h0 (fun _ _ e => by cases e)
  have he := h0.skip
  rw [f396, cdn (by omega), hv, Option.bind_some]
  show cond (decide ((0 : Int) ≠ 0)) _ _ = _
  rw [cdn (by decide)]
  show Option.bind (f398 (k + m + 9 + 1) _ (0 + (((deepT b m).length : Nat) : Int))) _ = _
  rw [white_end _ he, Option.bind_some, cdn (by omega)]
theorem parse_lim (b : Bool) (m k : Nat) (h : 64 < m) (h2 : m ≤ 70) : f396 (k + m + 10) (deepT b m) = some (5, 0, [], [], []) := by
  have hl := deepT_len b m
  have h0 : At (deepT b m) 0 (deepT b m ++ []) := by rw [List.append_nil]; exact At.start _
  obtain ⟨n', hv⟩ := value_lim b m k 0 0 [] (by omega) (by omega) (by omega) (by omega) h0
  rw [f396, cdn (by omega), hv, Option.bind_some]
  rfl
theorem awake_jd (k : Nat) : f395 (k + 12) = some true := by kernel_rfl
theorem law_JsonDepths (a0 : Int) (a1 : Bool) (w0 : -9223372036854775808 ≤ a0 ∧ a0 ≤ 9223372036854775807) (w1 : True) (hb : 1 + 1 ≤ 1048576) : ∃ k, f412 k a0 a1 = some true := by
  have hu : 0 ≤ IntKind.u64.wrap a0 := by
    simp only [IntKind.wrap, IntKind.signed, IntKind.bits]
    simp
    omega
  clear hb w0 w1
  obtain ⟨N, hN, hb⟩ : ∃ N : Nat, IntKind.i64.wrap ((1 : Int) + (IntKind.i64.wrap (Int.tmod (IntKind.u64.wrap a0) (70 : Int)))) = (N : Int) ∧ N ≤ 70 := by
    have h1 := Int.tmod_eq_emod_of_nonneg (b := 70) hu
    refine ⟨(1 + IntKind.u64.wrap a0 % 70).toNat, ?_, by omega⟩
    rw [h1, i64w (n := IntKind.u64.wrap a0 % 70) (by omega), i64w (by omega)]
    omega
  have l1 := prT_len a1 N
  have l2 := poT_len a1 N
  have hb0 := build_at a0 a1 N hN hb N 0 (200 - N) (by omega)
  rw [show 200 - N + N + 1 = 201 by omega] at hb0
  refine ⟨201, ?_⟩
  unfold f412
  show Option.bind (f412_l24 a0 a1 201 (prT a1 0) (poT a1 0) ((0 : Nat) : Int)) _ = _
  rw [hb0, Option.bind_some]
  show f412_j64 201 a0 (prT a1 N) (poT a1 N) = _
  unfold f412_j64
  rw [gdp (by simp only [List.length_cons, List.length_nil]; omega), gdp (by simp only [List.length_append, List.length_cons, List.length_nil]; omega), ← deepT_eq]
  by_cases h : N ≤ 64
  · have hp := parse_ok a1 N (191 - N) h
    rw [show 191 - N + N + 10 = 201 by omega] at hp
    have hd := depth_at a1 N (200 - N) 0 (by omega) (by omega)
    rw [show 200 - N + N + 1 = 201 by omega] at hd
    rw [hp, Option.bind_some]
    show Option.bind (f412_l89 201 0 (deepV a1 N).fKind (deepV a1 N).fText (deepV a1 N).fL (deepV a1 N).fKeys) _ = _
    rw [hd, Option.bind_some]
    show f412_j125 _ _ _ _ = _
    unfold f412_j125
    rw [awake_jd, Option.bind_some, cond_true, hN, cdp (by omega), cdp rfl, cdp (by omega)]
  · have hp := parse_lim a1 N (191 - N) (by omega) hb
    rw [show 191 - N + N + 10 = 201 by omega] at hp
    rw [hp, Option.bind_some]
    show f412_j125 201 a0 (5, 0, [], [], []) 0 = _
    unfold f412_j125
    rw [awake_jd, Option.bind_some, cond_true, hN, cdn (by omega), cdp (by omega), cdp rfl]
    rfl
end Go.Proofs.Abs
