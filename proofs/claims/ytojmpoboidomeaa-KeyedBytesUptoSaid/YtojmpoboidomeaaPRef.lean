/- Reading, by the reference's reader: the same answers. -/
import Derived.Test.YtojmpoboidomeaaGLkbyc
import Derived.Test.YtojmpoboidomeaaPRec
set_option linter.unusedSimpArgs false
namespace Go.Proofs.Abs
open Go
set_option linter.unusedVariables false
set_option maxRecDepth 10000
theorem shl64u {x i : Nat} (hi : i ≤ 9) (h : x * 2 ^ (7 * i) < 18446744073709551616) : IntKind.u64.wrap ((x : Int) * 2 ^ (min ((IntKind.u64.wrap (IntKind.i64.wrap ((7 : Int) * (i : Int))))).toNat IntKind.u64.bits)) = ((x * 2 ^ (7 * i) : Nat) : Int) := by
  rw [i64w (by omega), u64w (n := (7 : Int) * (i : Int)) (by omega), show ((7 : Int) * (i : Int)).toNat = 7 * i by omega, show IntKind.u64.bits = 64 from rfl, Nat.min_eq_left (by omega)]
  rw [show ((x : Int) * 2 ^ (7 * i)) = ((x * 2 ^ (7 * i) : Nat) : Int) by push_cast; rfl]
  exact u64w (by omega)
/-- a number's reading, as three numbers -/
def tri : Int ⊕ (Nat × Nat) → Int × Int × Int
  | .inl e => (0, 0, e)
  | .inr (w, n) => ((w : Int), (n : Int), 0)
theorem l89 {b : List UInt8} {p : Nat} (hb : b.length ≤ 100000000) : ∀ (rest pre : List UInt8) (i v k : Nat), b = pre ++ rest → pre.length = p + i → i ≤ 9 → v < 2 ^ (7 * i) → 10 ≤ k + i →
    f89_l15 (p : Int) b k (v : Int) (i : Int) = some (.r (tri (rdN i v rest))) := by
  intro rest
  induction rest with
  | nil =>
    intro pre i v k hpre hpl hi hv hk
    obtain ⟨k, rfl, _⟩ := succ_of_pos (show 0 < k by omega)
    have hl : b.length = pre.length := by rw [hpre]; simp
    rw [f89_l15, cond_dec, i64w (by omega), if_pos (by omega)]
    rfl
  | cons c rest ih =>
    intro pre i v k hpre hpl hi hv hk
    obtain ⟨k, rfl, _⟩ := succ_of_pos (show 0 < k by omega)
    have hl : b.length = pre.length + rest.length + 1 := by rw [hpre]; simp; omega
    have hpi : IntKind.i64.wrap ((p : Int) + (i : Int)) = ((pre.length : Nat) : Int) := by rw [i64w (by omega)]; omega
    have hrd : rd b ((pre.length : Nat) : Int) = c := by rw [hpre]; exact rd_mid
    have hc := c.toNat_lt
    have hwi : IntKind.i64.wrap ((i : Int) + 1) = ((i + 1 : Nat) : Int) := by rw [i64w (by omega)]; omega
    have hv64 : v < 18446744073709551616 := Nat.lt_of_lt_of_le hv (Nat.le_trans (Nat.pow_le_pow_right (by decide) (show 7 * i ≤ 64 by omega)) (by decide))
    have e2 : ¬ (i = 9 ∧ 1 < c.toNat) → (bitsA .or .u64 (v : Int) (IntKind.u64.wrap ((IntKind.u64.wrap (bitsA .and .u8 ((c.toNat : Nat) : Int) (127 : Int))) * 2 ^ (min ((IntKind.u64.wrap (IntKind.i64.wrap ((7 : Int) * (i : Int))))).toNat IntKind.u64.bits)))) = ((v + c.toNat % 128 * 2 ^ (7 * i) : Nat) : Int) := by
      intro hn
      have hd := dig_lt (c := c.toNat % 128) (i := i) (by omega) hi (by omega)
      rw [and127 _ hc, u64w (n := ((c.toNat % 128 : Nat) : Int)) (by omega), shl64u hi hd, orAdd hv hv64 hd]
    rw [f89_l15, hpi, cond_dec, if_neg (by omega), gd_pos (by omega), cond_dec, hrd]
    have key : ∀ x : Bool, (x = true ↔ i = 9 ∧ 1 < c.toNat) → f89_j70 (f89_l15 (p : Int) b k) k (i : Int) b (p : Int) (v : Int) x = some (.r (tri (rdN i v (c :: rest)))) := by
      intro x hx
      rw [rdN]
      cases x
      · have hx' : ¬ (i = 9 ∧ 1 < c.toNat) := fun h => by simpa using hx.2 h
        simp only [f89_j70, cond_false, hpi, hrd, e2 hx', hwi]
        rw [gd_pos (by rw [i64w (by omega), u64w (by omega)]; omega), cond_dec]
        by_cases h2 : c.toNat < 128
        · rw [if_pos (by omega), cond_dec]
          by_cases h3 : c.toNat = 0
          · rw [if_pos (by omega), f89_j108, cond_dec]
            by_cases h4 : 0 < i
            · rw [if_pos (by omega), if_pos (by omega)]; rfl
            · rw [if_neg (by omega), if_neg (by omega), if_pos h2]
              simp only [hpi, hrd, e2 hx', hwi, tri]
              rw [Nat.mod_eq_of_lt h2]
          · rw [if_neg (by omega), f89_j108, cond_false, if_neg (by omega), if_pos h2]
            simp only [hpi, hrd, e2 hx', hwi, tri]
            rw [Nat.mod_eq_of_lt h2]
        · rw [if_neg (by omega), if_neg (by omega), if_neg h2]
          have hv' : v + c.toNat % 128 * 2 ^ (7 * i) < 2 ^ (7 * (i + 1)) := by
            rw [pow7]
            have : c.toNat % 128 * 2 ^ (7 * i) ≤ 127 * 2 ^ (7 * i) := Nat.mul_le_mul_right _ (by omega)
            omega
          exact ih (pre ++ [c]) (i + 1) _ k (by rw [hpre]; simp) (by simp; omega) (by omega) hv' (by omega)
      · have hx' := hx.1 rfl
        rw [if_pos (.inl hx'), f89_j70, cond_true]
        rfl
    by_cases h9 : i = 9
    · rw [if_pos (by omega)]
      exact key _ (by simp; omega)
    · rw [if_neg (by omega)]
      exact key false (by simp; omega)
theorem number_ref {b : List UInt8} {p : Nat} {e : Int} (hb : b.length ≤ 100000000) (hp : p ≤ b.length) {k : Nat} (hk : 10 ≤ k) : f89 k b (p : Int) e = some (tri (rdN 0 0 (b.drop p))) := by
  have h := l89 (p := p) hb (b.drop p) (b.take p) 0 0 k (List.take_append_drop _ _).symm (by rw [List.length_take, Nat.min_eq_left hp]; rfl) (by omega) (by simp) (by omega)
  rw [f89, show f89_l15 (p : Int) b k 0 0 = _ from h]
  rfl
theorem num_rref {b : List UInt8} {p : Nat} {e : Int} (hb : b.length ≤ 100000000) (hp : p ≤ b.length) {k : Nat} (hk : 10 ≤ k) : f46 k b (p : Int) e = some (((rNum b p e).1 : Int), ((rNum b p e).2.1 : Int), (rNum b p e).2.2) := by
  rw [f46, cond_dec]
  by_cases he : e = 0
  · subst he
    rw [if_neg (by simp), number_ref hb hp hk]
    simp only [Option.bind_some, rNum, if_true]
    cases hr : rdN 0 0 (b.drop p) with
    | inl e' =>
      simp only [tri]
      rw [i64w (by omega)]
      simp
    | inr x =>
      obtain ⟨w, n⟩ := x
      have := (rdN_len hr).2.1
      simp only [List.length_drop] at this
      simp only [tri]
      rw [i64w (by omega)]
      simp
  · rw [if_pos he]
    simp only [rNum, if_neg he]
    rfl
theorem signed_ref {v : Nat} (h : v < 18446744073709551616) {k : Nat} : f90 k (v : Int) = some (unz v) := by
  have e1 : Int.tmod (v : Int) 2 = ((v % 2 : Nat) : Int) := by
    rw [Int.tmod_eq_emod_of_nonneg (by omega)]; omega
  have e2 : Int.tdiv (v : Int) 2 = ((v / 2 : Nat) : Int) := by
    rw [Int.tdiv_eq_ediv_of_nonneg (by omega)]; omega
  rw [f90, cond_dec, e1, e2, u64w (by omega), i64w (n := ((v / 2 : Nat) : Int)) (by omega), i64w (n := 0 - ((v / 2 : Nat) : Int)) (by omega), i64w (by omega), unz]
  by_cases c : v % 2 = 0
  · rw [if_pos (by omega), if_pos c]
  · rw [if_neg (by omega), if_neg c]
    congr 1
    omega
theorem zig_rref {b : List UInt8} {p : Nat} {e : Int} (hb : b.length ≤ 100000000) (hp : p ≤ b.length) {k : Nat} (hk : 10 ≤ k) : f47 k b (p : Int) e = some ((rZig b p e).1, (((rZig b p e).2.1 : Nat) : Int), (rZig b p e).2.2) := by
  simp only [f47, num_rref hb hp hk, Option.bind_some, signed_ref (rNum_lt b p e)]
  rfl
theorem text_rref {b : List UInt8} {p : Nat} {e m : Int} (hb : b.length ≤ 100000000) (hp : p ≤ b.length) {k : Nat} (hk : 10 ≤ k) : f48 k b (p : Int) e m = some ((rText b p e m).1, (((rText b p e m).2.1 : Nat) : Int), (rText b p e m).2.2) := by
  rw [f48, cond_dec]
  by_cases he : e = 0
  · subst he
    rw [if_neg (by simp)]
    have hnum := number_ref (e := 0) hb hp hk
    simp only [rText, if_true]
    cases hr : rdN 0 0 (b.drop p) with
    | inl e' =>
      have he' := rdN_err _ _ _ _ hr
      rw [hr] at hnum
      simp only [show f89 k b (p : Int) 0 = some (0, 0, e') from hnum, show f90 k 0 = some (unz 0) from signed_ref (v := 0) (by decide), Option.bind_some, cond_dec, f48_j109]
      rw [ifp (show e' ≠ 0 by omega), ifp (show e' ≠ 0 by omega)]
    | inr x =>
      obtain ⟨w, n⟩ := x
      obtain ⟨h0, h1, h2, h3⟩ := rdN_len hr
      simp only [List.length_drop] at h1
      have hw := unz_in h2
      rw [hr] at hnum
      simp only [show f89 k b (p : Int) 0 = some ((w : Int), (n : Int), 0) from hnum, signed_ref h2, Option.bind_some, cond_dec, f48_j109]
      rw [ifn (show ¬ ((0 : Int) ≠ 0) by simp)]
      by_cases c1 : unz w < 0
      · rw [ifp c1, ifp c1, ifp (by simp)]
      · rw [ifn c1, ifn c1]
        by_cases c2 : max m 0 < unz w
        · rw [ifp c2, ifp c2, ifp (by simp)]
        · rw [ifn c2, ifn c2, i64w (n := ((b.length : Nat) : Int) - (p : Int)) (by omega), i64w (n := ((b.length : Nat) : Int) - (p : Int) - (n : Int)) (by omega)]
          by_cases c4 : ((b.length : Nat) : Int) < ((p + n : Nat) : Int) + unz w
          · rw [ifp (by omega), ifp c4, ifp (by simp)]
          · rw [ifn (by omega), ifn c4, ifn (by simp)]
            obtain ⟨q, hq⟩ := Int.eq_ofNat_of_zero_le (show 0 ≤ unz w by omega)
            rw [hq] at c4 c2 ⊢
            rw [i64w (n := (p : Int) + (n : Int)) (by omega), show (p : Int) + (n : Int) = ((p + n : Nat) : Int) by omega]
            rw [i64w (n := ((p + n : Nat) : Int) + (q : Int)) (by omega), show ((p + n : Nat) : Int) + (q : Int) = ((p + n + q : Nat) : Int) by omega]
            rw [gdp (by omega), sl_nat, gdp (by simp only [List.length_take, List.length_drop]; omega)]
            rfl
  · rw [if_pos he]
    simp only [rText, if_neg he]
theorem new_rref {b : List UInt8} (hb : b.length ≤ 100000000) {k : Nat} : f44 k b = some () := by
  rw [f44, gd_pos (by omega)]
end Go.Proofs.Abs
