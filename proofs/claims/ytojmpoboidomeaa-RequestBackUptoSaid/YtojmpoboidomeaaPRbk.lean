/- What is written is read, and what is read is what was written. -/
import Derived.Test.YtojmpoboidomeaaPRdm
set_option linter.unusedSimpArgs false
namespace Go.Proofs.Abs
open Go
set_option linter.unusedVariables false
set_option maxRecDepth 10000
theorem putZ {b pre rest : List UInt8} {a : Int} (hb : b = pre ++ (zb a ++ rest)) (ha : -9223372036854775808 ≤ a ∧ a ≤ 9223372036854775807) : rZig b pre.length 0 = (a, (pre ++ zb a).length, 0) ∧ b = (pre ++ zb a) ++ rest ∧ pre.length ≤ b.length :=
  ⟨rZig_put hb ha, by rw [hb, List.append_assoc], by rw [hb]; simp⟩
theorem putU {b pre rest : List UInt8} {a : Int} (hb : b = pre ++ (ub a ++ rest)) (ha : 0 ≤ a ∧ a ≤ 18446744073709551615) : rNum b pre.length 0 = (a.toNat, (pre ++ ub a).length, 0) ∧ b = (pre ++ ub a) ++ rest ∧ pre.length ≤ b.length ∧ ((a.toNat : Nat) : Int) = a :=
  ⟨rNum_put hb (by omega), by rw [hb, List.append_assoc], by rw [hb]; simp, by omega⟩
theorem putT {b pre rest t : List UInt8} {m : Int} (hb : b = pre ++ (tb t ++ rest)) (ht : ((t.length : Nat) : Int) ≤ m) (hm : m ≤ 9223372036854775807) : rText b pre.length 0 m = (t, (pre ++ tb t).length, 0) ∧ b = (pre ++ tb t) ++ rest ∧ pre.length ≤ b.length :=
  ⟨rText_put hb ht hm, by rw [hb, List.append_assoc], by rw [hb]; simp⟩
theorem putE {b pre rest : List UInt8} (hb : b = pre ++ rest) : rEnd b pre.length 0 = (if rest = [] then 0 else 4) ∧ pre.length ≤ b.length := by
  subst hb
  refine ⟨?_, by simp⟩
  unfold rEnd
  rw [if_neg (by simp)]
  cases rest with
  | nil => simp
  | cons x r => rw [if_pos (by simp), if_neg (by simp)]
/-- what Take says of a request's bytes, whatever is behind -/
theorem take_put {r : TRequest} {tail : List UInt8} (w : TRequest.wf r) (h1 : r.fName.length ≤ 20000) (h2 : r.fText.length ≤ 20000) (h3 : r.fGroup.length ≤ 20000) (h4 : r.fData.length ≤ 20000) (ht : tail.length ≤ 10) {k : Nat} (hk : 10 ≤ k) :
    f57 k (rqB r ++ tail) = some (if tail = [] then (0, r.fKind, r.fName, r.fText, r.fGroup, r.fN, r.fVersion, r.fProducer, r.fSeq, r.fOffset, r.fMost, r.fData) else (4, 0, [], [], [], 0, 0, 0, 0, 0, 0, [])) := by
  obtain ⟨w1, w2, w3, w4, w5, w6, w7, w8, w9, w10, w11, -⟩ := w
  have l1 := zb_len w1
  have l2 := tb_len (t := r.fName) (by omega)
  have l3 := tb_len (t := r.fText) (by omega)
  have l4 := tb_len (t := r.fGroup) (by omega)
  have l5 := zb_len w5
  have l6 := zb_len w6
  have l7 := ub_len w7
  have l8 := ub_len w8
  have l9 := ub_len w9
  have l10 := zb_len w10
  have l11 := tb_len (t := r.fData) (by omega)
  have hb : (rqB r ++ tail).length ≤ 100000000 := by simp only [rqB, List.length_append]; omega
  have q0 : rqB r ++ tail = [] ++ (zb r.fKind ++ (tb r.fName ++ (tb r.fText ++ (tb r.fGroup ++ (zb r.fN ++ (zb r.fVersion ++ (ub r.fProducer ++ (ub r.fSeq ++ (ub r.fOffset ++ (zb r.fMost ++ (tb r.fData ++ tail))))))))))) := by simp only [rqB, List.append_assoc, List.nil_append]
  generalize rqB r ++ tail = b at hb q0
  obtain ⟨e1, q1, p1⟩ := putZ q0 w1
  obtain ⟨e2, q2, p2⟩ := putT (m := 20000) q1 (by omega) (by omega)
  obtain ⟨e3, q3, p3⟩ := putT (m := 20000) q2 (by omega) (by omega)
  obtain ⟨e4, q4, p4⟩ := putT (m := 20000) q3 (by omega) (by omega)
  obtain ⟨e5, q5, p5⟩ := putZ q4 w5
  obtain ⟨e6, q6, p6⟩ := putZ q5 w6
  obtain ⟨e7, q7, p7, v7⟩ := putU q6 w7
  obtain ⟨e8, q8, p8, v8⟩ := putU q7 w8
  obtain ⟨e9, q9, p9, v9⟩ := putU q8 w9
  obtain ⟨e10, q10, p10⟩ := putZ q9 w10
  obtain ⟨e11, q11, p11⟩ := putT (m := 20000) q10 (by omega) (by omega)
  obtain ⟨e12, p12⟩ := putE q11
  simp only [f57, f92, f93, new_read hb, Option.bind_some]
  rw [show f40 k b 0 0 = _ from zig_read (p := 0) (e := 0) hb (by omega) hk, show rZig b 0 0 = _ from e1]
  simp only [Option.bind_some]
  rw [text_read hb p2 hk, e2]
  simp only [Option.bind_some]
  rw [text_read hb p3 hk, e3]
  simp only [Option.bind_some]
  rw [text_read hb p4 hk, e4]
  simp only [Option.bind_some]
  rw [zig_read hb p5 hk, e5]
  simp only [Option.bind_some]
  rw [zig_read hb p6 hk, e6]
  simp only [Option.bind_some]
  rw [num_read hb p7 hk, e7]
  simp only [Option.bind_some]
  rw [num_read hb p8 hk, e8]
  simp only [Option.bind_some]
  rw [num_read hb p9 hk, e9]
  simp only [Option.bind_some]
  rw [zig_read hb p10 hk, e10]
  simp only [Option.bind_some]
  rw [text_read hb p11 hk, e11]
  simp only [Option.bind_some]
  rw [end_read hb p12, e12]
  simp only [Option.bind_some, v7, v8, v9]
  by_cases c : tail = []
  · rw [if_pos c, if_pos c]; rfl
  · rw [if_neg c, if_neg c]; rfl
/-! ## Back -/
theorem backN {b : List UInt8} {p : Nat} {e : Int} (h : (rNum b p e).2.2 = 0) : e = 0 ∧ b.drop p = nb (rNum b p e).1 ++ b.drop (rNum b p e).2.1 := by
  unfold rNum at h ⊢
  by_cases he : e = 0
  · rw [if_pos he] at h ⊢
    cases hr : rdN 0 0 (b.drop p) with
    | inl e' =>
      have := rdN_err _ _ _ _ hr
      rw [hr] at h
      simp only [] at h
      omega
    | inr x =>
      obtain ⟨w, n⟩ := x
      have := (rdN_len hr).2.2.2
      refine ⟨he, ?_⟩
      simp only [this, ← List.drop_drop, List.take_append_drop]
  · rw [if_neg he] at h; exact absurd h he
theorem backZ {b : List UInt8} {p : Nat} {e : Int} (h : (rZig b p e).2.2 = 0) : e = 0 ∧ b.drop p = zb (rZig b p e).1 ++ b.drop (rZig b p e).2.1 := by
  have := backN h
  refine ⟨this.1, ?_⟩
  rw [zb, rZig, zg_unz]
  exact this.2
theorem backU {b : List UInt8} {p : Nat} {e : Int} (h : (rNum b p e).2.2 = 0) : e = 0 ∧ b.drop p = ub (((rNum b p e).1 : Nat) : Int) ++ b.drop (rNum b p e).2.1 := backN h
theorem backT {b : List UInt8} {p : Nat} {e m : Int} (hp : p ≤ b.length) (h : (rText b p e m).2.2 = 0) : e = 0 ∧ b.drop p = tb (rText b p e m).1 ++ b.drop (rText b p e m).2.1 ∧ (((rText b p e m).1.length : Nat) : Int) ≤ max m 0 := by
  unfold rText at h ⊢
  by_cases he : e = 0
  · rw [if_pos he] at h ⊢
    cases hr : rdN 0 0 (b.drop p) with
    | inl e' =>
      have := rdN_err _ _ _ _ hr
      rw [hr] at h
      simp only [] at h
      omega
    | inr x =>
      obtain ⟨w, n⟩ := x
      obtain ⟨h0, h1, h2, h3⟩ := rdN_len hr
      rw [hr] at h
      simp only [List.length_drop] at h1
      simp only [] at h ⊢
      by_cases c1 : unz w < 0
      · rw [if_pos c1] at h; simp at h
      rw [if_neg c1] at h ⊢
      by_cases c2 : max m 0 < unz w
      · rw [if_pos c2] at h; simp at h
      rw [if_neg c2] at h ⊢
      by_cases c3 : ((b.length : Nat) : Int) < ((p + n : Nat) : Int) + unz w
      · rw [if_pos c3] at h; simp at h
      rw [if_neg c3] at h ⊢
      have hl : ((b.drop (p + n)).take (unz w).toNat).length = (unz w).toNat := by
        rw [List.length_take, List.length_drop]; omega
      refine ⟨he, ?_, by simp only [hl]; omega⟩
      simp only [tb, hl]
      have d1 : b.drop (p + n + (unz w).toNat) = ((b.drop p).drop n).drop (unz w).toNat := by simp [List.drop_drop, Nat.add_assoc]
      have d2 : b.drop (p + n) = (b.drop p).drop n := by simp [List.drop_drop]
      rw [show (((unz w).toNat : Nat) : Int) = unz w by omega, zg_unz, h3, List.append_assoc, d1, d2, List.take_append_drop, List.take_append_drop]
  · rw [if_neg he] at h; exact absurd h he
theorem backE {b : List UInt8} {p : Nat} {e : Int} (h : rEnd b p e = 0) : e = 0 ∧ b.drop p = [] := by
  unfold rEnd at h
  by_cases he : e ≠ 0
  · rw [if_pos he] at h; exact absurd h he
  · rw [if_neg he] at h
    refine ⟨by simpa using he, List.drop_eq_nil_of_le ?_⟩
    by_cases c : p < b.length
    · rw [if_pos c] at h; simp at h
    · omega
theorem rZig_in (b : List UInt8) (p : Nat) (e : Int) : -9223372036854775808 ≤ (rZig b p e).1 ∧ (rZig b p e).1 ≤ 9223372036854775807 := unz_in (rNum_lt b p e)
theorem rNum_in (b : List UInt8) (p : Nat) (e : Int) : 0 ≤ (((rNum b p e).1 : Nat) : Int) ∧ (((rNum b p e).1 : Nat) : Int) ≤ 18446744073709551615 := by
  have := rNum_lt b p e
  omega
/-- a request that bytes were taken for is theirs -/
theorem take_back {b : List UInt8} (hb : b.length ≤ 100000000) {k : Nat} (hk : 10 ≤ k) : ∃ e r, f57 k b = some (e, TRequest.fKind r, r.fName, r.fText, r.fGroup, r.fN, r.fVersion, r.fProducer, r.fSeq, r.fOffset, r.fMost, r.fData) ∧ (e = 0 → rqB r = b ∧ TRequest.wf r ∧ TRequest.sz r ≤ 1048576) := by
  simp only [f57, f92, f93, new_read hb, Option.bind_some]
  rw [show f40 k b 0 0 = _ from zig_read (p := 0) (e := 0) hb (by omega) hk]
  simp only [Option.bind_some]
  have p1 : (rZig b 0 0).2.1 ≤ b.length := rZig_at (by omega)
  have b1 := backZ (b := b) (p := 0) (e := 0)
  have i1 := rZig_in b 0 0
  generalize rZig b 0 0 = x at p1 b1 i1 ⊢
  obtain ⟨x1, q1, e1⟩ := x
  rw [text_read hb p1 hk]
  simp only [Option.bind_some]
  have p2 := rText_at (b := b) (e := e1) (m := 20000) p1
  have b2 := backT (b := b) (e := e1) (m := 20000) p1
  generalize rText b q1 e1 20000 = x at p2 b2 ⊢
  obtain ⟨x2, q2, e2⟩ := x
  rw [text_read hb p2 hk]
  simp only [Option.bind_some]
  have p3 := rText_at (b := b) (e := e2) (m := 20000) p2
  have b3 := backT (b := b) (e := e2) (m := 20000) p2
  generalize rText b q2 e2 20000 = x at p3 b3 ⊢
  obtain ⟨x3, q3, e3⟩ := x
  rw [text_read hb p3 hk]
  simp only [Option.bind_some]
  have p4 := rText_at (b := b) (e := e3) (m := 20000) p3
  have b4 := backT (b := b) (e := e3) (m := 20000) p3
  generalize rText b q3 e3 20000 = x at p4 b4 ⊢
  obtain ⟨x4, q4, e4⟩ := x
  rw [zig_read hb p4 hk]
  simp only [Option.bind_some]
  have p5 := rZig_at (b := b) (e := e4) p4
  have b5 := backZ (b := b) (p := q4) (e := e4)
  have i5 := rZig_in b q4 e4
  generalize rZig b q4 e4 = x at p5 b5 i5 ⊢
  obtain ⟨x5, q5, e5⟩ := x
  rw [zig_read hb p5 hk]
  simp only [Option.bind_some]
  have p6 := rZig_at (b := b) (e := e5) p5
  have b6 := backZ (b := b) (p := q5) (e := e5)
  have i6 := rZig_in b q5 e5
  generalize rZig b q5 e5 = x at p6 b6 i6 ⊢
  obtain ⟨x6, q6, e6⟩ := x
  rw [num_read hb p6 hk]
  simp only [Option.bind_some]
  have p7 := rNum_at (b := b) (e := e6) p6
  have b7 := backU (b := b) (p := q6) (e := e6)
  have i7 := rNum_in b q6 e6
  generalize rNum b q6 e6 = x at p7 b7 i7 ⊢
  obtain ⟨x7, q7, e7⟩ := x
  rw [num_read hb p7 hk]
  simp only [Option.bind_some]
  have p8 := rNum_at (b := b) (e := e7) p7
  have b8 := backU (b := b) (p := q7) (e := e7)
  have i8 := rNum_in b q7 e7
  generalize rNum b q7 e7 = x at p8 b8 i8 ⊢
  obtain ⟨x8, q8, e8⟩ := x
  rw [num_read hb p8 hk]
  simp only [Option.bind_some]
  have p9 := rNum_at (b := b) (e := e8) p8
  have b9 := backU (b := b) (p := q8) (e := e8)
  have i9 := rNum_in b q8 e8
  generalize rNum b q8 e8 = x at p9 b9 i9 ⊢
  obtain ⟨x9, q9, e9⟩ := x
  rw [zig_read hb p9 hk]
  simp only [Option.bind_some]
  have p10 := rZig_at (b := b) (e := e9) p9
  have b10 := backZ (b := b) (p := q9) (e := e9)
  have i10 := rZig_in b q9 e9
  generalize rZig b q9 e9 = x at p10 b10 i10 ⊢
  obtain ⟨x10, q10, e10⟩ := x
  rw [text_read hb p10 hk]
  simp only [Option.bind_some]
  have p11 := rText_at (b := b) (e := e10) (m := 20000) p10
  have b11 := backT (b := b) (e := e10) (m := 20000) p10
  generalize rText b q10 e10 20000 = x at p11 b11 ⊢
  obtain ⟨x11, q11, e11⟩ := x
  rw [end_read hb p11]
  simp only [Option.bind_some]
  have b12 := backE (b := b) (p := q11) (e := e11)
  generalize rEnd b q11 e11 = z at b12 ⊢
  by_cases c : z ≠ 0
  · rw [cdp c]
    exact ⟨z, ⟨0, [], [], [], 0, 0, 0, 0, 0, 0, []⟩, rfl, fun h => absurd h c⟩
  · rw [cdn c]
    refine ⟨0, ⟨x1, x2, x3, x4, x5, x6, (x7 : Int), (x8 : Int), (x9 : Int), x10, x11⟩, rfl, fun _ => ?_⟩
    have hz : z = 0 := by simpa using c
    simp only [] at b1 b2 b3 b4 b5 b6 b7 b8 b9 b10 b11 b12 i1 i5 i6 i7 i8 i9 i10
    obtain ⟨h11, d11⟩ := b12 hz
    obtain ⟨h10, d10, n10⟩ := b11 h11
    obtain ⟨h9, d9⟩ := b10 h10
    obtain ⟨h8, d8⟩ := b9 h9
    obtain ⟨h7, d7⟩ := b8 h8
    obtain ⟨h6, d6⟩ := b7 h7
    obtain ⟨h5, d5⟩ := b6 h6
    obtain ⟨h4, d4⟩ := b5 h5
    obtain ⟨h3, d3, n3⟩ := b4 h4
    obtain ⟨h2, d2, n2⟩ := b3 h3
    obtain ⟨h1, d1, n1⟩ := b2 h2
    obtain ⟨h0, d0⟩ := b1 h1
    rw [d1, d2, d3, d4, d5, d6, d7, d8, d9, d10, d11, List.drop_zero] at d0
    have hlen : ∀ l : List UInt8, (l.map fun _ => 1).sum = l.length := by
      intro l
      induction l with
      | nil => rfl
      | cons x l ih => simp only [List.map_cons, List.sum_cons, List.length_cons, ih]; omega
    refine ⟨by rw [d0]; simp [rqB], ⟨i1, trivial, trivial, trivial, i5, i6, i7, i8, i9, i10, fun _ _ => trivial, trivial⟩, ?_⟩
    simp only [TRequest.sz, hlen]
    omega
end Go.Proofs.Abs
