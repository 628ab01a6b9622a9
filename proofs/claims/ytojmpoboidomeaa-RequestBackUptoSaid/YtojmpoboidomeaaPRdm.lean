/- Reading replies: what the program comes to. -/
import Derived.Test.YtojmpoboidomeaaGLrbac
import Derived.Test.YtojmpoboidomeaaPRep
import Derived.Test.YtojmpoboidomeaaPReb
set_option linter.unusedSimpArgs false
namespace Go.Proofs.Abs
open Go
set_option linter.unusedVariables false
set_option maxRecDepth 10000
/-- the next message -/
def rMsg (b : List UInt8) (p : Nat) (e : Int) : TMessage × Nat × Int :=
  match rNum b p e with
  | (o, p1, e1) => match rNum b p1 e1 with
    | (pr, p2, e2) => match rNum b p2 e2 with
      | (sq, p3, e3) => match rZig b p3 e3 with
        | (v, p4, e4) => match rText b p4 e4 20000 with
          | (t, p5, e5) => (⟨(o : Int), (pr : Int), (sq : Int), v, t⟩, p5, e5)
/-- the next messages -/
def rMsgs (b : List UInt8) : Nat → Nat → Int → List TMessage × Nat × Int
  | 0, p, e => ([], p, e)
  | n + 1, p, e => match rMsg b p e with
    | (m, p1, e1) => match rMsgs b n p1 e1 with
      | (l, p2, e2) => (m :: l, p2, e2)
/-- the reply that bytes are -/
def tkRp (b : List UInt8) : Int × Int × Int × Int × Int × List UInt8 × List TMessage :=
  match rZig b 0 0 with
  | (x1, p1, e1) => match rZig b p1 e1 with
    | (x2, p2, e2) => match rZig b p2 e2 with
      | (x3, p3, e3) => match rNum b p3 e3 with
        | (x4, p4, e4) => match rText b p4 e4 20000 with
          | (x5, p5, e5) => match rZig b p5 e5 with
            | (n, p6, e6) => if e6 ≠ 0 then (e6, 0, 0, 0, 0, [], []) else if n < 0 then (4, 0, 0, 0, 0, [], []) else if n > 50 then (5, 0, 0, 0, 0, [], []) else
              match rMsgs b n.toNat p6 e6 with
              | (l, p7, e7) => if rEnd b p7 e7 ≠ 0 then (rEnd b p7 e7, 0, 0, 0, 0, [], []) else (0, x1, x2, x3, (x4 : Int), x5, l)
theorem rMsg_at {b : List UInt8} {p : Nat} {e : Int} (hp : p ≤ b.length) : (rMsg b p e).2.1 ≤ b.length := by
  unfold rMsg
  have p1 := rNum_at (b := b) (e := e) hp
  generalize rNum b p e = x at p1 ⊢
  obtain ⟨x1, p, e⟩ := x
  have p2 := rNum_at (b := b) (e := e) p1
  simp only []
  generalize rNum b p e = x at p2 ⊢
  obtain ⟨x2, p, e⟩ := x
  have p3 := rNum_at (b := b) (e := e) p2
  simp only []
  generalize rNum b p e = x at p3 ⊢
  obtain ⟨x3, p, e⟩ := x
  have p4 := rZig_at (b := b) (e := e) p3
  simp only []
  generalize rZig b p e = x at p4 ⊢
  obtain ⟨x4, p, e⟩ := x
  exact rText_at (b := b) (e := e) (m := 20000) p4
theorem msg_read {b : List UInt8} {p : Nat} {e : Int} (hb : b.length ≤ 100000000) (hp : p ≤ b.length) {k : Nat} (hk : 10 ≤ k) :
    f98 k b (p : Int) e = some ((rMsg b p e).1.fOffset, (rMsg b p e).1.fProducer, (rMsg b p e).1.fSeq, (rMsg b p e).1.fVersion, (rMsg b p e).1.fData, (((rMsg b p e).2.1 : Nat) : Int), (rMsg b p e).2.2) := by
  unfold rMsg f98
  rw [num_read hb hp hk]
  have p1 := rNum_at (b := b) (e := e) hp
  generalize rNum b p e = x at p1 ⊢
  obtain ⟨x1, p, e⟩ := x
  have p2 := rNum_at (b := b) (e := e) p1
  simp only [Option.bind_some]
  rw [num_read hb p1 hk]
  generalize rNum b p e = x at p2 ⊢
  obtain ⟨x2, p, e⟩ := x
  have p3 := rNum_at (b := b) (e := e) p2
  simp only [Option.bind_some]
  rw [num_read hb p2 hk]
  generalize rNum b p e = x at p3 ⊢
  obtain ⟨x3, p, e⟩ := x
  have p4 := rZig_at (b := b) (e := e) p3
  simp only [Option.bind_some, f92]
  rw [zig_read hb p3 hk]
  generalize rZig b p e = x at p4 ⊢
  obtain ⟨x4, p, e⟩ := x
  simp only [Option.bind_some]
  rw [text_read hb p4 hk]
  rfl
theorem l109a {b : List UInt8} {r47 : Int × Int × Int} {n : Nat} (hn : r47.1 = (n : Int)) (hn50 : n ≤ 50) (hb : b.length ≤ 100000000) : ∀ (d i k p : Nat) (e : Int) (acc : List TMessage), i + d = n → p ≤ b.length → d + 20 < k → acc.length ≤ i →
    f63_l109 r47 b k (i : Int) acc (p : Int) e = some (.b0 (acc ++ (rMsgs b d p e).1, (((rMsgs b d p e).2.1 : Nat) : Int), (rMsgs b d p e).2.2)) ∧ (rMsgs b d p e).2.1 ≤ b.length := by
  intro d
  induction d with
  | zero =>
    intro i k p e acc hi hp hk hacc
    obtain ⟨k, rfl, _⟩ := succ_of_pos (show 0 < k by omega)
    rw [f63_l109, cdn (by omega)]
    simp only [rMsgs, List.append_nil]
    exact ⟨trivial, hp⟩
  | succ d ih =>
    intro i k p e acc hi hp hk hacc
    obtain ⟨k, rfl, _⟩ := succ_of_pos (show 0 < k by omega)
    have p1 := rMsg_at (b := b) (e := e) hp
    rw [f63_l109, cdp (by omega), msg_read hb hp (by omega), Option.bind_some, gdp (by simp; omega), i64w (by omega)]
    simp only [rMsgs]
    generalize rMsg b p e = x at p1 ⊢
    obtain ⟨m, p, e⟩ := x
    have := ih (i + 1) k p e (acc ++ [m]) (by omega) p1 (by omega) (by simp; omega)
    rw [show ((i : Int) + 1) = ((i + 1 : Nat) : Int) by omega]
    simp only [show TMessage.mk m.fOffset m.fProducer m.fSeq m.fVersion m.fData = m from rfl]
    rw [this.1]
    refine ⟨by simp, this.2⟩
theorem takeReply {b : List UInt8} (hb : b.length ≤ 100000000) {k : Nat} (hk : 100 ≤ k) : f63 k b = some (tkRp b) := by
  have hk' : 10 ≤ k := by omega
  unfold f63 tkRp
  simp only [f92, f93, new_read hb, Option.bind_some]
  rw [show f40 k b 0 0 = _ from zig_read (p := 0) (e := 0) hb (by omega) hk']
  have p1 : (rZig b 0 0).2.1 ≤ b.length := rZig_at (by omega)
  generalize rZig b 0 0 = x at p1 ⊢
  obtain ⟨x1, p, e⟩ := x
  have p2 := rZig_at (b := b) (e := e) p1
  simp only [Option.bind_some]
  rw [zig_read hb p1 hk']
  generalize rZig b p e = x at p2 ⊢
  obtain ⟨x2, p, e⟩ := x
  have p3 := rZig_at (b := b) (e := e) p2
  simp only [Option.bind_some]
  rw [zig_read hb p2 hk']
  generalize rZig b p e = x at p3 ⊢
  obtain ⟨x3, p, e⟩ := x
  have p4 := rNum_at (b := b) (e := e) p3
  simp only [Option.bind_some]
  rw [num_read hb p3 hk']
  generalize rNum b p e = x at p4 ⊢
  obtain ⟨x4, p, e⟩ := x
  have p5 := rText_at (b := b) (e := e) (m := 20000) p4
  simp only [Option.bind_some]
  rw [text_read hb p4 hk']
  generalize rText b p e 20000 = x at p5 ⊢
  obtain ⟨x5, p, e⟩ := x
  have p6 := rZig_at (b := b) (e := e) p5
  simp only [Option.bind_some]
  rw [zig_read hb p5 hk']
  generalize rZig b p e = x at p6 ⊢
  obtain ⟨n, p, e⟩ := x
  simp only [Option.bind_some, f42]
  by_cases c1 : e ≠ 0
  · rw [cdp c1, if_pos c1]
  rw [cdn c1, if_neg c1]
  by_cases c2 : n < 0
  · rw [cdp c2, if_pos c2]
  rw [cdn c2, if_neg c2]
  by_cases c3 : n > 50
  · rw [cdp c3, if_pos c3]
  rw [cdn c3, if_neg c3]
  have h := l109a (b := b) (r47 := (n, (p : Int), e)) (n := n.toNat) (by simp only []; omega) (by omega) hb n.toNat 0 k p e [] (by omega) p6 (by omega) (by simp)
  rw [show f63_l109 (n, (p : Int), e) b k 0 [] (p : Int) e = _ from h.1]
  have p7 := h.2
  generalize rMsgs b n.toNat p e = x at p7 ⊢
  obtain ⟨l, p, e⟩ := x
  simp only [Option.bind_some, f63_j135, List.nil_append]
  rw [end_read hb p7]
  simp only [Option.bind_some]
  by_cases c4 : rEnd b p e ≠ 0
  · rw [cdp c4, if_pos c4]
  · rw [cdn c4, if_neg c4]
end Go.Proofs.Abs
