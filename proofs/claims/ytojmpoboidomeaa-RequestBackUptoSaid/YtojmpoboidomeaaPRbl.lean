/- The law RequestBack over the Lean functions. -/
import Derived.Test.YtojmpoboidomeaaGLrbac
import Derived.Test.YtojmpoboidomeaaPRbk
set_option linter.unusedSimpArgs false
namespace Go.Proofs.Abs
open Go
set_option linter.unusedVariables false
set_option maxRecDepth 10000
theorem putM {b pre rest : List UInt8} {m : TMessage} (hb : b = pre ++ (rmB m ++ rest)) (w : TMessage.wf m) (hd : m.fData.length ≤ 20000) : rMsg b pre.length 0 = (m, (pre ++ rmB m).length, 0) ∧ b = (pre ++ rmB m) ++ rest ∧ pre.length ≤ b.length := by
  obtain ⟨w1, w2, w3, w4, -⟩ := w
  refine ⟨?_, by rw [hb, List.append_assoc], by rw [hb]; simp⟩
  have q0 : b = pre ++ (ub m.fOffset ++ (ub m.fProducer ++ (ub m.fSeq ++ (zb m.fVersion ++ (tb m.fData ++ rest))))) := by rw [hb]; simp only [rmB, List.append_assoc]
  obtain ⟨e1, q1, p1, v1⟩ := putU q0 w1
  obtain ⟨e2, q2, p2, v2⟩ := putU q1 w2
  obtain ⟨e3, q3, p3, v3⟩ := putU q2 w3
  obtain ⟨e4, q4, p4⟩ := putZ q3 w4
  obtain ⟨e5, q5, p5⟩ := putT (m := 20000) q4 (by omega) (by omega)
  unfold rMsg
  rw [e1]
  simp only []
  rw [e2]
  simp only []
  rw [e3]
  simp only []
  rw [e4]
  simp only []
  rw [e5]
  simp only [v1, v2, v3, rmB, List.append_assoc]
theorem putMs {b : List UInt8} : ∀ (L : List TMessage) (pre rest : List UInt8), b = pre ++ ((L.map rmB).flatten ++ rest) → (∀ m ∈ L, TMessage.wf m ∧ m.fData.length ≤ 20000) →
    rMsgs b L.length pre.length 0 = (L, (pre ++ (L.map rmB).flatten).length, 0) ∧ b = (pre ++ (L.map rmB).flatten) ++ rest := by
  intro L
  induction L with
  | nil => intro pre rest hb hw; simpa [rMsgs] using hb
  | cons m L ih =>
    intro pre rest hb hw
    obtain ⟨w, hd⟩ := hw m (List.mem_cons_self ..)
    obtain ⟨e1, q1, p1⟩ := putM (b := b) (pre := pre) (m := m) (rest := (L.map rmB).flatten ++ rest) (by rw [hb]; simp) w hd
    obtain ⟨e2, q2⟩ := ih (pre ++ rmB m) rest q1 (fun x hx => hw x (List.mem_cons_of_mem _ hx))
    simp only [List.length_cons, rMsgs, e1]
    rw [e2]
    refine ⟨by simp, by rw [q2]; simp⟩
theorem reply_put {r : TReply} {tail : List UInt8} (w : TReply.wf r) (h1 : r.fText.length ≤ 20000) (h2 : r.fMessages.length ≤ 50) (h3 : ∀ m ∈ r.fMessages, m.fData.length ≤ 20000) :
    tkRp (rpB r ++ tail) = if tail = [] then (0, r.fErr, r.fN, r.fID, r.fOffset, r.fText, r.fMessages) else (4, 0, 0, 0, 0, [], []) := by
  obtain ⟨w1, w2, w3, w4, w5, w6, -⟩ := w
  have q0 : rpB r ++ tail = [] ++ (zb r.fErr ++ (zb r.fN ++ (zb r.fID ++ (ub r.fOffset ++ (tb r.fText ++ (zb (r.fMessages.length : Nat) ++ ((r.fMessages.map rmB).flatten ++ tail))))))) := by simp only [rpB, List.append_assoc, List.nil_append]
  generalize rpB r ++ tail = b at q0
  obtain ⟨e1, q1, p1⟩ := putZ q0 w1
  obtain ⟨e2, q2, p2⟩ := putZ q1 w2
  obtain ⟨e3, q3, p3⟩ := putZ q2 w3
  obtain ⟨e4, q4, p4, v4⟩ := putU q3 w4
  obtain ⟨e5, q5, p5⟩ := putT (m := 20000) q4 (by omega) (by omega)
  obtain ⟨e6, q6, p6⟩ := putZ q5 (by omega)
  obtain ⟨e7, q7⟩ := putMs r.fMessages _ _ q6 (fun m hm => ⟨w6 m hm, h3 m hm⟩)
  obtain ⟨e8, p8⟩ := putE q7
  unfold tkRp
  rw [show rZig b 0 0 = _ from e1]
  simp only []
  rw [e2]
  simp only []
  rw [e3]
  simp only []
  rw [e4]
  simp only []
  rw [e5]
  simp only []
  rw [e6]
  simp only []
  rw [if_neg (by simp), if_neg (by omega), if_neg (by omega), Int.toNat_natCast, e7]
  simp only []
  rw [e8, v4]
  by_cases c : tail = []
  · simp [c]
  · simp [c]
theorem backM {b : List UInt8} {p : Nat} {e : Int} (hp : p ≤ b.length) (h : (rMsg b p e).2.2 = 0) : e = 0 ∧ b.drop p = rmB (rMsg b p e).1 ++ b.drop (rMsg b p e).2.1 ∧ TMessage.wf (rMsg b p e).1 ∧ (rMsg b p e).1.fData.length ≤ 20000 := by
  unfold rMsg at h ⊢
  have p1 := rNum_at (b := b) (e := e) hp
  have b1 := backU (b := b) (p := p) (e := e)
  have i1 := rNum_in b p e
  generalize rNum b p e = x at p1 b1 i1 h ⊢
  obtain ⟨x1, q1, e1⟩ := x
  simp only [] at h ⊢
  have p2 := rNum_at (b := b) (e := e1) p1
  have b2 := backU (b := b) (p := q1) (e := e1)
  have i2 := rNum_in b q1 e1
  generalize rNum b q1 e1 = x at p2 b2 i2 h ⊢
  obtain ⟨x2, q2, e2⟩ := x
  simp only [] at h ⊢
  have p3 := rNum_at (b := b) (e := e2) p2
  have b3 := backU (b := b) (p := q2) (e := e2)
  have i3 := rNum_in b q2 e2
  generalize rNum b q2 e2 = x at p3 b3 i3 h ⊢
  obtain ⟨x3, q3, e3⟩ := x
  simp only [] at h ⊢
  have p4 := rZig_at (b := b) (e := e3) p3
  have b4 := backZ (b := b) (p := q3) (e := e3)
  have i4 := rZig_in b q3 e3
  generalize rZig b q3 e3 = x at p4 b4 i4 h ⊢
  obtain ⟨x4, q4, e4⟩ := x
  simp only [] at h ⊢
  have b5 := backT (b := b) (e := e4) (m := 20000) p4
  generalize rText b q4 e4 20000 = x at b5 h ⊢
  obtain ⟨x5, q5, e5⟩ := x
  simp only [] at b1 b2 b3 b4 b5 i1 i2 i3 i4 h ⊢
  obtain ⟨h4, d4, n4⟩ := b5 h
  obtain ⟨h3, d3⟩ := b4 h4
  obtain ⟨h2, d2⟩ := b3 h3
  obtain ⟨h1, d1⟩ := b2 h2
  obtain ⟨h0, d0⟩ := b1 h1
  rw [d1, d2, d3, d4] at d0
  refine ⟨h0, by rw [d0]; simp only [rmB, List.append_assoc], ⟨i1, i2, i3, i4, fun _ _ => trivial, trivial⟩, by omega⟩
theorem backMs {b : List UInt8} : ∀ (n p : Nat) (e : Int), p ≤ b.length → (rMsgs b n p e).2.2 = 0 → e = 0 ∧ b.drop p = ((rMsgs b n p e).1.map rmB).flatten ++ b.drop (rMsgs b n p e).2.1 ∧ (∀ m ∈ (rMsgs b n p e).1, TMessage.wf m ∧ m.fData.length ≤ 20000) ∧ (rMsgs b n p e).1.length = n := by
  intro n
  induction n with
  | zero => intro p e hp h; exact ⟨h, by simp [rMsgs], by simp [rMsgs], rfl⟩
  | succ n ih =>
    intro p e hp h
    simp only [rMsgs] at h ⊢
    have p1 := rMsg_at (b := b) (e := e) hp
    have b1 := backM (b := b) (e := e) hp
    generalize rMsg b p e = x at p1 b1 h ⊢
    obtain ⟨m, q1, e1⟩ := x
    simp only [] at h p1 b1 ⊢
    obtain ⟨h1, d1, w1, n1⟩ := ih q1 e1 p1 h
    obtain ⟨h0, d0, w0, n0⟩ := b1 h1
    refine ⟨h0, by rw [d0, d1]; simp, ?_, by simp [n1]⟩
    intro x hx
    rcases List.mem_cons.1 hx with rfl | hx
    · exact ⟨w0, n0⟩
    · exact w1 x hx
theorem rMsgs_at {b : List UInt8} : ∀ (n p : Nat) (e : Int), p ≤ b.length → (rMsgs b n p e).2.1 ≤ b.length := by
  intro n
  induction n with
  | zero => intro p e hp; exact hp
  | succ n ih =>
    intro p e hp
    have p1 := rMsg_at (b := b) (e := e) hp
    simp only [rMsgs]
    exact ih _ _ p1
theorem reply_back (b : List UInt8) : ∃ e r, tkRp b = (e, TReply.fErr r, r.fN, r.fID, r.fOffset, r.fText, r.fMessages) ∧ (e = 0 → rpB r = b ∧ TReply.wf r ∧ r.fText.length ≤ 20000 ∧ r.fMessages.length ≤ 50 ∧ ∀ m ∈ r.fMessages, m.fData.length ≤ 20000) := by
  unfold tkRp
  have p1 : (rZig b 0 0).2.1 ≤ b.length := rZig_at (by omega)
  have b1 := backZ (b := b) (p := 0) (e := 0)
  have i1 := rZig_in b 0 0
  generalize rZig b 0 0 = x at p1 b1 i1 ⊢
  obtain ⟨x1, q1, e1⟩ := x
  simp only []
  have p2 := rZig_at (b := b) (e := e1) p1
  have b2 := backZ (b := b) (p := q1) (e := e1)
  have i2 := rZig_in b q1 e1
  generalize rZig b q1 e1 = x at p2 b2 i2 ⊢
  obtain ⟨x2, q2, e2⟩ := x
  simp only []
  have p3 := rZig_at (b := b) (e := e2) p2
  have b3 := backZ (b := b) (p := q2) (e := e2)
  have i3 := rZig_in b q2 e2
  generalize rZig b q2 e2 = x at p3 b3 i3 ⊢
  obtain ⟨x3, q3, e3⟩ := x
  simp only []
  have p4 := rNum_at (b := b) (e := e3) p3
  have b4 := backU (b := b) (p := q3) (e := e3)
  have i4 := rNum_in b q3 e3
  generalize rNum b q3 e3 = x at p4 b4 i4 ⊢
  obtain ⟨x4, q4, e4⟩ := x
  simp only []
  have p5 := rText_at (b := b) (e := e4) (m := 20000) p4
  have b5 := backT (b := b) (e := e4) (m := 20000) p4
  generalize rText b q4 e4 20000 = x at p5 b5 ⊢
  obtain ⟨x5, q5, e5⟩ := x
  simp only []
  have p6 := rZig_at (b := b) (e := e5) p5
  have b6 := backZ (b := b) (p := q5) (e := e5)
  have i6 := rZig_in b q5 e5
  generalize rZig b q5 e5 = x at p6 b6 i6 ⊢
  obtain ⟨n, q6, e6⟩ := x
  simp only []
  by_cases c1 : e6 ≠ 0
  · rw [if_pos c1]; exact ⟨e6, ⟨0, 0, 0, 0, [], []⟩, rfl, fun h => absurd h c1⟩
  rw [if_neg c1]
  by_cases c2 : n < 0
  · rw [if_pos c2]; exact ⟨4, ⟨0, 0, 0, 0, [], []⟩, rfl, fun h => by simp at h⟩
  rw [if_neg c2]
  by_cases c3 : n > 50
  · rw [if_pos c3]; exact ⟨5, ⟨0, 0, 0, 0, [], []⟩, rfl, fun h => by simp at h⟩
  rw [if_neg c3]
  have p7 := rMsgs_at n.toNat q6 e6 p6
  have b7 := backMs n.toNat q6 e6 p6
  generalize rMsgs b n.toNat q6 e6 = x at p7 b7 ⊢
  obtain ⟨l, q7, e7⟩ := x
  simp only []
  have b8 := backE (b := b) (p := q7) (e := e7)
  generalize rEnd b q7 e7 = z at b8 ⊢
  by_cases c4 : z ≠ 0
  · rw [if_pos c4]; exact ⟨z, ⟨0, 0, 0, 0, [], []⟩, rfl, fun h => absurd h c4⟩
  rw [if_neg c4]
  refine ⟨0, ⟨x1, x2, x3, (x4 : Int), x5, l⟩, rfl, fun _ => ?_⟩
  simp only [] at b1 b2 b3 b4 b5 b6 b7 b8 i1 i2 i3 i4 i6
  obtain ⟨h7, d7⟩ := b8 (by simpa using c4)
  obtain ⟨h6, d6, w6, n6⟩ := b7 h7
  obtain ⟨h5, d5⟩ := b6 h6
  obtain ⟨h4, d4, n4⟩ := b5 h5
  obtain ⟨h3, d3⟩ := b4 h4
  obtain ⟨h2, d2⟩ := b3 h3
  obtain ⟨h1, d1⟩ := b2 h2
  obtain ⟨h0, d0⟩ := b1 h1
  rw [d1, d2, d3, d4, d5, d6, d7, List.drop_zero] at d0
  refine ⟨?_, ⟨i1, i2, i3, i4, trivial, fun m hm => (w6 m hm).1, trivial⟩, by simp only []; omega, by simp only []; omega, fun m hm => (w6 m hm).2⟩
  rw [d0]
  simp only [rpB, n6, show ((n.toNat : Nat) : Int) = n by omega, List.append_assoc, List.append_nil]
theorem msg_same' (k : Nat) (m : TMessage) : f38 k m m = some true := by simp [f38, f22]
theorem l26b {L : List TMessage} (hn : L.length ≤ 1048576) : ∀ (rest pre : List TMessage) (k : Nat), L = pre ++ rest → rest.length < k →
    f68_l26 L L k ((pre.length : Nat) : Int) = some (.b0 ()) := by
  intro rest
  induction rest with
  | nil =>
    intro pre k ha hk
    obtain ⟨k, rfl, _⟩ := succ_of_pos (show 0 < k by omega)
    have hl : L.length = pre.length := by rw [ha]; simp
    rw [f68_l26, cdn (by omega)]
  | cons x rest ih =>
    intro pre k ha hk
    obtain ⟨k, rfl, _⟩ := succ_of_pos (show 0 < k by omega)
    simp only [List.length_cons] at hk
    have hl : L.length = pre.length + rest.length + 1 := by rw [ha]; simp; omega
    have hi : IntKind.i64.wrap (((pre.length : Nat) : Int) + 1) = (((pre ++ [x]).length : Nat) : Int) := by
      rw [i64w (by omega)]; simp
    rw [f68_l26, cdp (by omega), gdp (by omega), gdp (by omega), msg_same', Option.bind_some, hi]
    exact ih (pre ++ [x]) k (by rw [ha]; simp) (by omega)
theorem reply_same' {r : TReply} (hn : r.fMessages.length ≤ 1048576) {k : Nat} (hk : r.fMessages.length < k) : f67 k r r = some true := by
  have : f68 k r.fMessages r.fMessages = some true := by
    rw [f68, cdn (by simp), show f68_l26 r.fMessages r.fMessages k 0 = _ from l26b hn r.fMessages [] k rfl hk]
    rfl
  simp [f67, this]
theorem reply_zero' (k : Nat) : f65 (k + 40) (TReply.mk 0 0 0 0 [] []) = some [0, 0, 0, 0, 0, 0] := by kernel_rfl
theorem awake27' {k : Nat} (hk : 50 ≤ k) : f56 k = some true := by
  rw [f56, bytes_req (r := TRequest.mk 0 [] [] [] 0 0 0 0 0 0 []) (by simp [TRequest.wf]) (by simp [TRequest.sz]) (by omega), Option.bind_some]
  rw [show rqB (TRequest.mk 0 [] [] [] 0 0 0 0 0 0 []) = [0, 0, 0, 0, 0, 0, 0, 0, 0, 0, 0] by simp [rqB, zb, ub, tb, zg, nb_lt]]
  obtain ⟨j, rfl⟩ : ∃ j, k = j + 40 := ⟨k - 40, by omega⟩
  rw [reply_zero', Option.bind_some]
  rfl
theorem l57 {r : TReply} (hn : r.fMessages.length ≤ 1048576) : ∀ (rest pre : List TMessage) (k : Nat), r.fMessages = pre ++ rest → rest.length + 100 < k →
    f17_l57 r k ((pre.length : Nat) : Int) = some (.b0 ()) ∧ (∀ m ∈ rest, m.fData.length ≤ 500) ∨ f17_l57 r k ((pre.length : Nat) : Int) = some (.r true) := by
  intro rest
  induction rest with
  | nil =>
    intro pre k ha hk
    obtain ⟨k, rfl, _⟩ := succ_of_pos (show 0 < k by omega)
    have hl : r.fMessages.length = pre.length := by rw [ha]; simp
    rw [f17_l57, cdn (by omega)]
    exact .inl ⟨rfl, by simp⟩
  | cons x rest ih =>
    intro pre k ha hk
    obtain ⟨k, rfl, _⟩ := succ_of_pos (show 0 < k by omega)
    simp only [List.length_cons] at hk
    have hrd : rd r.fMessages ((pre.length : Nat) : Int) = x := by rw [ha]; exact rd_mid
    have hl : r.fMessages.length = pre.length + rest.length + 1 := by rw [ha]; simp; omega
    have hi : IntKind.i64.wrap (((pre.length : Nat) : Int) + 1) = (((pre ++ [x]).length : Nat) : Int) := by
      rw [i64w (by omega)]; simp
    rw [f17_l57, cdp (by omega), gdp (by omega), hrd, hi]
    by_cases c : ((x.fData.length : Nat) : Int) > 500
    · rw [cdp c, awake27' (by omega)]; exact .inr rfl
    · rw [cdn c]
      rcases ih (pre ++ [x]) k (by rw [ha]; simp) (by omega) with ⟨h, h2⟩ | h
      · refine .inl ⟨h, ?_⟩
        intro m hm
        rcases List.mem_cons.1 hm with rfl | hm
        · omega
        · exact h2 m hm
      · exact .inr h
theorem law_RequestBack (a0 : TRequest) (a1 : TReply) (a2 : (List UInt8)) (a3 : UInt8) (w0 : TRequest.wf a0) (w1 : TReply.wf a1) (w2 : (∀ e0 ∈ a2, True)) (w3 : True) (hb : TRequest.sz a0 + TReply.sz a1 + ((a2.map (fun _ => 1)).sum + 1) + 1 ≤ 1048576) : ∃ k, f17 k a0 a1 a2 a3 = some true := by
  have h1 := len_sum (sz := fun _ : UInt8 => 1) (fun _ => Nat.le_refl _) a2
  have hs : a1.fText.length + a1.fMessages.length ≤ TReply.sz a1 := by
    have := len_sum (sz := TMessage.sz) (fun x => by simp only [TMessage.sz]; omega) a1.fMessages
    simp only [TReply.sz]; omega
  have hr : a0.fName.length + a0.fText.length + a0.fGroup.length + a0.fData.length ≤ TRequest.sz a0 := by
    have h4 := len_sum (sz := fun _ : UInt8 => 1) (fun _ => Nat.le_refl _) a0.fData
    simp only [TRequest.sz]; omega
  refine ⟨a1.fMessages.length + 1000, ?_⟩
  generalize hk : a1.fMessages.length + 1000 = k
  have haw := awake27' (show 50 ≤ k by omega)
  rw [f17, haw]
  simp only [Option.bind_some]
  rw [i64w (n := ((a0.fData.length : Nat) : Int) + ((a0.fName.length : Nat) : Int)) (by omega), i64w (n := ((a0.fData.length : Nat) : Int) + ((a0.fName.length : Nat) : Int) + ((a0.fText.length : Nat) : Int)) (by omega), i64w (by omega)]
  rw [cond_dec]; split
  · rfl
  rw [cond_dec]; split
  · rfl
  rw [cond_dec]; split
  · rfl
  rw [cond_dec]; split
  · rfl
  rename_i c1 c2 c3 c4
  rcases l57 (r := a1) (by omega) a1.fMessages [] k rfl (by omega) with ⟨h, hd⟩ | h
  · rw [show f17_l57 a1 k 0 = _ from h]
    simp only [Option.bind_some, f17_j97]
    rw [show TRequest.mk a0.fKind a0.fName a0.fText a0.fGroup a0.fN a0.fVersion a0.fProducer a0.fSeq a0.fOffset a0.fMost a0.fData = a0 from rfl, show TReply.mk a1.fErr a1.fN a1.fID a1.fOffset a1.fText a1.fMessages = a1 from rfl]
    have hsum : ∀ l : List TMessage, (∀ m ∈ l, m.fData.length ≤ 20000) → (l.map fun m => m.fData.length + 100).sum ≤ 20100 * l.length := by
      intro l
      induction l with
      | nil => simp
      | cons x l ih =>
        intro h
        have h1 := h x (List.mem_cons_self ..)
        have h2 := ih (fun m hm => h m (List.mem_cons_of_mem _ hm))
        simp only [List.map_cons, List.sum_cons, List.length_cons]
        omega
    have hdd : ∀ m ∈ a1.fMessages, m.fData.length ≤ 20000 := fun m hm => by have := hd m hm; omega
    have hsm := hsum a1.fMessages hdd
    have t1 := take_put (r := a0) (tail := []) w0 (by omega) (by omega) (by omega) (by omega) (by simp) (show 10 ≤ k by omega)
    have t2 := take_put (r := a0) (tail := [a3]) w0 (by omega) (by omega) (by omega) (by omega) (by simp) (show 10 ≤ k by omega)
    rw [List.append_nil, if_pos rfl] at t1
    rw [if_neg (by simp)] at t2
    have l1 : (rqB a0).length ≤ 10000000 := by
      obtain ⟨w1, w2, w3, w4, w5, w6, w7, w8, w9, w10, w11, -⟩ := w0
      have l1 := zb_len w1
      have l2 := tb_len (t := a0.fName) (by omega)
      have l3 := tb_len (t := a0.fText) (by omega)
      have l4 := tb_len (t := a0.fGroup) (by omega)
      have l5 := zb_len w5
      have l6 := zb_len w6
      have l7 := ub_len w7
      have l8 := ub_len w8
      have l9 := ub_len w9
      have l10 := zb_len w10
      have l11 := tb_len (t := a0.fData) (by omega)
      simp only [rqB, List.length_append]
      omega
    have hms : ∀ l : List TMessage, (∀ m ∈ l, TMessage.wf m ∧ m.fData.length ≤ 20000) → ((l.map rmB).flatten).length ≤ 20100 * l.length := by
      intro l
      induction l with
      | nil => simp
      | cons x l ih =>
        intro h
        have h1 := h x (List.mem_cons_self ..)
        have h2 := ih (fun m hm => h m (List.mem_cons_of_mem _ hm))
        have h3 := rmB_len h1.1 (by omega)
        simp only [List.map_cons, List.flatten_cons, List.length_append, List.length_cons]
        omega
    have hrl : ∀ r : TReply, TReply.wf r → r.fText.length ≤ 20000 → r.fMessages.length ≤ 50 → (∀ m ∈ r.fMessages, m.fData.length ≤ 20000) → (rpB r).length ≤ 2000000 := by
      intro r w ht hm hdm
      obtain ⟨w1, w2, w3, w4, w5, w6, -⟩ := w
      have l1 := zb_len w1
      have l2 := zb_len w2
      have l3 := zb_len w3
      have l4 := ub_len w4
      have l5 := tb_len (t := r.fText) (by omega)
      have l6 := zb_len (a := ((r.fMessages.length : Nat) : Int)) (by omega)
      have l7 := hms r.fMessages (fun m hm => ⟨w6 m hm, hdm m hm⟩)
      simp only [rpB, List.length_append]
      omega
    have l2 := hrl a1 w1 (by omega) (by omega) hdd
    have t3 := reply_put (r := a1) (tail := []) w1 (by omega) (by omega) hdd
    have t4 := reply_put (r := a1) (tail := [a3]) w1 (by omega) (by omega) hdd
    rw [List.append_nil, if_pos rfl] at t3
    rw [if_neg (by simp)] at t4
    rw [bytes_req w0 (by omega) (show 30 ≤ k by omega)]
    simp only [Option.bind_some]
    rw [t1]
    simp only [Option.bind_some]
    rw [gdp (by simp; omega), t2]
    simp only [Option.bind_some]
    rw [bytes_reply w1 (by omega) (by omega) (by omega) (show a1.fMessages.length + 100 < k by omega)]
    simp only [Option.bind_some]
    rw [takeReply (b := rpB a1) (by omega) (show 100 ≤ k by omega), t3]
    simp only [Option.bind_some]
    rw [gdp (by simp; omega)]
    rw [takeReply (b := rpB a1 ++ [a3]) (by simp; omega) (show 100 ≤ k by omega), t4]
    simp only [Option.bind_some, haw, Bool.not_true, cond_false]
    rw [cdn (by simp), show f61 k (TRequest.mk a0.fKind a0.fName a0.fText a0.fGroup a0.fN a0.fVersion a0.fProducer a0.fSeq a0.fOffset a0.fMost a0.fData) a0 = some true by simp [f61, f22]]
    simp only [Option.bind_some, Bool.not_true, cond_false]
    rw [cdn (by simp), cdn (by simp), show TReply.mk a1.fErr a1.fN a1.fID a1.fOffset a1.fText a1.fMessages = a1 from rfl, reply_same' (r := a1) (by omega) (show a1.fMessages.length < k by omega)]
    simp only [Option.bind_some, Bool.not_true, cond_false]
    rw [cdn (by simp)]
    obtain ⟨e, r, t5, t6⟩ := take_back (b := a2) (by omega) (show 10 ≤ k by omega)
    obtain ⟨e', r', t7, t8⟩ := reply_back a2
    rw [t5, Option.bind_some, takeReply (b := a2) (by omega) (show 100 ≤ k by omega), t7, Option.bind_some]
    simp only []
    have fin : cond (decide (e' ≠ 0)) (some true) ((f65 k (TReply.mk r'.fErr r'.fN r'.fID r'.fOffset r'.fText r'.fMessages)).bind fun r230 => (f22 k r230 a2).bind fun r232 => some (decide (r230 = a2))) = some true := by
      by_cases c : e' ≠ 0
      · rw [cdp c]
      · rw [cdn c]
        obtain ⟨u1, u2, u3, u4, u5⟩ := t8 (by simpa using c)
        have := hsum r'.fMessages u5
        rw [show TReply.mk r'.fErr r'.fN r'.fID r'.fOffset r'.fText r'.fMessages = r' from rfl, bytes_reply u2 (by omega) (by omega) (by omega) (show r'.fMessages.length + 100 < k by omega)]
        simp [f22, u1]
    by_cases c : e ≠ 0
    · rw [cdp c]
      exact fin
    · rw [cdn c]
      obtain ⟨u1, u2, u3⟩ := t6 (by simpa using c)
      rw [show TRequest.mk r.fKind r.fName r.fText r.fGroup r.fN r.fVersion r.fProducer r.fSeq r.fOffset r.fMost r.fData = r from rfl, bytes_req u2 (by omega) (show 30 ≤ k by omega)]
      simp only [Option.bind_some, f22]
      rw [cdp u1]
      exact fin
  · rw [show f17_l57 a1 k 0 = _ from h]
    rfl
end Go.Proofs.Abs
