/- The law RequestReplies over the Lean functions. -/
import Derived.Test.YtojmpoboidomeaaPRdm
import Derived.Test.YtojmpoboidomeaaPRqb
set_option linter.unusedSimpArgs false
namespace Go.Proofs.Abs
open Go
set_option linter.unusedVariables false
set_option maxRecDepth 10000
theorem l109b {b : List UInt8} {r50 : Int × Int × Int} {n : Nat} (hn : r50.1 = (n : Int)) (hn50 : n ≤ 50) (hb : b.length ≤ 100000000) : ∀ (d i k p : Nat) (e : Int) (acc : List TMessage), i + d = n → p ≤ b.length → d + 20 < k → acc.length ≤ i →
    f64_l109 r50 b k (i : Int) (p : Int) e acc = some (.b0 ((((rMsgs b d p e).2.1 : Nat) : Int), (rMsgs b d p e).2.2, acc ++ (rMsgs b d p e).1)) ∧ (rMsgs b d p e).2.1 ≤ b.length := by
  intro d
  induction d with
  | zero =>
    intro i k p e acc hi hp hk hacc
    obtain ⟨k, rfl, _⟩ := succ_of_pos (show 0 < k by omega)
    rw [f64_l109, cdn (by omega)]
    simp only [rMsgs, List.append_nil]
    exact ⟨trivial, hp⟩
  | succ d ih =>
    intro i k p e acc hi hp hk hacc
    obtain ⟨k, rfl, _⟩ := succ_of_pos (show 0 < k by omega)
    have hk' : 10 ≤ k := by omega
    have p5 := rMsg_at (b := b) (e := e) hp
    rw [f64_l109, cdp (by omega), num_rref hb hp hk']
    simp only [rMsgs]
    unfold rMsg at p5 ⊢
    have p1 := rNum_at (b := b) (e := e) hp
    generalize rNum b p e = x at p1 p5 ⊢
    obtain ⟨x1, p, e⟩ := x
    have p2 := rNum_at (b := b) (e := e) p1
    simp only [Option.bind_some] at p5 ⊢
    rw [num_rref hb p1 hk']
    generalize rNum b p e = x at p2 p5 ⊢
    obtain ⟨x2, p, e⟩ := x
    have p3 := rNum_at (b := b) (e := e) p2
    simp only [Option.bind_some] at p5 ⊢
    rw [num_rref hb p2 hk']
    generalize rNum b p e = x at p3 p5 ⊢
    obtain ⟨x3, p, e⟩ := x
    have p4 := rZig_at (b := b) (e := e) p3
    simp only [Option.bind_some] at p5 ⊢
    rw [zig_rref hb p3 hk']
    generalize rZig b p e = x at p4 p5 ⊢
    obtain ⟨x4, p, e⟩ := x
    simp only [Option.bind_some] at p5 ⊢
    rw [text_rref hb p4 hk']
    generalize rText b p e 20000 = x at p5 ⊢
    obtain ⟨x5, p, e⟩ := x
    simp only [Option.bind_some] at p5 ⊢
    rw [gdp (by simp; omega), i64w (by omega)]
    have := ih (i + 1) k p e (acc ++ [⟨(x1 : Int), (x2 : Int), (x3 : Int), x4, x5⟩]) (by omega) p5 (by omega) (by simp; omega)
    rw [show ((i : Int) + 1) = ((i + 1 : Nat) : Int) by omega, this.1]
    refine ⟨by simp, this.2⟩
theorem takeReply_ref {b : List UInt8} (hb : b.length ≤ 100000000) {k : Nat} (hk : 100 ≤ k) : f64 k b = some (tkRp b) := by
  have hk' : 10 ≤ k := by omega
  unfold f64 tkRp
  simp only [new_rref hb, Option.bind_some]
  rw [show f47 k b 0 0 = _ from zig_rref (p := 0) (e := 0) hb (by omega) hk']
  have p1 : (rZig b 0 0).2.1 ≤ b.length := rZig_at (by omega)
  generalize rZig b 0 0 = x at p1 ⊢
  obtain ⟨x1, p, e⟩ := x
  have p2 := rZig_at (b := b) (e := e) p1
  simp only [Option.bind_some]
  rw [zig_rref hb p1 hk']
  generalize rZig b p e = x at p2 ⊢
  obtain ⟨x2, p, e⟩ := x
  have p3 := rZig_at (b := b) (e := e) p2
  simp only [Option.bind_some]
  rw [zig_rref hb p2 hk']
  generalize rZig b p e = x at p3 ⊢
  obtain ⟨x3, p, e⟩ := x
  have p4 := rNum_at (b := b) (e := e) p3
  simp only [Option.bind_some]
  rw [num_rref hb p3 hk']
  generalize rNum b p e = x at p4 ⊢
  obtain ⟨x4, p, e⟩ := x
  have p5 := rText_at (b := b) (e := e) (m := 20000) p4
  simp only [Option.bind_some]
  rw [text_rref hb p4 hk']
  generalize rText b p e 20000 = x at p5 ⊢
  obtain ⟨x5, p, e⟩ := x
  have p6 := rZig_at (b := b) (e := e) p5
  simp only [Option.bind_some]
  rw [zig_rref hb p5 hk']
  generalize rZig b p e = x at p6 ⊢
  obtain ⟨n, p, e⟩ := x
  simp only [Option.bind_some]
  by_cases c1 : e ≠ 0
  · rw [cdp c1, if_pos c1]
  rw [cdn c1, if_neg c1]
  by_cases c2 : n < 0
  · rw [cdp c2, if_pos c2]
  rw [cdn c2, if_neg c2]
  by_cases c3 : n > 50
  · rw [cdp c3, if_pos c3]
  rw [cdn c3, if_neg c3]
  have h := l109b (b := b) (r50 := (n, (p : Int), e)) (n := n.toNat) (by simp only []; omega) (by omega) hb n.toNat 0 k p e [] (by omega) p6 (by omega) (by simp)
  rw [show f64_l109 (n, (p : Int), e) b k 0 (p : Int) e [] = _ from h.1]
  have p7 := h.2
  generalize rMsgs b n.toNat p e = x at p7 ⊢
  obtain ⟨l, p, e⟩ := x
  simp only [Option.bind_some, f64_j170, List.nil_append]
  rw [end_rref p7]
  simp only [Option.bind_some]
  by_cases c4 : rEnd b p e ≠ 0
  · rw [cdp c4, if_pos c4]
  · rw [cdn c4, if_neg c4]
theorem l60 {r : TReply} (hn : r.fMessages.length ≤ 1048576) (hw : ∀ x ∈ r.fMessages, TMessage.wf x) : ∀ (rest pre : List TMessage) (k : Nat) (acc : List UInt8), r.fMessages = pre ++ rest → rest.length + 100 < k → acc.length + (rest.map fun m => m.fData.length + 100).sum + 100 ≤ 10000000 →
    f66_l60 r k acc ((pre.length : Nat) : Int) = some (.b0 (acc ++ (rest.map rmB).flatten)) := by
  intro rest
  induction rest with
  | nil =>
    intro pre k acc ha hk hacc
    obtain ⟨k, rfl, _⟩ := succ_of_pos (show 0 < k by omega)
    have hl : r.fMessages.length = pre.length := by rw [ha]; simp
    rw [f66_l60, cdn (by omega)]
    simp
  | cons x rest ih =>
    intro pre k acc ha hk hacc
    obtain ⟨k, rfl, _⟩ := succ_of_pos (show 0 < k by omega)
    simp only [List.length_cons, List.map_cons, List.sum_cons] at hk hacc
    have hk' : 10 ≤ k := by omega
    have hrd : rd r.fMessages ((pre.length : Nat) : Int) = x := by rw [ha]; exact rd_mid
    have hl : r.fMessages.length = pre.length + rest.length + 1 := by rw [ha]; simp; omega
    have hx := hw x (by rw [ha]; simp)
    have hi : IntKind.i64.wrap (((pre.length : Nat) : Int) + 1) = (((pre ++ [x]).length : Nat) : Int) := by
      rw [i64w (by omega)]; simp
    have hz := rmB_len hx (by omega)
    obtain ⟨w1, w2, w3, w4, -⟩ := hx
    have l1 := ub_len w1
    have l2 := ub_len w2
    have l3 := ub_len w3
    have l4 := zb_len w4
    have l5 := tb_len (t := x.fData) (by omega)
    rw [f66_l60, cdp (by omega), gdp (by omega), hrd, show f24 k x.fOffset = some (ub x.fOffset) from num_ref' w1 hk', Option.bind_some, gdp (by omega)]
    rw [show f24 k x.fProducer = some (ub x.fProducer) from num_ref' w2 hk', Option.bind_some, gdp (by simp only [List.length_append]; omega)]
    rw [show f24 k x.fSeq = some (ub x.fSeq) from num_ref' w3 hk', Option.bind_some, gdp (by simp only [List.length_append]; omega)]
    rw [show f26 k x.fVersion = some (zb x.fVersion) from zig_ref w4 hk', Option.bind_some, gdp (by simp only [List.length_append]; omega)]
    rw [text_ref (t := x.fData) (by omega) hk', Option.bind_some, gdp (by simp only [List.length_append]; omega), hi]
    have := ih (pre ++ [x]) k (acc ++ rmB x) (by rw [ha]; simp) (by omega) (by simp only [List.length_append]; omega)
    simp only [rmB, ← List.append_assoc] at this ⊢
    rw [this]
    simp [rmB]
theorem reply_ref {r : TReply} (w : TReply.wf r) (h1 : r.fText.length ≤ 1048576) (h2 : r.fMessages.length ≤ 1048576) (h3 : (r.fMessages.map fun m => m.fData.length + 100).sum ≤ 8000000) {k : Nat} (hk : r.fMessages.length + 100 < k) : f66 k r = some (rpB r) := by
  obtain ⟨w1, w2, w3, w4, w5, w6, -⟩ := w
  have hk' : 10 ≤ k := by omega
  have l1 := zb_len w1
  have l2 := zb_len w2
  have l3 := zb_len w3
  have l4 := ub_len w4
  have l5 := tb_len (t := r.fText) (by omega)
  have w7 : -9223372036854775808 ≤ ((r.fMessages.length : Nat) : Int) ∧ ((r.fMessages.length : Nat) : Int) ≤ 9223372036854775807 := by omega
  have l6 := zb_len w7
  rw [f66, show f26 k r.fErr = some (zb r.fErr) from zig_ref w1 hk', Option.bind_some]
  rw [show f26 k r.fN = some (zb r.fN) from zig_ref w2 hk', Option.bind_some, gdp (by omega)]
  rw [show f26 k r.fID = some (zb r.fID) from zig_ref w3 hk', Option.bind_some, gdp (by simp only [List.length_append]; omega)]
  rw [show f24 k r.fOffset = some (ub r.fOffset) from num_ref' w4 hk', Option.bind_some, gdp (by simp only [List.length_append]; omega)]
  rw [text_ref (t := r.fText) (by omega) hk', Option.bind_some, gdp (by simp only [List.length_append]; omega)]
  rw [show f26 k ((r.fMessages.length : Nat) : Int) = some (zb (r.fMessages.length : Nat)) from zig_ref w7 hk', Option.bind_some, gdp (by simp only [List.length_append]; omega)]
  rw [show f66_l60 r k _ 0 = _ from l60 h2 w6 r.fMessages [] k _ rfl (by omega) (by simp only [List.length_append]; omega)]
  simp [rpB]
theorem l14m {L : List TMessage} (hn : L.length ≤ 1048576) (hd : ∀ x ∈ L, x.fData.length ≤ 1048576) : ∀ (rest pre : List TMessage) (k : Nat), L = pre ++ rest → rest.length < k →
    f62_l14 L k pre ((pre.length : Nat) : Int) = some (.b0 L) := by
  intro rest
  induction rest with
  | nil =>
    intro pre k ha hk
    obtain ⟨k, rfl, _⟩ := succ_of_pos (show 0 < k by omega)
    have hl : L.length = pre.length := by rw [ha]; simp
    rw [f62_l14, cdn (by omega), ha]
    simp
  | cons x rest ih =>
    intro pre k ha hk
    obtain ⟨k, rfl, _⟩ := succ_of_pos (show 0 < k by omega)
    simp only [List.length_cons] at hk
    have hrd : rd L ((pre.length : Nat) : Int) = x := by rw [ha]; exact rd_mid
    have hl : L.length = pre.length + rest.length + 1 := by rw [ha]; simp; omega
    have hx := hd x (by rw [ha]; simp)
    have hi : IntKind.i64.wrap (((pre.length : Nat) : Int) + 1) = (((pre ++ [x]).length : Nat) : Int) := by
      rw [i64w (by omega)]; simp
    rw [f62_l14, cdp (by omega), gdp (by omega), hrd, f97, gdp (by omega), Option.bind_some, gdp (by simp; omega), hi]
    exact ih (pre ++ [x]) k (by rw [ha]; simp) (by omega)
theorem copy_msgs {L : List TMessage} (hn : L.length ≤ 1048576) (hd : ∀ x ∈ L, x.fData.length ≤ 1048576) {k : Nat} (hk : L.length < k) : f62 k L = some L := by
  rw [f62, show f62_l14 L k [] 0 = _ from l14m hn hd L [] k rfl hk]
  rfl
theorem msg_same (k : Nat) (m : TMessage) : f38 k m m = some true := by simp [f38, f22]
theorem l26m {L : List TMessage} (hn : L.length ≤ 1048576) : ∀ (rest pre : List TMessage) (k : Nat), L = pre ++ rest → rest.length < k →
    f68_l26 L L k ((pre.length : Nat) : Int) = some (.b0 ()) := by
  intro rest
  induction rest with
  | nil =>
    intro pre k ha hk
    obtain ⟨k, rfl, _⟩ := succ_of_pos (show 0 < k by omega)
    have hl : L.length = pre.length := by rw [ha]; simp
    rw [f68_l26, cdn (by omega)]
  | cons x rest ih =>
    intro pre k ha hk
    obtain ⟨k, rfl, _⟩ := succ_of_pos (show 0 < k by omega)
    simp only [List.length_cons] at hk
    have hl : L.length = pre.length + rest.length + 1 := by rw [ha]; simp; omega
    have hi : IntKind.i64.wrap (((pre.length : Nat) : Int) + 1) = (((pre ++ [x]).length : Nat) : Int) := by
      rw [i64w (by omega)]; simp
    rw [f68_l26, cdp (by omega), gdp (by omega), gdp (by omega), msg_same, Option.bind_some, hi]
    exact ih (pre ++ [x]) k (by rw [ha]; simp) (by omega)
theorem msgs_same {L : List TMessage} (hn : L.length ≤ 1048576) {k : Nat} (hk : L.length < k) : f68 k L L = some true := by
  rw [f68, cdn (by simp), show f68_l26 L L k 0 = _ from l26m hn L [] k rfl hk]
  rfl
theorem reply_same {r : TReply} (hn : r.fMessages.length ≤ 1048576) {k : Nat} (hk : r.fMessages.length < k) : f67 k r r = some true := by
  simp [f67, msgs_same hn hk]
theorem l18r {r : TReply} (hn : r.fMessages.length ≤ 1048576) (hd : ∀ x ∈ r.fMessages, x.fData.length ≤ 1048576) : ∀ (rest pre : List TMessage) (k s : Nat), r.fMessages = pre ++ rest → rest.length < k → s ≤ 1048576 * (pre.length + 1) →
    ∃ t : Int, f14_l18 r k (s : Int) ((pre.length : Nat) : Int) = some (.b0 t) := by
  intro rest
  induction rest with
  | nil =>
    intro pre k s ha hk hs
    obtain ⟨k, rfl, _⟩ := succ_of_pos (show 0 < k by omega)
    have hl : r.fMessages.length = pre.length := by rw [ha]; simp
    rw [f14_l18, cdn (by omega)]
    exact ⟨_, rfl⟩
  | cons x rest ih =>
    intro pre k s ha hk hs
    obtain ⟨k, rfl, _⟩ := succ_of_pos (show 0 < k by omega)
    simp only [List.length_cons] at hk
    have hrd : rd r.fMessages ((pre.length : Nat) : Int) = x := by rw [ha]; exact rd_mid
    have hl : r.fMessages.length = pre.length + rest.length + 1 := by rw [ha]; simp; omega
    have hx := hd x (by rw [ha]; simp)
    have hi : IntKind.i64.wrap (((pre.length : Nat) : Int) + 1) = (((pre ++ [x]).length : Nat) : Int) := by
      rw [i64w (by omega)]; simp
    rw [f14_l18, cdp (by omega)]
    by_cases c : ((pre.length : Nat) : Int) < 100
    · rw [cdp c, gdp (by omega), hrd, hi, i64w (by omega)]
      have := ih (pre ++ [x]) k (s + x.fData.length) (by rw [ha]; simp) (by omega) (by simp; omega)
      rw [show (s : Int) + ((x.fData.length : Nat) : Int) = ((s + x.fData.length : Nat) : Int) by omega]
      exact this
    · rw [cdn c]; exact ⟨_, rfl⟩
theorem law_RequestReplies (a0 : TReply) (a1 : (List UInt8)) (w0 : TReply.wf a0) (w1 : (∀ e0 ∈ a1, True)) (hb : TReply.sz a0 + ((a1.map (fun _ => 1)).sum + 1) ≤ 1048576) : ∃ k, f14 k a0 a1 = some true := by
  have h1 := len_sum (sz := fun _ : UInt8 => 1) (fun _ => Nat.le_refl _) a1
  have hs : a0.fText.length + (a0.fMessages.map TMessage.sz).sum ≤ TReply.sz a0 := by simp only [TReply.sz]; omega
  have hm : ∀ (l : List TMessage), (l.map fun m => m.fData.length + 100).sum ≤ 101 * (l.map TMessage.sz).sum ∧ l.length ≤ (l.map TMessage.sz).sum ∧ (∀ x ∈ l, x.fData.length ≤ (l.map TMessage.sz).sum) ∧ (l.length ≤ 99 → (l.map fun m => m.fData.length + 100).sum ≤ 9900 + (l.map TMessage.sz).sum - l.length ∨ True) ∧ (l.map fun m => m.fData.length + 100).sum ≤ 100 * l.length + (l.map TMessage.sz).sum := by
    intro l
    induction l with
    | nil => simp
    | cons x l ih =>
      have h4 := len_sum (sz := fun _ : UInt8 => 1) (fun _ => Nat.le_refl _) x.fData
      have h3 : x.fData.length + 1 ≤ TMessage.sz x := by simp only [TMessage.sz]; omega
      simp only [List.map_cons, List.sum_cons, List.length_cons, List.mem_cons]
      obtain ⟨i1, i2, i3, i4, i5⟩ := ih
      refine ⟨by omega, by omega, ?_, fun _ => .inr trivial, by omega⟩
      rintro y (rfl | hy)
      · omega
      · have := i3 y hy; omega
  obtain ⟨-, hm2, hm3, -, hm5⟩ := hm a0.fMessages
  have hn : a0.fMessages.length ≤ 1048576 := by omega
  have hd : ∀ x ∈ a0.fMessages, x.fData.length ≤ 1048576 := fun x hx => by have := hm3 x hx; omega
  refine ⟨a0.fMessages.length + a1.length + 400, ?_⟩
  generalize hk : a0.fMessages.length + a1.length + 400 = k
  obtain ⟨t, ht⟩ := l18r hn hd a0.fMessages [] k a0.fText.length rfl (by omega) (by simp; omega)
  rw [f14, show f14_l18 a0 k ((a0.fText.length : Nat) : Int) 0 = _ from ht]
  simp only [Option.bind_some, f14_j55, cond_dec, awake27 (show 50 ≤ k by omega)]
  split
  · rfl
  split
  · rfl
  split
  · rfl
  have e1 : List.take ((0 : Int).toNat + a1.length) (a1 ++ [(71 : UInt8), 71, 71]) = a1 := by simp
  rename_i c1 c2 c3
  have hr : TReply.mk a0.fErr a0.fN a0.fID a0.fOffset a0.fText a0.fMessages = a0 := rfl
  have hx : ∀ x : Int × Int × Int × Int × Int × List UInt8 × List TMessage, x = tkRp a1 → x.2.2.2.2.2.2.length ≤ 50 := by
    rintro x rfl
    unfold tkRp
    repeat' split
    all_goals first | (simp; done) | skip
    have : ∀ (n p : Nat) (e : Int), (rMsgs a1 n p e).1.length = n := by
      intro n
      induction n with
      | zero => intro p e; rfl
      | succ n ih => intro p e; simp only [rMsgs, List.length_cons, ih]
    rename_i h _
    have h2 := congrArg (fun x => x.1.length) h
    simp only [this] at h2
    simp only []
    omega
  have hx := hx _ rfl
  simp only [own21 (a0 := a1) (x := 71) (by omega) (show 3 < k by omega), Option.bind_some, e1, copy_msgs hn hd (show a0.fMessages.length < k by omega),
    takeReply (b := a1) (by omega) (show 100 ≤ k by omega), takeReply_ref (b := a1) (by omega) (show 100 ≤ k by omega), hr,
    bytes_reply w0 (by omega) hn (by omega) (show a0.fMessages.length + 100 < k by omega), reply_ref w0 (by omega) hn (by omega) (show a0.fMessages.length + 100 < k by omega),
    kept29 (a := a1) (x := 71) (by omega) (show a1.length + 4 < k by omega), f22, msgs_same hn (show a0.fMessages.length < k by omega)]
  rw [reply_same (by simp only []; omega) (by simp only []; omega)]
  simp
end Go.Proofs.Abs
