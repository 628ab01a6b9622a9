/- The law RequestBytes over the Lean functions. -/
import Derived.Test.YtojmpoboidomeaaPReq
import Derived.Test.YtojmpoboidomeaaPRef
import Derived.Test.YtojmpoboidomeaaPHel
set_option linter.unusedSimpArgs false
namespace Go.Proofs.Abs
open Go
set_option linter.unusedVariables false
set_option maxRecDepth 10000
theorem bytes_ref27 {r : TRequest} (w : TRequest.wf r) (hd : TRequest.sz r ≤ 1048576) {k : Nat} (hk : 30 ≤ k) : f60 k r = some (rqB r) := by
  obtain ⟨w1, w2, w3, w4, w5, w6, w7, w8, w9, w10, w11, -⟩ := w
  have hs : r.fName.length + r.fText.length + r.fGroup.length + r.fData.length ≤ TRequest.sz r := by
    have h4 := len_sum (sz := fun _ : UInt8 => 1) (fun _ => Nat.le_refl _) r.fData
    simp only [TRequest.sz]; omega
  have l1 := zb_len w1
  have l2 := tb_len (t := r.fName) (by omega)
  have l3 := tb_len (t := r.fText) (by omega)
  have l4 := tb_len (t := r.fGroup) (by omega)
  have l5 := zb_len w5
  have l6 := zb_len w6
  have l7 := ub_len w7
  have l8 := ub_len w8
  have l9 := ub_len w9
  have l10 := zb_len w10
  have l11 := tb_len (t := r.fData) (by omega)
  have hk' : 10 ≤ k := by omega
  rw [f60, show f26 k r.fKind = some (zb r.fKind) from zig_ref w1 hk', Option.bind_some, text_ref (t := r.fName) (by omega) hk', Option.bind_some, gdp (by omega)]
  rw [text_ref (t := r.fText) (by omega) hk', Option.bind_some, gdp (by simp only [List.length_append]; omega)]
  rw [text_ref (t := r.fGroup) (by omega) hk', Option.bind_some, gdp (by simp only [List.length_append]; omega)]
  rw [show f26 k r.fN = some (zb r.fN) from zig_ref w5 hk', Option.bind_some, gdp (by simp only [List.length_append]; omega)]
  rw [show f26 k r.fVersion = some (zb r.fVersion) from zig_ref w6 hk', Option.bind_some, gdp (by simp only [List.length_append]; omega)]
  rw [show f24 k r.fProducer = some (ub r.fProducer) from num_ref' w7 hk', Option.bind_some, gdp (by simp only [List.length_append]; omega)]
  rw [show f24 k r.fSeq = some (ub r.fSeq) from num_ref' w8 hk', Option.bind_some, gdp (by simp only [List.length_append]; omega)]
  rw [show f24 k r.fOffset = some (ub r.fOffset) from num_ref' w9 hk', Option.bind_some, gdp (by simp only [List.length_append]; omega)]
  rw [show f26 k r.fMost = some (zb r.fMost) from zig_ref w10 hk', Option.bind_some, gdp (by simp only [List.length_append]; omega)]
  rw [text_ref (t := r.fData) (by omega) hk', Option.bind_some, gdp (by simp only [List.length_append]; omega)]
  rfl
theorem take_alike {b : List UInt8} (hb : b.length ≤ 100000000) {k : Nat} (hk : 10 ≤ k) : ∃ r, f57 k b = some r ∧ f58 k b = some r := by
  simp only [f57, f58, f92, f93, new_read hb, new_rref hb, Option.bind_some]
  rw [show f40 k b 0 0 = _ from zig_read (p := 0) (e := 0) hb (by omega) hk, show f47 k b 0 0 = _ from zig_rref (p := 0) (e := 0) hb (by omega) hk]
  simp only [Option.bind_some]
  have p1 : (rZig b 0 0).2.1 ≤ b.length := rZig_at (by omega)
  generalize rZig b 0 0 = x at p1 ⊢
  obtain ⟨x1, p, e⟩ := x
  rw [text_read hb p1 hk, text_rref hb p1 hk]
  simp only [Option.bind_some]
  have p2 := rText_at (b := b) (e := e) (m := 20000) p1
  generalize rText b p e 20000 = x at p2 ⊢
  obtain ⟨x2, p, e⟩ := x
  rw [text_read hb p2 hk, text_rref hb p2 hk]
  simp only [Option.bind_some]
  have p3 := rText_at (b := b) (e := e) (m := 20000) p2
  generalize rText b p e 20000 = x at p3 ⊢
  obtain ⟨x3, p, e⟩ := x
  rw [text_read hb p3 hk, text_rref hb p3 hk]
  simp only [Option.bind_some]
  have p4 := rText_at (b := b) (e := e) (m := 20000) p3
  generalize rText b p e 20000 = x at p4 ⊢
  obtain ⟨x4, p, e⟩ := x
  rw [zig_read hb p4 hk, zig_rref hb p4 hk]
  simp only [Option.bind_some]
  have p5 := rZig_at (b := b) (e := e) p4
  generalize rZig b p e = x at p5 ⊢
  obtain ⟨x5, p, e⟩ := x
  rw [zig_read hb p5 hk, zig_rref hb p5 hk]
  simp only [Option.bind_some]
  have p6 := rZig_at (b := b) (e := e) p5
  generalize rZig b p e = x at p6 ⊢
  obtain ⟨x6, p, e⟩ := x
  rw [num_read hb p6 hk, num_rref hb p6 hk]
  simp only [Option.bind_some]
  have p7 := rNum_at (b := b) (e := e) p6
  generalize rNum b p e = x at p7 ⊢
  obtain ⟨x7, p, e⟩ := x
  rw [num_read hb p7 hk, num_rref hb p7 hk]
  simp only [Option.bind_some]
  have p8 := rNum_at (b := b) (e := e) p7
  generalize rNum b p e = x at p8 ⊢
  obtain ⟨x8, p, e⟩ := x
  rw [num_read hb p8 hk, num_rref hb p8 hk]
  simp only [Option.bind_some]
  have p9 := rNum_at (b := b) (e := e) p8
  generalize rNum b p e = x at p9 ⊢
  obtain ⟨x9, p, e⟩ := x
  rw [zig_read hb p9 hk, zig_rref hb p9 hk]
  simp only [Option.bind_some]
  have p10 := rZig_at (b := b) (e := e) p9
  generalize rZig b p e = x at p10 ⊢
  obtain ⟨x10, p, e⟩ := x
  rw [text_read hb p10 hk, text_rref hb p10 hk]
  simp only [Option.bind_some]
  have p11 := rText_at (b := b) (e := e) (m := 20000) p10
  generalize rText b p e 20000 = x at p11 ⊢
  obtain ⟨x11, p, e⟩ := x
  rw [end_read hb p11, end_rref p11]
  simp only [Option.bind_some]
  generalize rEnd b p e = z
  simp only [cond_dec]
  split <;> exact ⟨_, rfl, rfl⟩
theorem reply_zero (k : Nat) : f65 (k + 40) (TReply.mk 0 0 0 0 [] []) = some [0, 0, 0, 0, 0, 0] := by kernel_rfl
theorem awake27 {k : Nat} (hk : 50 ≤ k) : f56 k = some true := by
  rw [f56, bytes_req (r := TRequest.mk 0 [] [] [] 0 0 0 0 0 0 []) (by simp [TRequest.wf]) (by simp [TRequest.sz]) (by omega), Option.bind_some]
  rw [show rqB (TRequest.mk 0 [] [] [] 0 0 0 0 0 0 []) = [0, 0, 0, 0, 0, 0, 0, 0, 0, 0, 0] by simp [rqB, zb, ub, tb, zg, nb_lt]]
  obtain ⟨j, rfl⟩ : ∃ j, k = j + 40 := ⟨k - 40, by omega⟩
  rw [reply_zero, Option.bind_some]
  rfl
theorem law_RequestBytes (a0 : TRequest) (a1 : (List UInt8)) (w0 : TRequest.wf a0) (w1 : (∀ e0 ∈ a1, True)) (hb : TRequest.sz a0 + ((a1.map (fun _ => 1)).sum + 1) ≤ 1048576) : ∃ k, f13 k a0 a1 = some true := by
  have h1 := len_sum (sz := fun _ : UInt8 => 1) (fun _ => Nat.le_refl _) a1
  have h4 := len_sum (sz := fun _ : UInt8 => 1) (fun _ => Nat.le_refl _) a0.fData
  have hs : a0.fData.length ≤ TRequest.sz a0 := by simp only [TRequest.sz]; omega
  refine ⟨a0.fData.length + a1.length + 100, ?_⟩
  generalize hk : a0.fData.length + a1.length + 100 = k
  simp only [f13, cond_dec, awake27 (show 50 ≤ k by omega), Option.bind_some]
  split
  · rfl
  split
  · rfl
  have e1 : List.take ((0 : Int).toNat + a1.length) (a1 ++ [(71 : UInt8), 71, 71]) = a1 := by simp
  have e2 : List.take ((0 : Int).toNat + a0.fData.length) (a0.fData ++ [(71 : UInt8), 71, 71]) = a0.fData := by simp
  obtain ⟨r, r1, r2⟩ := take_alike (b := a1) (by omega) (show 10 ≤ k by omega)
  simp only [own21 (a0 := a1) (x := 71) (by omega) (show 3 < k by omega), own21 (a0 := a0.fData) (x := 71) (by omega) (show 3 < k by omega), Option.bind_some, e1, e2, r1, r2,
    bytes_req w0 (by omega) (show 30 ≤ k by omega), bytes_ref27 w0 (by omega) (show 30 ≤ k by omega),
    kept29 (a := a1) (x := 71) (by omega) (show a1.length + 4 < k by omega), kept29 (a := a0.fData) (x := 71) (by omega) (show a0.fData.length + 4 < k by omega), f22, f61]
  simp
end Go.Proofs.Abs
