/- Messages as bytes: the program and the reference write and read them alike; what is written is read. -/
import Derived.Test.YtojmpoboidomeaaGBab
import Derived.Test.YtojmpoboidomeaaPHel
import Derived.Test.YtojmpoboidomeaaPCat
import Derived.Test.YtojmpoboidomeaaPRef
set_option linter.unusedSimpArgs false
namespace Go.Proofs.Abs
open Go
set_option linter.unusedVariables false
set_option maxRecDepth 10000
/-- a message's bytes -/
def mB (m : TMessage) : List UInt8 := nb m.fProducer.toNat ++ nb m.fSeq.toNat ++ nb (zg m.fVersion) ++ tb m.fData
theorem bytes_batch {m : TMessage} (w : TMessage.wf m) (hd : m.fData.length ≤ 1048576) {k : Nat} (hk : 10 ≤ k) : f54 k m = some (mB m) := by
  obtain ⟨w1, w2, w3, w4, -⟩ := w
  have h2 := nb_len' w2
  have h3 := nb_len' w3
  have h4 := nb_len10 (zg_lt w4)
  have h5 := tb_len (t := m.fData) (by omega)
  simp only [f54, num_code' w2 hk, num_code' w3 hk, zig_code w4 hk, text_code (t := m.fData) (by omega) hk, Option.bind_some]
  rw [concat91 (by simp) (by simp only [List.map_cons, List.map_nil, List.sum_cons, List.sum_nil]; omega) (by simp only [List.length_cons, List.length_nil]; omega)]
  simp [mB]
theorem bytes_ref24 {m : TMessage} (w : TMessage.wf m) (hd : m.fData.length ≤ 1048576) {k : Nat} (hk : 10 ≤ k) : f55 k m = some (mB m) := by
  obtain ⟨w1, w2, w3, w4, -⟩ := w
  have h2 := nb_len' w2
  have h3 := nb_len' w3
  have h4 := nb_len10 (zg_lt w4)
  have h5 := tb_len (t := m.fData) (by omega)
  simp only [f55, num_ref' w2 hk, num_ref' w3 hk, zig_ref w4 hk, text_ref (t := m.fData) (by omega) hk, Option.bind_some]
  rw [gdp (by omega), gdp (by simp only [List.length_append]; omega), gdp (by simp only [List.length_append]; omega)]
  rfl
/-- which message bytes are -/
def tkM (o : Int) (b : List UInt8) : Int × Int × Int × Int × Int × List UInt8 :=
  let x := rNum b 0 0
  let y := rNum b x.2.1 x.2.2
  let z := rZig b y.2.1 y.2.2
  let t := rText b z.2.1 z.2.2 4096
  if rEnd b t.2.1 t.2.2 ≠ 0 then (rEnd b t.2.1 t.2.2, 0, 0, 0, 0, []) else (0, o, (x.1 : Int), (y.1 : Int), z.1, t.1)
theorem take_batch {o : Int} {b : List UInt8} (hb : b.length ≤ 100000000) {k : Nat} (hk : 10 ≤ k) : f52 k o b = some (tkM o b) := by
  have p1 : (rNum b 0 0).2.1 ≤ b.length := rNum_at (by omega)
  have p2 : (rNum b (rNum b 0 0).2.1 (rNum b 0 0).2.2).2.1 ≤ b.length := rNum_at p1
  have p3 := rZig_at (e := (rNum b (rNum b 0 0).2.1 (rNum b 0 0).2.2).2.2) p2
  have p4 := fun e => rText_at (e := e) (m := 4096) p3
  simp only [f52, new_read hb, Option.bind_some, show f39 k b 0 0 = _ from num_read (p := 0) (e := 0) hb (by omega) hk, num_read hb p1 hk, zig_read hb p2 hk, text_read hb p3 hk, end_read hb (p4 _), cond_dec, tkM]
  split <;> rfl
theorem take_ref24 {o : Int} {b : List UInt8} (hb : b.length ≤ 100000000) {k : Nat} (hk : 10 ≤ k) : f53 k o b = some (tkM o b) := by
  have p1 : (rNum b 0 0).2.1 ≤ b.length := rNum_at (by omega)
  have p2 : (rNum b (rNum b 0 0).2.1 (rNum b 0 0).2.2).2.1 ≤ b.length := rNum_at p1
  have p3 := rZig_at (e := (rNum b (rNum b 0 0).2.1 (rNum b 0 0).2.2).2.2) p2
  have p4 := fun e => rText_at (e := e) (m := 4096) p3
  simp only [f53, new_rref hb, Option.bind_some, show f46 k b 0 0 = _ from num_rref (p := 0) (e := 0) hb (by omega) hk, num_rref hb p1 hk, zig_rref hb p2 hk, text_rref hb p3 hk, end_rref (p4 _), cond_dec, tkM]
  split <;> rfl
theorem awake24b {k : Nat} (hk : 10 ≤ k) : f33 k = some true := by
  simp only [f33, bytes_batch (m := TMessage.mk 0 1 2 3 []) (by simp [TMessage.wf]) (by simp) hk, Option.bind_some]
  kernel_rfl
theorem law_BatchBytes (a0 : TMessage) (a1 : Int) (a2 : (List UInt8)) (w0 : TMessage.wf a0) (w1 : (0 ≤ a1 ∧ a1 ≤ 18446744073709551615)) (w2 : (∀ e0 ∈ a2, True)) (hb : TMessage.sz a0 + 1 + ((a2.map (fun _ => 1)).sum + 1) ≤ 1048576) : ∃ k, f11 k a0 a1 a2 = some true := by
  have h1 := len_sum (sz := fun _ : UInt8 => 1) (fun _ => Nat.le_refl _) a2
  have h2 := len_sum (sz := fun _ : UInt8 => 1) (fun _ => Nat.le_refl _) a0.fData
  have h3 : a0.fData.length + 1 ≤ TMessage.sz a0 := by simp only [TMessage.sz]; omega
  refine ⟨a0.fData.length + a2.length + 100, ?_⟩
  generalize hk : a0.fData.length + a2.length + 100 = k
  simp only [f11, cond_dec, awake24b (show 10 ≤ k by omega), Option.bind_some]
  split
  · rfl
  split
  · rfl
  have e1 : List.take ((0 : Int).toNat + a2.length) (a2 ++ [(71 : UInt8), 71, 71]) = a2 := by simp
  have e2 : List.take ((0 : Int).toNat + a0.fData.length) (a0.fData ++ [(71 : UInt8), 71, 71]) = a0.fData := by simp
  simp only [own21 (a0 := a2) (x := 71) (by omega) (show 3 < k by omega), own21 (a0 := a0.fData) (x := 71) (by omega) (show 3 < k by omega), Option.bind_some, e1, e2,
    take_batch (o := a1) (b := a2) (by omega) (show 10 ≤ k by omega), take_ref24 (o := a1) (b := a2) (by omega) (show 10 ≤ k by omega),
    bytes_batch w0 (by omega) (show 10 ≤ k by omega), bytes_ref24 w0 (by omega) (show 10 ≤ k by omega),
    kept29 (a := a2) (x := 71) (by omega) (show a2.length + 4 < k by omega), kept29 (a := a0.fData) (x := 71) (by omega) (show a0.fData.length + 4 < k by omega), f22, f38]
  simp
theorem law_BatchBack (a0 : TMessage) (w0 : TMessage.wf a0) (hb : TMessage.sz a0 ≤ 1048576) : ∃ k, f12 k a0 = some true := by
  have h2 := len_sum (sz := fun _ : UInt8 => 1) (fun _ => Nat.le_refl _) a0.fData
  have h3 : a0.fData.length + 1 ≤ TMessage.sz a0 := by simp only [TMessage.sz]; omega
  refine ⟨100, ?_⟩
  have hB := bytes_batch (m := a0) w0 (by omega) (show 10 ≤ 100 by omega)
  simp only [f12, cond_dec, awake24b (show 10 ≤ 100 by omega), Option.bind_some]
  by_cases hd : ((a0.fData.length : Nat) : Int) > 4096
  · rw [if_pos hd]
  rw [if_neg hd]
  obtain ⟨w1, w2, w3, w4, -⟩ := w0
  have l2 := nb_len' w2
  have l3 := nb_len' w3
  have l4 := nb_len10 (zg_lt w4)
  have l5 := tb_len (t := a0.fData) (by omega)
  have hl : (mB a0).length ≤ 100000000 := by simp only [mB, List.length_append]; omega
  have e1 : rNum (mB a0) 0 0 = (a0.fProducer.toNat, (nb a0.fProducer.toNat).length, 0) := rNum_put (pre := []) (rest := nb a0.fSeq.toNat ++ nb (zg a0.fVersion) ++ tb a0.fData) (by simp [mB]) (by omega)
  have e2 := rNum_put (b := mB a0) (pre := nb a0.fProducer.toNat) (u := a0.fSeq.toNat) (rest := nb (zg a0.fVersion) ++ tb a0.fData) (by simp [mB]) (by omega)
  have e3 := rZig_put (b := mB a0) (pre := nb a0.fProducer.toNat ++ nb a0.fSeq.toNat) (a := a0.fVersion) (rest := tb a0.fData) (by simp [mB]) w4
  have e4 := rText_put (b := mB a0) (pre := nb a0.fProducer.toNat ++ nb a0.fSeq.toNat ++ nb (zg a0.fVersion)) (t := a0.fData) (rest := []) (m := 4096) (by simp [mB]) (by omega) (by omega)
  have hT : tkM a0.fOffset (mB a0) = (0, a0.fOffset, a0.fProducer, a0.fSeq, a0.fVersion, a0.fData) := by
    simp only [tkM, e1, e2, e3, e4]
    rw [show nb a0.fProducer.toNat ++ nb a0.fSeq.toNat ++ nb (zg a0.fVersion) ++ tb a0.fData = mB a0 from rfl]
    have hE : rEnd (mB a0) (mB a0).length 0 = 0 := by simp [rEnd]
    rw [hE, if_neg (by simp)]
    simp only [Int.toNat_of_nonneg w2.1, Int.toNat_of_nonneg w3.1]
  rw [hB]
  simp only [Option.bind_some, take_batch (o := a0.fOffset) (b := mB a0) hl (show 10 ≤ 100 by omega), hT, f38, f22]
  simp
end Go.Proofs.Abs
