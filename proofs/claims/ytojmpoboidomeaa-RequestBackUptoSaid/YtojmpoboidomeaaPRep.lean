/- Replies as bytes: what the writer comes to. -/
import Derived.Test.YtojmpoboidomeaaPReq
set_option linter.unusedSimpArgs false
namespace Go.Proofs.Abs
open Go
set_option linter.unusedVariables false
set_option maxRecDepth 10000
/-- a message's bytes within a reply -/
def rmB (m : TMessage) : List UInt8 := ub m.fOffset ++ ub m.fProducer ++ ub m.fSeq ++ zb m.fVersion ++ tb m.fData
/-- a reply's bytes -/
def rpB (r : TReply) : List UInt8 := zb r.fErr ++ zb r.fN ++ zb r.fID ++ ub r.fOffset ++ tb r.fText ++ zb (r.fMessages.length : Nat) ++ (r.fMessages.map rmB).flatten
theorem rmB_len {m : TMessage} (w : TMessage.wf m) (hd : m.fData.length ≤ 10000000) : (rmB m).length ≤ m.fData.length + 50 := by
  obtain ⟨w1, w2, w3, w4, -⟩ := w
  have l1 := ub_len w1
  have l2 := ub_len w2
  have l3 := ub_len w3
  have l4 := zb_len w4
  have l5 := tb_len (t := m.fData) hd
  simp only [rmB, List.length_append]
  omega
theorem round_reply {w : List UInt8} {m : TMessage} (hm : TMessage.wf m) (hd : w.length + m.fData.length + 100 ≤ 10000000) {k : Nat} (hk : 30 ≤ k) : b65_51 k w m = some (w ++ rmB m) := by
  obtain ⟨w1, w2, w3, w4, -⟩ := hm
  have l1 := ub_len w1
  have l2 := ub_len w2
  have l3 := ub_len w3
  have l4 := zb_len w4
  rw [b65_51, nums (by simp) (by simp; omega) (by simpa using ⟨w1, w2, w3⟩) (by simp; omega), Option.bind_some]
  rw [zigs (by simp) (by simp; omega) (by simpa using w4) (by simp; omega), Option.bind_some]
  rw [texts (by simp) (by simp; omega) (by simp; omega), Option.bind_some]
  simp [rmB]
theorem values_reply {L : List TMessage} (hn : L.length ≤ 1048576) (hw : ∀ x ∈ L, TMessage.wf x) : ∀ (rest pre : List TMessage) (k : Nat) (acc : List UInt8), L = pre ++ rest → rest.length + 100 < k → acc.length + (rest.map fun m => m.fData.length + 100).sum + 100 ≤ 10000000 →
    f112_l7 L k ((pre.length : Nat) : Int) acc = some (.b0 (acc ++ (rest.map rmB).flatten)) := by
  intro rest
  induction rest with
  | nil =>
    intro pre k acc ha hk hacc
    obtain ⟨k, rfl, _⟩ := succ_of_pos (show 0 < k by omega)
    have hl : L.length = pre.length := by rw [ha]; simp
    rw [f112_l7, cdn (by omega)]
    simp
  | cons x rest ih =>
    intro pre k acc ha hk hacc
    obtain ⟨k, rfl, _⟩ := succ_of_pos (show 0 < k by omega)
    simp only [List.length_cons, List.map_cons, List.sum_cons] at hk hacc
    have hrd : rd L ((pre.length : Nat) : Int) = x := by rw [ha]; exact rd_mid
    have hl : L.length = pre.length + rest.length + 1 := by rw [ha]; simp; omega
    have hx := hw x (by rw [ha]; simp)
    have hi : IntKind.i64.wrap (((pre.length : Nat) : Int) + 1) = (((pre ++ [x]).length : Nat) : Int) := by
      rw [i64w (by omega)]; simp
    have hz := rmB_len hx (by omega)
    rw [f112_l7, cdp (by omega), gdp (by omega), hrd, show TMessage.mk x.fOffset x.fProducer x.fSeq x.fVersion x.fData = x from rfl, round_reply hx (by omega) (by omega), Option.bind_some, hi]
    rw [ih (pre ++ [x]) k (acc ++ rmB x) (by rw [ha]; simp) (by omega) (by simp only [List.length_append]; omega)]
    simp
theorem bytes_reply {r : TReply} (w : TReply.wf r) (h1 : r.fText.length ≤ 1048576) (h2 : r.fMessages.length ≤ 1048576) (h3 : (r.fMessages.map fun m => m.fData.length + 100).sum ≤ 8000000) {k : Nat} (hk : r.fMessages.length + 100 < k) : f65 k r = some (rpB r) := by
  obtain ⟨w1, w2, w3, w4, w5, w6, -⟩ := w
  have l1 := zb_len w1
  have l2 := zb_len w2
  have l3 := zb_len w3
  have l4 := ub_len w4
  have l5 := tb_len (t := r.fText) (by omega)
  have w7 : -9223372036854775808 ≤ ((r.fMessages.length : Nat) : Int) ∧ ((r.fMessages.length : Nat) : Int) ≤ 9223372036854775807 := by omega
  have l6 := zb_len w7
  rw [f65, zigs0 (by simp) (by simpa using ⟨w1, w2, w3⟩) (by simp; omega), Option.bind_some]
  rw [nums (by simp) (by simp; omega) (by simpa using w4) (by simp; omega), Option.bind_some]
  rw [texts (by simp) (by simp; omega) (by simp; omega), Option.bind_some]
  rw [zigs (by simp) (by simp; omega) (by simpa using w7) (by simp; omega), Option.bind_some]
  simp only [f99, Option.bind_some, f112]
  have := values_reply h2 w6 r.fMessages [] k (zb r.fErr ++ zb r.fN ++ zb r.fID ++ ub r.fOffset ++ tb r.fText ++ zb (r.fMessages.length : Nat)) rfl (by omega) (by simp only [List.length_append]; omega)
  simp only [List.length_nil, List.map_cons, List.map_nil, List.flatten_cons, List.flatten_nil, List.append_nil, ← List.append_assoc] at this ⊢
  rw [show f112_l7 r.fMessages k 0 _ = _ from this]
  simp [rpB]
end Go.Proofs.Abs
