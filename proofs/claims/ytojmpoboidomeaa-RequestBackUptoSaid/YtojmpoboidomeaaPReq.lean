/- Requests as bytes: how the writer grows. -/
import Derived.Test.YtojmpoboidomeaaGLrbac
import Derived.Test.YtojmpoboidomeaaPCod
set_option linter.unusedSimpArgs false
namespace Go.Proofs.Abs
open Go
set_option linter.unusedVariables false
set_option maxRecDepth 10000
/-- a number with a sign, as bytes -/
def zb (a : Int) : List UInt8 := nb (zg a)
/-- a number, as bytes -/
def ub (a : Int) : List UInt8 := nb a.toNat
theorem zb_len {a : Int} (h : -9223372036854775808 ≤ a ∧ a ≤ 9223372036854775807) : (zb a).length ≤ 10 := nb_len10 (zg_lt h)
theorem ub_len {a : Int} (h : 0 ≤ a ∧ a ≤ 18446744073709551615) : (ub a).length ≤ 10 := nb_len' h
theorem f94_loop {L : List Int} (hn : L.length ≤ 1048576) {k0 : Nat} (hk0 : 10 ≤ k0) (hw : ∀ x ∈ L, -9223372036854775808 ≤ x ∧ x ≤ 9223372036854775807) : ∀ (rest pre : List Int) (k : Nat) (acc : List UInt8), L = pre ++ rest → rest.length + 10 < k → acc.length + 10 * rest.length ≤ 100000000 →
    f94_l7 L k ((pre.length : Nat) : Int) acc = some (.b0 (acc ++ (rest.map zb).flatten)) := by
  intro rest
  induction rest with
  | nil =>
    intro pre k acc ha hk hacc
    obtain ⟨k, rfl, _⟩ := succ_of_pos (show 0 < k by omega)
    have hl : L.length = pre.length := by rw [ha]; simp
    rw [f94_l7, cdn (by omega)]
    simp
  | cons x rest ih =>
    intro pre k acc ha hk hacc
    obtain ⟨k, rfl, _⟩ := succ_of_pos (show 0 < k by omega)
    simp only [List.length_cons] at hk
    have hrd : rd L ((pre.length : Nat) : Int) = x := by rw [ha]; exact rd_mid
    have hl : L.length = pre.length + rest.length + 1 := by rw [ha]; simp; omega
    have hx := hw x (by rw [ha]; simp)
    have hi : IntKind.i64.wrap (((pre.length : Nat) : Int) + 1) = (((pre ++ [x]).length : Nat) : Int) := by
      rw [i64w (by omega)]; simp
    have hz := zb_len hx
    simp only [List.length_cons] at hacc
    rw [f94_l7, cdp (by omega), gdp (by omega), hrd, show f25 k x = some (zb x) from zig_code hx (show 10 ≤ k by omega), Option.bind_some, gdp (by omega), hi]
    have := ih (pre ++ [x]) k (acc ++ zb x) (by rw [ha]; simp) (by omega) (by simp only [List.length_append]; omega)
    rw [this]
    simp
theorem f94v2_loop {L : List Int} (hn : L.length ≤ 1048576) {k0 : Nat} (hk0 : 10 ≤ k0) (hw : ∀ x ∈ L, -9223372036854775808 ≤ x ∧ x ≤ 9223372036854775807) : ∀ (rest pre : List Int) (k : Nat) (acc : List UInt8), L = pre ++ rest → rest.length + 10 < k → acc.length + 10 * rest.length ≤ 100000000 →
    f94v2_l7 L k ((pre.length : Nat) : Int) acc = some (.b0 (acc ++ (rest.map zb).flatten)) := by
  intro rest
  induction rest with
  | nil =>
    intro pre k acc ha hk hacc
    obtain ⟨k, rfl, _⟩ := succ_of_pos (show 0 < k by omega)
    have hl : L.length = pre.length := by rw [ha]; simp
    rw [f94v2_l7, cdn (by omega)]
    simp
  | cons x rest ih =>
    intro pre k acc ha hk hacc
    obtain ⟨k, rfl, _⟩ := succ_of_pos (show 0 < k by omega)
    simp only [List.length_cons] at hk
    have hrd : rd L ((pre.length : Nat) : Int) = x := by rw [ha]; exact rd_mid
    have hl : L.length = pre.length + rest.length + 1 := by rw [ha]; simp; omega
    have hx := hw x (by rw [ha]; simp)
    have hi : IntKind.i64.wrap (((pre.length : Nat) : Int) + 1) = (((pre ++ [x]).length : Nat) : Int) := by
      rw [i64w (by omega)]; simp
    have hz := zb_len hx
    simp only [List.length_cons] at hacc
    rw [f94v2_l7, cdp (by omega), gdp (by omega), hrd, show f25 k x = some (zb x) from zig_code hx (show 10 ≤ k by omega), Option.bind_some, gdp (by omega), hi]
    have := ih (pre ++ [x]) k (acc ++ zb x) (by rw [ha]; simp) (by omega) (by simp only [List.length_append]; omega)
    rw [this]
    simp
theorem f96_loop {L : List Int} (hn : L.length ≤ 1048576) {k0 : Nat} (hk0 : 10 ≤ k0) (hw : ∀ x ∈ L, 0 ≤ x ∧ x ≤ 18446744073709551615) : ∀ (rest pre : List Int) (k : Nat) (acc : List UInt8), L = pre ++ rest → rest.length + 10 < k → acc.length + 10 * rest.length ≤ 100000000 →
    f96_l7 L k ((pre.length : Nat) : Int) acc = some (.b0 (acc ++ (rest.map ub).flatten)) := by
  intro rest
  induction rest with
  | nil =>
    intro pre k acc ha hk hacc
    obtain ⟨k, rfl, _⟩ := succ_of_pos (show 0 < k by omega)
    have hl : L.length = pre.length := by rw [ha]; simp
    rw [f96_l7, cdn (by omega)]
    simp
  | cons x rest ih =>
    intro pre k acc ha hk hacc
    obtain ⟨k, rfl, _⟩ := succ_of_pos (show 0 < k by omega)
    simp only [List.length_cons] at hk
    have hrd : rd L ((pre.length : Nat) : Int) = x := by rw [ha]; exact rd_mid
    have hl : L.length = pre.length + rest.length + 1 := by rw [ha]; simp; omega
    have hx := hw x (by rw [ha]; simp)
    have hi : IntKind.i64.wrap (((pre.length : Nat) : Int) + 1) = (((pre ++ [x]).length : Nat) : Int) := by
      rw [i64w (by omega)]; simp
    have hz := ub_len hx
    simp only [List.length_cons] at hacc
    rw [f96_l7, cdp (by omega), gdp (by omega), hrd, show f23 k x = some (ub x) from num_code' hx (show 10 ≤ k by omega), Option.bind_some, gdp (by omega), hi]
    have := ih (pre ++ [x]) k (acc ++ ub x) (by rw [ha]; simp) (by omega) (by simp only [List.length_append]; omega)
    rw [this]
    simp
theorem f95_loop {L : List (List UInt8)} (hn : L.length ≤ 1048576) {k0 : Nat} (hk0 : 10 ≤ k0) (hw : ∀ x ∈ L, True) : ∀ (rest pre : List (List UInt8)) (k : Nat) (acc : List UInt8), L = pre ++ rest → rest.length + 10 < k → acc.length + 10 * rest.length + (rest.map List.length).sum ≤ 10000000 →
    f95_l7 L k ((pre.length : Nat) : Int) acc = some (.b0 (acc ++ (rest.map tb).flatten)) := by
  intro rest
  induction rest with
  | nil =>
    intro pre k acc ha hk hacc
    obtain ⟨k, rfl, _⟩ := succ_of_pos (show 0 < k by omega)
    have hl : L.length = pre.length := by rw [ha]; simp
    rw [f95_l7, cdn (by omega)]
    simp
  | cons x rest ih =>
    intro pre k acc ha hk hacc
    obtain ⟨k, rfl, _⟩ := succ_of_pos (show 0 < k by omega)
    simp only [List.length_cons] at hk
    have hrd : rd L ((pre.length : Nat) : Int) = x := by rw [ha]; exact rd_mid
    have hl : L.length = pre.length + rest.length + 1 := by rw [ha]; simp; omega
    have hx := hw x (by rw [ha]; simp)
    have hi : IntKind.i64.wrap (((pre.length : Nat) : Int) + 1) = (((pre ++ [x]).length : Nat) : Int) := by
      rw [i64w (by omega)]; simp
    have hz := tb_len (t := x) (by simp only [List.map_cons, List.sum_cons] at hacc; omega)
    simp only [List.map_cons, List.sum_cons, List.length_cons] at hacc
    rw [f95_l7, cdp (by omega), gdp (by omega), hrd, text_code (t := x) (by omega) (show 10 ≤ k by omega), Option.bind_some, gdp (by omega), hi]
    have := ih (pre ++ [x]) k (acc ++ tb x) (by rw [ha]; simp) (by omega) (by simp only [List.length_append]; omega)
    rw [this]
    simp
theorem zigs0 {L : List Int} (hn : L.length ≤ 1048576) (hw : ∀ x ∈ L, -9223372036854775808 ≤ x ∧ x ≤ 9223372036854775807) {k : Nat} (hk : L.length + 10 < k) : f94 k L = some (L.map zb).flatten := by
  rw [f94, show f94_l7 L k 0 [] = _ from f94_loop hn (show 10 ≤ k by omega) hw L [] k [] rfl hk (by simp; omega)]
  rfl
theorem zigs {w : List UInt8} {L : List Int} (hn : L.length ≤ 1048576) (hv : w.length + 10 * L.length ≤ 100000000) (hw : ∀ x ∈ L, -9223372036854775808 ≤ x ∧ x ≤ 9223372036854775807) {k : Nat} (hk : L.length + 10 < k) : f94v2 k w L = some (w ++ (L.map zb).flatten) := by
  rw [f94v2, show f94v2_l7 L k 0 w = _ from f94v2_loop hn (show 10 ≤ k by omega) hw L [] k w rfl hk hv]
  rfl
theorem nums {w : List UInt8} {L : List Int} (hn : L.length ≤ 1048576) (hv : w.length + 10 * L.length ≤ 100000000) (hw : ∀ x ∈ L, 0 ≤ x ∧ x ≤ 18446744073709551615) {k : Nat} (hk : L.length + 10 < k) : f96 k w L = some (w ++ (L.map ub).flatten) := by
  rw [f96, show f96_l7 L k 0 w = _ from f96_loop hn (show 10 ≤ k by omega) hw L [] k w rfl hk hv]
  rfl
theorem texts {w : List UInt8} {L : List (List UInt8)} (hn : L.length ≤ 1048576) (hv : w.length + (10 * L.length + (L.map List.length).sum) ≤ 10000000) {k : Nat} (hk : L.length + 10 < k) : f95 k w L = some (w ++ (L.map tb).flatten) := by
  rw [f95, show f95_l7 L k 0 w = _ from f95_loop hn (show 10 ≤ k by omega) (fun _ _ => trivial) L [] k w rfl hk (by omega)]
  rfl
/-- a request's bytes -/
def rqB (r : TRequest) : List UInt8 := zb r.fKind ++ tb r.fName ++ tb r.fText ++ tb r.fGroup ++ zb r.fN ++ zb r.fVersion ++ ub r.fProducer ++ ub r.fSeq ++ ub r.fOffset ++ zb r.fMost ++ tb r.fData
theorem bytes_req {r : TRequest} (w : TRequest.wf r) (hd : TRequest.sz r ≤ 1048576) {k : Nat} (hk : 30 ≤ k) : f59 k r = some (rqB r) := by
  obtain ⟨w1, w2, w3, w4, w5, w6, w7, w8, w9, w10, w11, -⟩ := w
  have hs : r.fName.length + r.fText.length + r.fGroup.length + r.fData.length ≤ TRequest.sz r := by
    have h4 := len_sum (sz := fun _ : UInt8 => 1) (fun _ => Nat.le_refl _) r.fData
    simp only [TRequest.sz]; omega
  have l1 := zb_len w1
  have l2 := tb_len (t := r.fName) (by omega)
  have l3 := tb_len (t := r.fText) (by omega)
  have l4 := tb_len (t := r.fGroup) (by omega)
  have l5 := zb_len w5
  have l6 := zb_len w6
  have l7 := ub_len w7
  have l8 := ub_len w8
  have l9 := ub_len w9
  have l10 := zb_len w10
  have l11 := tb_len (t := r.fData) (by omega)
  rw [f59, zigs0 (by simp) (by simpa using w1) (by simp; omega), Option.bind_some]
  rw [texts (by simp) (by simp; omega) (by simp; omega), Option.bind_some]
  rw [zigs (by simp) (by simp; omega) (by simpa using ⟨w5, w6⟩) (by simp; omega), Option.bind_some]
  rw [nums (by simp) (by simp; omega) (by simpa using ⟨w7, w8, w9⟩) (by simp; omega), Option.bind_some]
  rw [zigs (by simp) (by simp; omega) (by simpa using w10) (by simp; omega), Option.bind_some]
  rw [texts (by simp) (by simp; omega) (by simp; omega), Option.bind_some]
  simp [rqB]
end Go.Proofs.Abs
