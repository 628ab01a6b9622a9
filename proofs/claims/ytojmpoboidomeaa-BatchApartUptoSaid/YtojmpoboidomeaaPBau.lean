/- The law BatchApart over the Lean functions: only a producer's own messages count. -/
import Derived.Test.YtojmpoboidomeaaPBat
set_option linter.unusedSimpArgs false
namespace Go.Proofs.Abs
open Go
set_option linter.unusedVariables false
set_option maxRecDepth 10000
theorem l29b {a : List TMessage} {p : Int} (hn : a.length ≤ 1048576) : ∀ (rest pre : List TMessage) (k : Nat) (acc : List TMessage), a = pre ++ rest → rest.length + 40 < k → acc.length ≤ pre.length →
    f7_l29 a p k acc ((pre.length : Nat) : Int) = some (.b0 (acc ++ rest.filter fun x => decide (x.fProducer = p))) ∨ f7_l29 a p k acc ((pre.length : Nat) : Int) = some (.r true) := by
  intro rest
  induction rest with
  | nil =>
    intro pre k acc ha hk hacc
    obtain ⟨k, rfl, _⟩ := succ_of_pos (show 0 < k by omega)
    have hl : a.length = pre.length := by rw [ha]; simp
    rw [f7_l29, cond_dec, if_neg (by omega)]
    exact .inl (by simp)
  | cons x rest ih =>
    intro pre k acc ha hk hacc
    obtain ⟨k, rfl, hk'⟩ := succ_of_pos (show 0 < k by omega)
    simp only [List.length_cons] at hk
    have hrd : rd a ((pre.length : Nat) : Int) = x := by rw [ha]; exact rd_mid
    have hl : a.length = pre.length + rest.length + 1 := by rw [ha]; simp; omega
    have hw : IntKind.i64.wrap (((pre.length : Nat) : Int) + 1) = (((pre ++ [x]).length : Nat) : Int) := by
      rw [i64w (by omega)]; simp
    have hj : f7_j81 (f7_l29 a p k) k ((pre.length : Nat) : Int) a p acc = some (.b0 (acc ++ (x :: rest).filter fun x => decide (x.fProducer = p))) ∨ f7_j81 (f7_l29 a p k) k ((pre.length : Nat) : Int) a p acc = some (.r true) := by
      simp only [f7_j81, cond_dec, hrd, hw]
      rw [gd_pos (by omega)]
      by_cases c : x.fProducer = p
      · rw [if_pos c, gd_pos (by omega), gd_pos (by simp; omega), List.filter_cons_of_pos (by simpa using c)]
        have := ih (pre ++ [x]) k (acc ++ [x]) (by simp [ha]) (by omega) (by simp; omega)
        simpa using this
      · rw [if_neg c, List.filter_cons_of_neg (by simpa using c)]
        exact ih (pre ++ [x]) k acc (by simp [ha]) (by omega) (by simp; omega)
    rw [f7_l29]
    simp only [cond_dec, awake24' (show 30 ≤ k by omega), Option.bind_some, hrd]
    rw [if_pos (by omega)]
    by_cases c0 : ((pre.length : Nat) : Int) > 0
    · have e2 : IntKind.i64.wrap (((pre.length : Nat) : Int) - 1) = ((pre.length : Nat) : Int) - 1 := i64w (by omega)
      rw [if_pos c0, gd_pos (by omega), gd_pos (by rw [e2]; omega)]
      split
      · exact .inr rfl
      · rw [gd_pos (by omega)]
        split
        · exact .inr rfl
        · exact hj
    · rw [if_neg c0, gd_pos (by omega)]
      split
      · exact .inr rfl
      · exact hj
theorem look_same {a b : List TMessage} {p s : Int} (ha : a.length ≤ 1048576) (hb : b.length ≤ 1048576) (hda : ∀ x ∈ a, x.fData.length ≤ 1048576) (hdb : ∀ x ∈ b, x.fData.length ≤ 1048576) (h : lastM p a.reverse = lastM p b.reverse) {k : Nat} (hka : a.length < k) (hkb : b.length < k) : f34 k a p s = f34 k b p s := by
  simp only [f34, f34_j17, last_batch (p := p) ha hda hka, last_batch (p := p) hb hdb hkb, h]
theorem law_BatchApart (a0 : (List TMessage)) (a1 : Int) (a2 : Int) (w0 : (∀ e0 ∈ a0, TMessage.wf e0)) (w1 : (0 ≤ a1 ∧ a1 ≤ 18446744073709551615)) (w2 : (0 ≤ a2 ∧ a2 ≤ 18446744073709551615)) (hb : ((a0.map TMessage.sz).sum + 1) + 1 + 1 ≤ 1048576) : ∃ k, f7 k a0 a1 a2 = some true := by
  obtain ⟨hn, hd⟩ := data_small (a := a0) (m := 3) (by omega)
  refine ⟨a0.length + 100, ?_⟩
  have haw : f33 (a0.length + 100) = some true := awake24' (by omega)
  simp only [f7, cond_dec, haw, Option.bind_some]
  by_cases c : ((a0.length : Nat) : Int) > 100
  · rw [if_pos c]
  rw [if_neg c]
  rcases l29b (p := a1) hn a0 [] (a0.length + 100) [] rfl (by omega) (by simp) with h | h
  · have hfl := List.length_filter_le (fun x : TMessage => decide (x.fProducer = a1)) a0
    have hdf : ∀ x ∈ a0.filter (fun x => decide (x.fProducer = a1)), x.fData.length ≤ 1048576 := fun x hx => hd x (List.mem_filter.1 hx).1
    obtain ⟨r, e1, e2⟩ := look_alike (a := a0) (p := a1) (s := a2) hn hd (show a0.length < a0.length + 100 by omega)
    have e3 := look_same (a := a0) (b := a0.filter fun x => decide (x.fProducer = a1)) (p := a1) (s := a2) hn (by omega) hd hdf (by rw [← List.filter_reverse, lastM_filter]) (show a0.length < a0.length + 100 by omega) (by omega)
    rw [show f7_l29 a0 a1 (a0.length + 100) [] 0 = _ from h]
    simp only [Option.bind_some, List.nil_append, f7_j108, ← e3, e1, haw]
    simp
  · rw [show f7_l29 a0 a1 (a0.length + 100) [] 0 = _ from h]
    rfl
end Go.Proofs.Abs
