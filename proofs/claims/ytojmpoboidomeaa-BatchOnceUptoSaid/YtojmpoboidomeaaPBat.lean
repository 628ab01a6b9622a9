/- The laws of chapter 24 over the Lean functions: the last message of a producer. -/
import Derived.Test.YtojmpoboidomeaaGBatc
import Derived.Test.YtojmpoboidomeaaAbsxc
set_option linter.unusedSimpArgs false
namespace Go.Proofs.Abs
open Go
set_option linter.unusedVariables false
set_option maxRecDepth 10000

/-- the first of a list turned around -/
def lastM (p : Int) : List TMessage → Option TMessage
  | [] => none
  | x :: r => if x.fProducer = p then some x else lastM p r
def tupM : Option TMessage → Bool × Int × Int × Int × Int × List UInt8
  | none => (false, 0, 0, 0, 0, [])
  | some x => (true, x.fOffset, x.fProducer, x.fSeq, x.fVersion, x.fData)
theorem l110 {a : List TMessage} {p q : Int} (hn : a.length ≤ 1048576000) : ∀ (rp rest : List TMessage) (k : Nat), a = rp.reverse ++ rest → rp.length < k →
    (f110_l8 a p q k (((rp.length : Nat) : Int) - 1)).bind (fun o8 => match o8 with | .b0 () => some (.inr ()) | .r x => some x | _ => none) = some (Sum.inr ()) ∧ lastM p rp = none ∨
    ∃ y : Nat, y < a.length ∧ lastM p rp = some (rd a (y : Int)) ∧ (f110_l8 a p q k (((rp.length : Nat) : Int) - 1)).bind (fun o8 => match o8 with | .b0 () => some (.inr ()) | .r x => some x | _ => none) = some (Sum.inl (y : Int)) := by
  intro rp
  induction rp with
  | nil =>
    intro rest k ha hk
    obtain ⟨k, rfl, _⟩ := succ_of_pos hk
    rw [f110_l8, cond_dec, if_neg (by simp)]
    exact .inl ⟨rfl, rfl⟩
  | cons x rp ih =>
    intro rest k ha hk
    obtain ⟨k, rfl, hk'⟩ := succ_of_pos hk
    have hl : a.length = rp.length + rest.length + 1 := by rw [ha]; simp; omega
    have e0 : (((x :: rp).length : Nat) : Int) - 1 = ((rp.length : Nat) : Int) := by simp
    have e1 : rd a ((rp.length : Nat) : Int) = x := by
      have : a = rp.reverse ++ x :: rest := by rw [ha]; simp
      rw [this, show ((rp.length : Nat) : Int) = ((rp.reverse.length : Nat) : Int) by simp]; exact rd_mid
    have h1 := ih (x :: rest) k (by rw [ha]; simp) (by simp at hk'; omega)
    rw [f110_l8]
    simp only [e0, cond_dec, e1, b36_22]
    rw [if_pos (by omega), gd_pos (by omega), i64w (by omega)]
    by_cases c : x.fProducer = p
    · refine .inr ⟨rp.length, by omega, by rw [e1, lastM, if_pos c], ?_⟩
      rw [if_pos c]; rfl
    · rw [if_neg c, lastM, if_neg c]
      exact h1
theorem last_batch {a : List TMessage} {p : Int} (hn : a.length ≤ 1048576) (hd : ∀ x ∈ a, x.fData.length ≤ 1048576) {k : Nat} (hk : a.length < k) : f36 k a p = some (tupM (lastM p a.reverse)) := by
  have h := l110 (a := a) (p := p) (q := -1) (by omega) a.reverse [] k (by simp) (by simpa using hk)
  simp only [List.length_reverse] at h
  have e : IntKind.i64.wrap (((a.length : Nat) : Int) - 1) = ((a.length : Nat) : Int) - 1 := i64w (by omega)
  rcases h with ⟨h1, h2⟩ | ⟨y, hy, h2, h1⟩
  · have h3 : f110 k p (-1) a = some (Sum.inr ()) := by simp only [f110, e]; exact h1
    simp only [f36, f86, h3, Option.bind_some, f36_j48, cond_dec, h2]
    rfl
  · have h3 : f110 k p (-1) a = some (Sum.inl (y : Int)) := by simp only [f110, e]; exact h1
    have hm : rd a (y : Int) ∈ a := by
      simp only [rd, Int.toNat_natCast]
      rw [List.getD_eq_getElem?_getD, List.getElem?_eq_getElem hy]
      exact List.getElem_mem _
    have := hd _ hm
    simp only [f36, f86, h3, Option.bind_some, f36_j48, cond_dec, h2, f87]
    rw [if_neg (by omega), gd_pos (by omega), gd_pos (by omega)]
    rfl
theorem l37 {a : List TMessage} {p : Int} (hn : a.length ≤ 1048576000) : ∀ (rp rest : List TMessage) (k : Nat), a = rp.reverse ++ rest → rp.length < k →
    (f37_l14 a p k (((rp.length : Nat) : Int) - 1)).bind (fun o14 => match o14 with | .b0 () => some (tupM none) | .r x => some x | _ => none) = some (tupM (lastM p rp)) := by
  intro rp
  induction rp with
  | nil =>
    intro rest k ha hk
    obtain ⟨k, rfl, _⟩ := succ_of_pos hk
    rw [f37_l14, cond_dec, if_neg (by simp)]
    rfl
  | cons x rp ih =>
    intro rest k ha hk
    obtain ⟨k, rfl, hk'⟩ := succ_of_pos hk
    have hl : a.length = rp.length + rest.length + 1 := by rw [ha]; simp; omega
    have e0 : (((x :: rp).length : Nat) : Int) - 1 = ((rp.length : Nat) : Int) := by simp
    have e1 : rd a ((rp.length : Nat) : Int) = x := by
      have : a = rp.reverse ++ x :: rest := by rw [ha]; simp
      rw [this, show ((rp.length : Nat) : Int) = ((rp.reverse.length : Nat) : Int) by simp]; exact rd_mid
    rw [f37_l14]
    simp only [e0, cond_dec, e1]
    rw [if_pos (by omega), gd_pos (by omega), i64w (by omega)]
    by_cases c : x.fProducer = p
    · rw [if_pos c, gd_pos (by omega), lastM, if_pos c]
      rfl
    · rw [if_neg c, lastM, if_neg c]
      exact ih (x :: rest) k (by rw [ha]; simp) (by simp at hk'; omega)
theorem last_ref24 {a : List TMessage} {p : Int} (hn : a.length ≤ 1048576) {k : Nat} (hk : a.length < k) : f37 k a p = some (tupM (lastM p a.reverse)) := by
  have h := l37 (a := a) (p := p) (by omega) a.reverse [] k (by simp) (by simpa using hk)
  simp only [List.length_reverse] at h
  simp only [f37, f37_j54]
  rw [i64w (by omega)]
  exact h
theorem look_alike {a : List TMessage} {p s : Int} (hn : a.length ≤ 1048576) (hd : ∀ x ∈ a, x.fData.length ≤ 1048576) {k : Nat} (hk : a.length < k) : ∃ r, f34 k a p s = some r ∧ f35 k a p s = some r := by
  have h1 := last_batch (p := p) hn hd hk
  have h2 := last_ref24 (p := p) hn hk
  simp only [f34, f35, f34_j17, f35_j17, h1, h2, Option.bind_some, f34_j53, f35_j53]
  generalize tupM (lastM p a.reverse) = t
  generalize decide (p = 0) = x1
  generalize decide (s = 0) = x2
  generalize decide (IntKind.u64.wrap (s - 1) = t.2.2.2.1) = x3
  generalize decide (s = t.2.2.2.1) = x4
  cases x1 <;> cases x2 <;> cases t.1 <;> cases x3 <;> cases x4 <;> exact ⟨_, rfl, rfl⟩
theorem awake24 (k : Nat) : f33 (k + 30) = some true := by kernel_rfl
theorem awake24' {k : Nat} (hk : 30 ≤ k) : f33 k = some true := by
  obtain ⟨j, rfl⟩ : ∃ j, k = j + 30 := ⟨k - 30, by omega⟩
  exact awake24 j
theorem l25b {a : List TMessage} (hn : a.length ≤ 1048576) : ∀ (m i k : Nat), m + i = a.length + 1 → m + 40 < k → 1 ≤ i → f5_l25 a k (i : Int) = some (.b0 ()) ∨ f5_l25 a k (i : Int) = some (.r true) := by
  intro m
  induction m with
  | zero =>
    intro i k hm hk h1
    obtain ⟨k, rfl, _⟩ := succ_of_pos (show 0 < k by omega)
    rw [f5_l25, cond_dec, if_neg (by omega)]
    exact .inl rfl
  | succ m ih =>
    intro i k hm hk h1
    obtain ⟨k, rfl, hk'⟩ := succ_of_pos (show 0 < k by omega)
    have ih' := ih (i + 1) k (by omega) (by omega) (by omega)
    have e1 : IntKind.i64.wrap ((i : Int) + 1) = ((i + 1 : Nat) : Int) := by rw [i64w (by omega)]; omega
    have e2 : IntKind.i64.wrap ((i : Int) - 1) = ((i - 1 : Nat) : Int) := by rw [i64w (by omega)]; omega
    rw [f5_l25]
    simp only [cond_dec, e1, e2, awake24' (show 30 ≤ k by omega), Option.bind_some]
    by_cases c : (i : Int) < ((a.length : Nat) : Int)
    · rw [if_pos c, gd_pos (by omega), gd_pos (by omega)]
      split
      · exact .inr rfl
      · rw [gd_pos (by omega)]
        split
        · exact .inr rfl
        · exact ih'
    · rw [if_neg c]; exact .inl rfl
theorem data_small {a : List TMessage} {m : Nat} (h : (a.map TMessage.sz).sum + m ≤ 1048576) : a.length ≤ 1048576 ∧ ∀ x ∈ a, x.fData.length ≤ 1048576 := by
  have h1 := len_sum (sz := TMessage.sz) (fun x => by simp only [TMessage.sz]; omega) a
  have h2 : ∀ (l : List TMessage) (x : TMessage), x ∈ l → TMessage.sz x ≤ (l.map TMessage.sz).sum := by
    intro l
    induction l with
    | nil => intro x hx; simp at hx
    | cons y l ih =>
      intro x hx
      simp only [List.map_cons, List.sum_cons]
      rcases List.mem_cons.1 hx with rfl | hx
      · omega
      · have := ih x hx; omega
  refine ⟨by omega, fun x hx => ?_⟩
  have := h2 a x hx
  have h4 := len_sum (sz := fun _ : UInt8 => 1) (fun _ => Nat.le_refl _) x.fData
  have h3 : x.fData.length + 1 ≤ TMessage.sz x := by simp only [TMessage.sz]; omega
  omega
theorem law_BatchLooks (a0 : (List TMessage)) (a1 : Int) (a2 : Int) (w0 : (∀ e0 ∈ a0, TMessage.wf e0)) (w1 : (0 ≤ a1 ∧ a1 ≤ 18446744073709551615)) (w2 : (0 ≤ a2 ∧ a2 ≤ 18446744073709551615)) (hb : ((a0.map TMessage.sz).sum + 1) + 1 + 1 ≤ 1048576) : ∃ k, f5 k a0 a1 a2 = some true := by
  obtain ⟨hn, hd⟩ := data_small (a := a0) (m := 3) (by omega)
  refine ⟨a0.length + 100, ?_⟩
  have haw : f33 (a0.length + 100) = some true := awake24' (by omega)
  obtain ⟨r, e1, e2⟩ := look_alike (a := a0) (p := a1) (s := a2) hn hd (show a0.length < a0.length + 100 by omega)
  have e3 := last_batch (a := a0) (p := a1) hn hd (show a0.length < a0.length + 100 by omega)
  have e4 := last_ref24 (a := a0) (p := a1) hn (show a0.length < a0.length + 100 by omega)
  simp only [f5, cond_dec, haw, Option.bind_some]
  by_cases c : ((a0.length : Nat) : Int) > 300
  · rw [if_pos c]
  rw [if_neg c]
  rcases l25b hn a0.length 1 (a0.length + 100) (by omega) (by omega) (by omega) with h | h
  · rw [show f5_l25 a0 (a0.length + 100) 1 = _ from h]
    simp only [Option.bind_some, f5_j77, e1, e2, e3, e4, haw, f38, f22]
    simp
  · rw [show f5_l25 a0 (a0.length + 100) 1 = _ from h]
    rfl
theorem lastM_filter {p : Int} : ∀ r : List TMessage, lastM p (r.filter fun x => decide (x.fProducer = p)) = lastM p r
  | [] => rfl
  | x :: r => by
    by_cases h : x.fProducer = p
    · rw [List.filter_cons_of_pos (by simpa using h), lastM, lastM, if_pos h, if_pos h]
    · rw [List.filter_cons_of_neg (by simpa using h), lastM, if_neg h, lastM_filter r]
end Go.Proofs.Abs
