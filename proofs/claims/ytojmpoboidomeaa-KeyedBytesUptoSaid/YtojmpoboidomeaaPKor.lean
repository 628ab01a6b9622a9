/- The law KeyedOrder over the Lean functions. -/
import Derived.Test.YtojmpoboidomeaaPKey
set_option linter.unusedSimpArgs false
namespace Go.Proofs.Abs
open Go
set_option linter.unusedVariables false
set_option maxRecDepth 100000
theorem sz_mem : ∀ (l : List TPair), ∀ p ∈ l, TPair.sz p ≤ (l.map TPair.sz).sum
  | [], p, h => by cases h
  | x :: l, p, h => by
    simp only [List.map_cons, List.sum_cons]
    rcases List.mem_cons.1 h with e | e
    · subst e; omega
    · have := sz_mem l p e; omega
theorem few_some {l : List TPair} {B : Nat} (hB : B * B ≤ 1099511627776) (hs : ∀ p ∈ l, p.fKey.length + p.fValue.length ≤ B) (hn : l.length ≤ B) {k : Nat} (hk : l.length < k) : ∃ b, f70 k l = some b := by
  have loop : ∀ (d i s k : Nat), i + d = l.length → d < k → s ≤ i * B → ∃ m, f70_l14 l k (s : Int) (i : Int) = some (.b0 m) := by
    intro d
    induction d with
    | zero =>
      intro i s k hi hk hs
      obtain ⟨k, rfl, _⟩ := succ_of_pos (show 0 < k by omega)
      rw [f70_l14, cdn (by omega)]
      exact ⟨_, rfl⟩
    | succ d ih =>
      intro i s k hi hk hb
      obtain ⟨k, rfl, _⟩ := succ_of_pos (show 0 < k by omega)
      have hm : rd l (i : Int) ∈ l := by
        simp only [rd, Int.toNat_natCast]
        rw [List.getD_eq_getElem?_getD, List.getElem?_eq_getElem (show i < l.length by omega)]
        exact List.getElem_mem _
      have h1 := hs _ hm
      have h2 : (i + 1) * B ≤ B * B := Nat.mul_le_mul_right _ (by omega)
      have h3 : i ≤ 1099511627776 := by
        have : B ≤ B * B ∨ B = 0 := by rcases Nat.eq_zero_or_pos B with h | h; exact .inr h; exact .inl (Nat.le_mul_of_pos_left _ h)
        omega
      rw [Nat.add_mul, Nat.one_mul] at h2
      rw [f70_l14, cdp (by omega)]
      by_cases c : (i : Int) < 200
      · rw [cdp c, gdp (by omega), gdp (by omega)]
        rw [i64w (n := (s : Int) + _) (by omega), i64w (by omega), i64w (n := (i : Int) + 1) (by omega)]
        rw [show (s : Int) + (((rd l (i : Int)).fKey.length : Nat) : Int) + (((rd l (i : Int)).fValue.length : Nat) : Int) = ((s + (rd l (i : Int)).fKey.length + (rd l (i : Int)).fValue.length : Nat) : Int) by omega, show ((i : Int) + 1) = ((i + 1 : Nat) : Int) by omega]
        exact ih (i + 1) _ k (by omega) (by omega) (by rw [Nat.add_mul, Nat.one_mul]; omega)
      · rw [cdn c]; exact ⟨_, rfl⟩
  obtain ⟨m, h⟩ := loop l.length 0 0 k (by omega) hk (by omega)
  have h' : f70_l14 l k (0 : Int) (0 : Int) = some (.b0 m) := h
  rw [f70, h']
  show ∃ b, f70_j56 k l m = some b
  delta f70_j56
  cases decide (((l.length : Nat) : Int) < 200)
  · exact ⟨_, rfl⟩
  · exact ⟨_, rfl⟩
theorem rd_in {α : Type} [Inhabited α] {l : List α} {i : Nat} (h : i < l.length) : rd l (i : Int) ∈ l := by
  simp only [rd, Int.toNat_natCast]
  rw [List.getD_eq_getElem?_getD, List.getElem?_eq_getElem h]
  exact List.getElem_mem _
theorem same_loop {a : List TPair} (hn : a.length ≤ 1048576000) : ∀ (d i k : Nat), i + d = a.length → d < k → f105_l26 a a k (i : Int) = some (.b0 ()) := by
  intro d
  induction d with
  | zero =>
    intro i k hi hk
    obtain ⟨k, rfl, _⟩ := succ_of_pos (show 0 < k by omega)
    rw [f105_l26, cdn (by omega)]
  | succ d ih =>
    intro i k hi hk
    obtain ⟨k, rfl, _⟩ := succ_of_pos (show 0 < k by omega)
    have e : f106 k (rd a (i : Int)) (rd a (i : Int)) = some true := by
      rw [f106, cdp rfl, f22]
      simp
    rw [f105_l26, cdp (by omega), gdp (by omega), gdp (by omega), e]
    simp only [Option.bind_some, Bool.not_true, cond_false]
    rw [i64w (by omega), show ((i : Int) + 1) = ((i + 1 : Nat) : Int) by omega]
    exact ih (i + 1) k (by omega) (by omega)
theorem same22 {a : List TPair} (hn : a.length ≤ 1048576000) {k : Nat} (hk : a.length < k) : f76 k a a = some true := by
  rw [f76, f105, cdn (by simp), show f105_l26 a a k (0 : Int) = _ from same_loop hn a.length 0 k (by omega) hk]
  rfl
theorem keys_inj {l : List TPair} (h : (l.map (·.fKey)).Nodup) : ∀ p ∈ l, ∀ q ∈ l, p.fKey = q.fKey → p = q := by
  induction l with
  | nil => intro p hp; cases hp
  | cons x l ih =>
    rw [List.map_cons, List.nodup_cons] at h
    intro p hp q hq e
    rcases List.mem_cons.1 hp with e1 | e1 <;> rcases List.mem_cons.1 hq with e2 | e2
    · rw [e1, e2]
    · subst e1; exact absurd (List.mem_map.2 ⟨q, e2, e.symm⟩) h.1
    · subst e2; exact absurd (List.mem_map.2 ⟨p, e1, e⟩) h.1
    · exact ih h.2 p e1 q e2 e
theorem put_len {p : TPair} (hg : p.fGone = false) : ∀ {l : List TPair}, (∀ q ∈ l, q.fKey ≠ p.fKey) → (putOne p l).length = l.length + 1
  | [], _ => by simp [putOne, hg]
  | x :: l, h => by
    simp only [putOne]
    split
    · simp [put_len hg fun q hq => h q (List.mem_cons_of_mem _ hq)]
    · rw [if_neg (h x List.mem_cons_self)]; simp [hg]
theorem putAll_len {U : List TPair} (hk : ∀ p ∈ U, ∀ q ∈ U, p.fKey = q.fKey → p = q) (hg : ∀ p ∈ U, p.fGone = false) : ∀ (m acc : List TPair), (∀ p ∈ m, p ∈ U) → (∀ p ∈ acc, p ∈ U) → srt acc → m.Nodup → (∀ p ∈ m, p ∉ acc) → (putAll acc m).length = acc.length + m.length
  | [], acc, _, _, _, _, _ => rfl
  | p :: m, acc, hm, ha, hs, hd, hn => by
    have hp := hm p List.mem_cons_self
    obtain ⟨h1, h2⟩ := put_mem (hg p hp) hs
    rw [List.nodup_cons] at hd
    have hno : ∀ q ∈ acc, q.fKey ≠ p.fKey := fun q hq e => hn p List.mem_cons_self (hk q (ha q hq) p hp e ▸ hq)
    have := putAll_len hk hg m (putOne p acc) (fun q hq => hm q (List.mem_cons_of_mem _ hq)) (fun q hq => ((h2 q).1 hq).elim (fun e => e ▸ hp) (fun e => ha q e.1)) h1 hd.2 (fun q hq hq' => by
      rcases (h2 q).1 hq' with e | e
      · subst e; exact hd.1 hq
      · exact hn q (List.mem_cons_of_mem _ hq) e.1)
    rw [show putAll acc (p :: m) = putAll (putOne p acc) m from rfl, this, put_len (hg p hp) hno, List.length_cons]; omega
end Go.Proofs.Abs
