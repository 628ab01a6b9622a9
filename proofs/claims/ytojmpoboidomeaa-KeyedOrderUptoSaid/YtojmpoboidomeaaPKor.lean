/- The law KeyedOrder over the Lean functions. -/
import Derived.Test.YtojmpoboidomeaaPKey
set_option linter.unusedSimpArgs false
namespace Go.Proofs.Abs
open Go
set_option linter.unusedVariables false
set_option maxRecDepth 100000
theorem sz_mem : ∀ (l : List TPair), ∀ p ∈ l, TPair.sz p ≤ (l.map TPair.sz).sum
  | [], p, h => by cases h
  | x :: l, p, h => by
    simp only [List.map_cons, List.sum_cons]
    rcases List.mem_cons.1 h with e | e
    · subst e; omega
    · have := sz_mem l p e; omega
theorem few_some {l : List TPair} {B : Nat} (hB : B * B ≤ 1099511627776) (hs : ∀ p ∈ l, p.fKey.length + p.fValue.length ≤ B) (hn : l.length ≤ B) {k : Nat} (hk : l.length < k) : ∃ b, f70 k l = some b := by
  have loop : ∀ (d i s k : Nat), i + d = l.length → d < k → s ≤ i * B → ∃ m, f70_l14 l k (s : Int) (i : Int) = some (.b0 m) := by
    intro d
    induction d with
    | zero =>
      intro i s k hi hk hs
      obtain ⟨k, rfl, _⟩ := succ_of_pos (show 0 < k by omega)
      rw [f70_l14, cdn (by omega)]
      exact ⟨_, rfl⟩
    | succ d ih =>
      intro i s k hi hk hb
      obtain ⟨k, rfl, _⟩ := succ_of_pos (show 0 < k by omega)
      have hm : rd l (i : Int) ∈ l := by
        simp only [rd, Int.toNat_natCast]
        rw [List.getD_eq_getElem?_getD, List.getElem?_eq_getElem (show i < l.length by omega)]
        exact List.getElem_mem _
      have h1 := hs _ hm
      have h2 : (i + 1) * B ≤ B * B := Nat.mul_le_mul_right _ (by omega)
      have h3 : i ≤ 1099511627776 := by
        have : B ≤ B * B ∨ B = 0 := by rcases Nat.eq_zero_or_pos B with h | h; exact .inr h; exact .inl (Nat.le_mul_of_pos_left _ h)
        omega
      rw [Nat.add_mul, Nat.one_mul] at h2
      rw [f70_l14, cdp (by omega)]
      by_cases c : (i : Int) < 200
      · rw [cdp c, gdp (by omega), gdp (by omega)]
        rw [i64w (n := (s : Int) + _) (by omega), i64w (by omega), i64w (n := (i : Int) + 1) (by omega)]
        rw [show (s : Int) + (((rd l (i : Int)).fKey.length : Nat) : Int) + (((rd l (i : Int)).fValue.length : Nat) : Int) = ((s + (rd l (i : Int)).fKey.length + (rd l (i : Int)).fValue.length : Nat) : Int) by omega, show ((i : Int) + 1) = ((i + 1 : Nat) : Int) by omega]
        exact ih (i + 1) _ k (by omega) (by omega) (by rw [Nat.add_mul, Nat.one_mul]; omega)
      · rw [cdn c]; exact ⟨_, rfl⟩
  obtain ⟨m, h⟩ := loop l.length 0 0 k (by omega) hk (by omega)
  have h' : f70_l14 l k (0 : Int) (0 : Int) = some (.b0 m) := h
  rw [f70, h']
  show ∃ b, f70_j56 k l m = some b
  delta f70_j56
  cases decide (((l.length : Nat) : Int) < 200)
  · exact ⟨_, rfl⟩
  · exact ⟨_, rfl⟩
theorem in_loop {a : List (List UInt8)} {x : List UInt8} (hn : a.length ≤ 1048576000) : ∀ (d i k : Nat), i + d = a.length → d < k → f77_l10 a x k (i : Int) = some (cond (decide (x ∈ a.drop i)) (.r true) (.b0 ())) := by
  intro d
  induction d with
  | zero =>
    intro i k hi hk
    obtain ⟨k, rfl, _⟩ := succ_of_pos (show 0 < k by omega)
    rw [f77_l10, cdn (by omega), List.drop_of_length_le (by omega)]
    simp
  | succ d ih =>
    intro i k hi hk
    obtain ⟨k, rfl, _⟩ := succ_of_pos (show 0 < k by omega)
    rw [f77_l10, cdp (by omega), gdp (by omega), drop_rd (by omega)]
    by_cases c : rd a (i : Int) = x
    · rw [cdp c, decide_eq_true (by rw [c]; exact List.mem_cons_self)]; rfl
    · rw [cdn c, i64w (by omega), show ((i : Int) + 1) = ((i + 1 : Nat) : Int) by omega, ih (i + 1) k (by omega) (by omega)]
      have e : (x ∈ rd a (i : Int) :: a.drop (i + 1)) ↔ x ∈ a.drop (i + 1) := by
        rw [List.mem_cons]
        exact ⟨fun h => h.resolve_left (fun e => c e.symm), .inr⟩
      rw [decide_eq_decide.2 e]
theorem in22 {a : List (List UInt8)} {x : List UInt8} (hn : a.length ≤ 1048576000) {k : Nat} (hk : a.length < k) : f77 k a x = some (decide (x ∈ a)) := by
  have h := in_loop (x := x) hn a.length 0 k (by omega) hk
  rw [List.drop_zero] at h
  rw [f77, show f77_l10 a x k (0 : Int) = _ from h]
  cases decide (x ∈ a) <;> rfl
theorem rd_in {α : Type} [Inhabited α] {l : List α} {i : Nat} (h : i < l.length) : rd l (i : Int) ∈ l := by
  simp only [rd, Int.toNat_natCast]
  rw [List.getD_eq_getElem?_getD, List.getElem?_eq_getElem h]
  exact List.getElem_mem _
theorem keys_loop {l : List TPair} (hn : l.length ≤ 1000) : ∀ (d i k : Nat) (ks : List (List UInt8)), i + d = l.length → d + 2 * l.length + 40 < k → ks = (l.take i).map (·.fKey) → ks.Nodup → (∀ p ∈ l.take i, p.fGone = false) →
    f16_l34 l k ks (i : Int) = some (.r true) ∨ (f16_l34 l k ks (i : Int) = some (.b0 ()) ∧ (l.map (·.fKey)).Nodup ∧ ∀ p ∈ l, p.fGone = false) := by
  intro d
  induction d with
  | zero =>
    intro i k ks hi hk hks hnd hg
    obtain ⟨k, rfl, _⟩ := succ_of_pos (show 0 < k by omega)
    rw [List.take_of_length_le (by omega)] at hks hg
    refine .inr ⟨by rw [f16_l34, cdn (by omega)], by rw [← hks]; exact hnd, hg⟩
  | succ d ih =>
    intro i k ks hi hk hks hnd hg
    obtain ⟨k, rfl, _⟩ := succ_of_pos (show 0 < k by omega)
    have hl : ks.length = i := by rw [hks]; simp; omega
    rw [f16_l34, cdp (by omega), gdp (by omega), in22 (by omega) (by omega)]
    simp only [Option.bind_some]
    by_cases c : (rd l (i : Int)).fKey ∈ ks
    · rw [decide_eq_true c, cond_true, awake22 (by omega)]; exact .inl rfl
    · rw [decide_eq_false c, cond_false, gdp (by omega)]
      cases hgo : (rd l (i : Int)).fGone
      · rw [cond_false, gdp (by omega), gdp (by simp; omega), i64w (by omega), show ((i : Int) + 1) = ((i + 1 : Nat) : Int) by omega]
        have ht : l.take (i + 1) = l.take i ++ [rd l (i : Int)] := by
          rw [List.take_add_one, List.getElem?_eq_getElem (show i < l.length by omega)]
          simp [rd, List.getD, List.getElem?_eq_getElem (show i < l.length by omega)]
        refine ih (i + 1) k _ (by omega) (by omega) (by rw [ht, hks]; simp) ?_ ?_
        · rw [List.nodup_append]
          refine ⟨hnd, by simp, fun a ha b hb => ?_⟩
          rw [List.mem_singleton.1 hb]
          exact fun e => c (e ▸ ha)
        · intro p hp
          rw [ht] at hp
          rcases List.mem_append.1 hp with hp | hp
          · exact hg p hp
          · rw [List.mem_singleton.1 hp]; exact hgo
      · rw [cond_true, awake22 (by omega)]; exact .inl rfl
theorem same_loop {a : List TPair} (hn : a.length ≤ 1048576000) : ∀ (d i k : Nat), i + d = a.length → d < k → f105_l26 a a k (i : Int) = some (.b0 ()) := by
  intro d
  induction d with
  | zero =>
    intro i k hi hk
    obtain ⟨k, rfl, _⟩ := succ_of_pos (show 0 < k by omega)
    rw [f105_l26, cdn (by omega)]
  | succ d ih =>
    intro i k hi hk
    obtain ⟨k, rfl, _⟩ := succ_of_pos (show 0 < k by omega)
    have e : f106 k (rd a (i : Int)) (rd a (i : Int)) = some true := by
      rw [f106, cdp rfl, f22]
      simp
    rw [f105_l26, cdp (by omega), gdp (by omega), gdp (by omega), e]
    simp only [Option.bind_some, Bool.not_true, cond_false]
    rw [i64w (by omega), show ((i : Int) + 1) = ((i + 1 : Nat) : Int) by omega]
    exact ih (i + 1) k (by omega) (by omega)
theorem same22 {a : List TPair} (hn : a.length ≤ 1048576000) {k : Nat} (hk : a.length < k) : f76 k a a = some true := by
  rw [f76, f105, cdn (by simp), show f105_l26 a a k (0 : Int) = _ from same_loop hn a.length 0 k (by omega) hk]
  rfl
theorem sorted_loop {l x : List TPair} (hs : srt x) (hl : x.length = l.length) (hn : l.length ≤ 1000) : ∀ (d i k : Nat), i + d = l.length → d < k → f16_l180 l x k (i : Int) = some (.b0 ()) := by
  intro d
  induction d with
  | zero =>
    intro i k hi hk
    obtain ⟨k, rfl, _⟩ := succ_of_pos (show 0 < k by omega)
    rw [f16_l180, cdn (by omega)]
  | succ d ih =>
    intro i k hi hk
    obtain ⟨k, rfl, _⟩ := succ_of_pos (show 0 < k by omega)
    have h := ih (i + 1) k (by omega) (by omega)
    rw [f16_l180, cdp (by omega), i64w (n := (i : Int) + 1) (by omega), show ((i : Int) + 1) = ((i + 1 : Nat) : Int) by omega]
    by_cases c : i = 0
    · subst c; rw [cdn (by decide)]; exact h
    · rw [cdp (by omega), i64w (by omega), gdp (by omega), gdp (by omega)]
      obtain ⟨j, rfl⟩ : ∃ j, i = j + 1 := ⟨i - 1, by omega⟩
      rw [show ((j + 1 : Nat) : Int) - 1 = (j : Int) by omega]
      have h1 : rd x ((j + 1 : Nat) : Int) = x[j + 1]'(by omega) := by simp [rd, List.getD, List.getElem?_eq_getElem (show j + 1 < x.length by omega)]
      have h2 : rd x (j : Int) = x[j]'(by omega) := by simp [rd, List.getD, List.getElem?_eq_getElem (show j < x.length by omega)]
      have hlt := List.pairwise_iff_getElem.1 hs j (j + 1) (by omega) (by omega) (by omega)
      have e1 : Op.bytesLess (rd x ((j + 1 : Nat) : Int)).fKey (rd x (j : Int)).fKey = false := by
        rw [h1, h2]
        cases hb : Op.bytesLess (x[j + 1]'(by omega)).fKey (x[j]'(by omega)).fKey
        · rfl
        · have := kl_trans _ _ _ hlt hb
          rw [kl_irr] at this; cases this
      have e2 : ¬ (rd x ((j + 1 : Nat) : Int)).fKey = (rd x (j : Int)).fKey := by
        rw [h1, h2]
        intro e
        rw [e, kl_irr] at hlt; cases hlt
      rw [e1, decide_eq_false e2]
      exact h
theorem keys_inj {l : List TPair} (h : (l.map (·.fKey)).Nodup) : ∀ p ∈ l, ∀ q ∈ l, p.fKey = q.fKey → p = q := by
  induction l with
  | nil => intro p hp; cases hp
  | cons x l ih =>
    rw [List.map_cons, List.nodup_cons] at h
    intro p hp q hq e
    rcases List.mem_cons.1 hp with e1 | e1 <;> rcases List.mem_cons.1 hq with e2 | e2
    · rw [e1, e2]
    · subst e1; exact absurd (List.mem_map.2 ⟨q, e2, e.symm⟩) h.1
    · subst e2; exact absurd (List.mem_map.2 ⟨p, e1, e⟩) h.1
    · exact ih h.2 p e1 q e2 e
theorem put_len {p : TPair} (hg : p.fGone = false) : ∀ {l : List TPair}, (∀ q ∈ l, q.fKey ≠ p.fKey) → (putOne p l).length = l.length + 1
  | [], _ => by simp [putOne, hg]
  | x :: l, h => by
    simp only [putOne]
    split
    · simp [put_len hg fun q hq => h q (List.mem_cons_of_mem _ hq)]
    · rw [if_neg (h x List.mem_cons_self)]; simp [hg]
theorem putAll_len {U : List TPair} (hk : ∀ p ∈ U, ∀ q ∈ U, p.fKey = q.fKey → p = q) (hg : ∀ p ∈ U, p.fGone = false) : ∀ (m acc : List TPair), (∀ p ∈ m, p ∈ U) → (∀ p ∈ acc, p ∈ U) → srt acc → m.Nodup → (∀ p ∈ m, p ∉ acc) → (putAll acc m).length = acc.length + m.length
  | [], acc, _, _, _, _, _ => rfl
  | p :: m, acc, hm, ha, hs, hd, hn => by
    have hp := hm p List.mem_cons_self
    obtain ⟨h1, h2⟩ := put_mem (hg p hp) hs
    rw [List.nodup_cons] at hd
    have hno : ∀ q ∈ acc, q.fKey ≠ p.fKey := fun q hq e => hn p List.mem_cons_self (hk q (ha q hq) p hp e ▸ hq)
    have := putAll_len hk hg m (putOne p acc) (fun q hq => hm q (List.mem_cons_of_mem _ hq)) (fun q hq => ((h2 q).1 hq).elim (fun e => e ▸ hp) (fun e => ha q e.1)) h1 hd.2 (fun q hq hq' => by
      rcases (h2 q).1 hq' with e | e
      · subst e; exact hd.1 hq
      · exact hn q (List.mem_cons_of_mem _ hq) e.1)
    rw [show putAll acc (p :: m) = putAll (putOne p acc) m from rfl, this, put_len (hg p hp) hno, List.length_cons]; omega
theorem drop_loop {l : List TPair} (hn : l.length ≤ 1000) (hv : ∀ p ∈ l, p.fValue.length ≤ 1048576) (hk : (l.map (·.fKey)).Nodup) : ∀ (d i k : Nat) (x : List TPair), i + d = l.length → d + 2 * l.length + 30 < k → srt x → (∀ q, q ∈ x ↔ q ∈ l.drop i) → x.length = d →
    f16_l231 l k x (i : Int) = some (.b0 ()) := by
  intro d
  induction d with
  | zero =>
    intro i k x hi hkk hs hm hx
    obtain ⟨k, rfl, _⟩ := succ_of_pos (show 0 < k by omega)
    rw [f16_l231, cdn (by omega)]
  | succ d ih =>
    intro i k x hi hkk hs hm hx
    obtain ⟨k, rfl, _⟩ := succ_of_pos (show 0 < k by omega)
    have hd := drop_rd (a := l) (i := i) (by omega)
    have hxv : ∀ p ∈ x, p.fValue.length ≤ 1048576000 := fun p hp => by have := hv p (List.mem_of_mem_drop ((hm p).1 hp)); omega
    obtain ⟨q1, q2, q3⟩ := drop_mem (p := TPair.mk (rd l (i : Int)).fKey [] true) rfl hs
    have hin : rd l (i : Int) ∈ x := (hm _).2 (by rw [hd]; exact List.mem_cons_self)
    have hlen := q3 ⟨_, hin, rfl⟩
    rw [f16_l231, cdp (by omega), gdp (by omega), put22 hxv (by simp) (by omega) (by simp) (by simp; omega)]
    simp only [Option.bind_some]
    rw [show putAll x [TPair.mk (rd l (i : Int)).fKey [] true] = putOne (TPair.mk (rd l (i : Int)).fKey [] true) x from rfl]
    rw [gdp (by omega), get22 (fun p hp => hxv p ((q2 p).1 hp).1) (by omega) (by omega)]
    simp only [Option.bind_some]
    rw [getO_none (fun q hq => ((q2 q).1 hq).2), cond_false, i64w (n := ((l.length : Nat) : Int) - 1) (by omega), i64w (by omega), cdn (by omega), i64w (by omega), show ((i : Int) + 1) = ((i + 1 : Nat) : Int) by omega]
    refine ih (i + 1) k _ (by omega) (by omega) q1 (fun q => ?_) (by omega)
    rw [q2, hm, hd]
    have hnd : ((rd l (i : Int) :: l.drop (i + 1)).map (·.fKey)).Nodup := by
      rw [← hd, List.map_drop]
      exact List.Nodup.sublist (List.drop_sublist _ _) hk
    rw [List.map_cons, List.nodup_cons] at hnd
    constructor
    · rintro ⟨e, e'⟩
      rcases List.mem_cons.1 e with e1 | e1
      · subst e1; exact absurd rfl e'
      · exact e1
    · intro e
      exact ⟨List.mem_cons_of_mem _ e, fun e' => hnd.1 (List.mem_map.2 ⟨q, e, e'⟩)⟩
theorem turn_loop {l : List TPair} {t : Int} (h0 : 0 < l.length) (hn : l.length ≤ 1000) : ∀ (j k : Nat) (m : List TPair), j ≤ l.length → j < k → m.length + j ≤ 1000 →
    ∃ r, f16_l103 l t k m ((j : Int) - 1) = some (.b0 (m ++ r)) ∧ r.length = j ∧ ∀ q, q ∈ r ↔ ∃ i, i < j ∧ q = rd l (((i + (Int.tmod (IntKind.u64.wrap t) (l.length : Int)).toNat) % l.length : Nat) : Int) := by
  have hu : 0 ≤ IntKind.u64.wrap t ∧ IntKind.u64.wrap t < 18446744073709551616 := by rw [wrap_u64_mod]; omega
  have hul : IntKind.u64.wrap ((l.length : Nat) : Int) = ((l.length : Nat) : Int) := by rw [wrap_u64_mod]; omega
  have htm : Int.tmod (IntKind.u64.wrap t) ((l.length : Nat) : Int) = (IntKind.u64.wrap t) % ((l.length : Nat) : Int) := Int.tmod_eq_emod_of_nonneg hu.1
  have ht1 : 0 ≤ (IntKind.u64.wrap t) % ((l.length : Nat) : Int) := Int.emod_nonneg _ (by omega)
  have ht2 : (IntKind.u64.wrap t) % ((l.length : Nat) : Int) < ((l.length : Nat) : Int) := Int.emod_lt_of_pos _ (by omega)
  intro j
  induction j with
  | zero =>
    intro k m hj hk hm
    obtain ⟨k, rfl, _⟩ := succ_of_pos hk
    rw [f16_l103, cdn (by omega)]
    exact ⟨[], by simp, rfl, by simp⟩
  | succ j ih =>
    intro k m hj hk hm
    obtain ⟨k, rfl, _⟩ := succ_of_pos (show 0 < k by omega)
    have e0 : ((j + 1 : Nat) : Int) - 1 = (j : Int) := by omega
    rw [e0, f16_l103, cdp (by omega), hul, htm]
    obtain ⟨T, hT⟩ := Int.eq_ofNat_of_zero_le ht1
    rw [hT] at ht1 ht2 ⊢
    have e1 : IntKind.i64.wrap (T : Int) = (T : Int) := i64w (by omega)
    have e2 : IntKind.i64.wrap ((j : Int) + (T : Int)) = ((j + T : Nat) : Int) := by rw [i64w (by omega)]; omega
    have e3 : Int.tmod ((j + T : Nat) : Int) ((l.length : Nat) : Int) = (((j + T) % l.length : Nat) : Int) := by
      rw [Int.tmod_eq_emod_of_nonneg (by omega)]; omega
    have hlt : (j + T) % l.length < l.length := Nat.mod_lt _ h0
    rw [e1, e2, e3, gdp (by omega), gdp (by omega), gdp (by omega), gdp (by simp; omega), i64w (by omega)]
    obtain ⟨r, h1, h2, h3⟩ := ih k (m ++ [rd l (((j + T) % l.length : Nat) : Int)]) (by omega) (by omega) (by simp; omega)
    refine ⟨rd l (((j + T) % l.length : Nat) : Int) :: r, by rw [h1, List.append_assoc]; rfl, by simp [h2], fun q => ?_⟩
    rw [List.mem_cons, h3, htm, hT]
    simp only [Int.toNat_natCast]
    constructor
    · rintro (e | ⟨i, hi, e⟩)
      · exact ⟨j, by omega, e⟩
      · exact ⟨i, by omega, e⟩
    · rintro ⟨i, hi, e⟩
      by_cases c : i = j
      · subst c; exact .inl e
      · exact .inr ⟨i, by omega, e⟩
theorem law_KeyedOrder (a0 : (List TPair)) (a1 : Int) (w0 : (∀ e0 ∈ a0, TPair.wf e0)) (w1 : (-9223372036854775808 ≤ a1 ∧ a1 ≤ 9223372036854775807)) (hb : ((a0.map TPair.sz).sum + 1) + 1 ≤ 1048576) : ∃ k, f16 k a0 a1 = some true := by
  have hn := len_sum (sz := TPair.sz) (fun a => by simp only [TPair.sz]; omega) a0
  have hsz : ∀ p ∈ a0, p.fKey.length + p.fValue.length ≤ 1048576 := by
    intro p hp
    have h1 : TPair.sz p ≤ (a0.map TPair.sz).sum := sz_mem a0 p hp
    have h2 := len_sum (sz := fun _ : UInt8 => 1) (fun _ => Nat.le_refl _) p.fValue
    simp only [TPair.sz] at h1
    omega
  refine ⟨3 * a0.length + 5000, ?_⟩
  generalize hk : 3 * a0.length + 5000 = k
  have haw := awake22 (show 20 < k by omega)
  obtain ⟨b, hf⟩ := few_some (B := 1048576) (by decide) hsz (by omega) (show a0.length < k by omega)
  rw [f16, hf]
  simp only [Option.bind_some]
  cases b
  · rw [Bool.not_false, cond_true, haw]; rfl
  rw [Bool.not_true, cond_false]
  by_cases c : ((a0.length : Nat) : Int) > 40
  · rw [cdp c, haw]; rfl
  rw [cdn c]
  have hv : ∀ p ∈ a0, p.fValue.length ≤ 1048576000 := fun p hp => by have := hsz p hp; omega
  rcases keys_loop (l := a0) (by omega) a0.length 0 k [] (by omega) (by omega) rfl List.nodup_nil (by simp) with h | ⟨h, hnd, hg⟩
  · rw [show f16_l34 a0 k [] (0 : Int) = _ from h]; rfl
  rw [show f16_l34 a0 k [] (0 : Int) = _ from h]
  simp only [Option.bind_some]
  have hinj := keys_inj hnd
  have hnl : a0.Nodup := by
    have := hnd
    exact List.Pairwise.of_map _ (fun a b hab e => hab (by rw [e])) this
  obtain ⟨s1, m1⟩ := putAll_mem hinj hg a0 [] (fun _ h => h) (by simp) List.Pairwise.nil
  have l1 := putAll_len hinj hg a0 [] (fun _ h => h) (by simp) List.Pairwise.nil hnl (by simp)
  simp only [List.length_nil, Nat.zero_add] at l1
  -- in another order
  have turned : ∃ r : List TPair, f16_l103 a0 a1 k [] (IntKind.i64.wrap (((a0.length : Nat) : Int) - 1)) = some (.b0 r) ∧ r.length = a0.length ∧ ∀ q, q ∈ r ↔ q ∈ a0 := by
    rw [i64w (by omega)]
    by_cases h0 : a0.length = 0
    · obtain rfl : a0 = [] := List.length_eq_zero_iff.1 h0
      obtain ⟨k, rfl, _⟩ := succ_of_pos (show 0 < k by omega)
      refine ⟨[], ?_, rfl, fun q => Iff.rfl⟩
      rw [f16_l103, cdn (by simp)]
    · obtain ⟨r, r1, r2, r3⟩ := turn_loop (l := a0) (t := a1) (by omega) (by omega) a0.length k [] (Nat.le_refl _) (by omega) (by simp; omega)
      refine ⟨r, by simpa using r1, r2, fun q => ?_⟩
      rw [r3]
      generalize (Int.tmod (IntKind.u64.wrap a1) (a0.length : Int)).toNat = T
      constructor
      · rintro ⟨i, hi, e⟩
        rw [e]
        exact rd_in (Nat.mod_lt _ (by omega))
      · intro hq
        obtain ⟨i, hi, e⟩ := List.getElem_of_mem hq
        refine ⟨(i + (a0.length - T % a0.length)) % a0.length, Nat.mod_lt _ (by omega), ?_⟩
        have e2 : ((i + (a0.length - T % a0.length)) % a0.length + T) % a0.length = i := by
          have ht := Nat.mod_lt T (show a0.length > 0 by omega)
          rw [Nat.add_mod, Nat.mod_mod, ← Nat.add_mod]
          have : i + (a0.length - T % a0.length) + T = i + a0.length * (1 + T / a0.length) := by
            have := Nat.div_add_mod T a0.length
            rw [Nat.mul_add, Nat.mul_one]; omega
          rw [this, Nat.add_mul_mod_self_left, Nat.mod_eq_of_lt hi]
        rw [e2, ← e]
        simp [rd, List.getD, List.getElem?_eq_getElem hi]
  obtain ⟨r, r1, r2, r3⟩ := turned
  obtain ⟨s2, m2⟩ := putAll_mem hinj hg r [] (fun p hp => (r3 p).1 hp) (by simp) List.Pairwise.nil
  have heq : putAll [] a0 = putAll [] r := srt_ext _ _ s1 s2 fun q => by rw [m1, m2, r3]
  rw [f16_j91, r1]
  simp only [Option.bind_some, f16_j142]
  rw [put22 (by simp) hv (by simp) (by omega) (by simp; omega), put22 (by simp) (fun p hp => hv p ((r3 p).1 hp)) (by simp) (by omega) (by simp; omega), haw, ← heq]
  simp only [Option.bind_some, Bool.not_true, cond_false]
  rw [same22 (by omega) (by omega)]
  simp only [Option.bind_some, Bool.not_true, cond_false]
  rw [cdn (by omega), show f16_l180 a0 (putAll [] a0) k (0 : Int) = _ from sorted_loop s1 l1 (by omega) a0.length 0 k (by omega) (by omega)]
  simp only [Option.bind_some, f16_j226]
  rw [show f16_l231 a0 k (putAll [] a0) (0 : Int) = _ from drop_loop (by omega) (fun p hp => by have := hsz p hp; omega) hnd a0.length 0 k _ (by omega) (by omega) s1 (fun q => by rw [m1]; simp) l1]
  rfl
end Go.Proofs.Abs
