/- The laws of chapter 22 over the Lean functions: pairs, their keys in order. -/
import Derived.Test.YtojmpoboidomeaaGLkbyc
import Derived.Test.YtojmpoboidomeaaAbsxc
set_option linter.unusedSimpArgs false
namespace Go.Proofs.Abs
open Go
set_option linter.unusedVariables false
set_option maxRecDepth 10000
theorem kl_irr : ∀ a : List UInt8, Op.bytesLess a a = false
  | [] => rfl
  | a :: x => by simp [Op.bytesLess, kl_irr x]
theorem kl_nil (a : List UInt8) : Op.bytesLess a [] = false := by cases a <;> rfl
theorem kl_trans : ∀ a b c : List UInt8, Op.bytesLess a b = true → Op.bytesLess b c = true → Op.bytesLess a c = true
  | a, [], _, h, _ => by rw [kl_nil] at h; cases h
  | _, b :: y, [], _, h => by rw [kl_nil] at h; cases h
  | [], _ :: _, _ :: _, _, _ => rfl
  | a :: x, b :: y, c :: z, h1, h2 => by
    simp only [Op.bytesLess, Bool.or_eq_true, Bool.and_eq_true, decide_eq_true_eq, beq_iff_eq] at h1 h2 ⊢
    rcases h1 with h1 | ⟨e1, h1⟩ <;> rcases h2 with h2 | ⟨e2, h2⟩
    · exact .inl (UInt8.lt_trans h1 h2)
    · exact .inl (e2 ▸ h1)
    · exact .inl (e1 ▸ h2)
    · exact .inr ⟨e1.trans e2, kl_trans _ _ _ h1 h2⟩
theorem kl_tot : ∀ a b : List UInt8, Op.bytesLess a b = false → Op.bytesLess b a = false → a = b
  | [], [], _, _ => rfl
  | [], _ :: _, h, _ => by cases h
  | _ :: _, [], _, h => by cases h
  | a :: x, b :: y, h1, h2 => by
    simp only [Op.bytesLess, Bool.or_eq_false_iff, Bool.and_eq_false_iff, decide_eq_false_iff_not, beq_eq_false_iff_ne, ne_eq] at h1 h2
    have e : a = b := UInt8.le_antisymm (UInt8.not_lt.1 h2.1) (UInt8.not_lt.1 h1.1)
    subst e
    have h3 := h1.2.resolve_left (fun h => h rfl)
    have h4 := h2.2.resolve_left (fun h => h rfl)
    rw [kl_tot x y h3 h4]
/-- where a key stands, or would -/
def pcnt (key : List UInt8) : List TPair → Nat
  | [] => 0
  | p :: l => if Op.bytesLess p.fKey key = true then pcnt key l + 1 else 0
def hasAt (key : List UInt8) (l : List TPair) : Bool := decide (pcnt key l < l.length) && decide ((l.getD (pcnt key l) default).fKey = key)
def putOne (p : TPair) : List TPair → List TPair
  | [] => if p.fGone = true then [] else [p]
  | q :: l => if Op.bytesLess q.fKey p.fKey = true then q :: putOne p l else if q.fKey = p.fKey then (if p.fGone = true then l else p :: l) else (if p.fGone = true then q :: l else p :: q :: l)
def putAll (l more : List TPair) : List TPair := more.foldl (fun l p => putOne p l) l
def getO (key : List UInt8) : List TPair → List UInt8 × Bool
  | [] => ([], false)
  | q :: l => if Op.bytesLess q.fKey key = true then getO key l else if q.fKey = key then (q.fValue, true) else ([], false)
theorem pcnt_le (key : List UInt8) : ∀ l : List TPair, pcnt key l ≤ l.length
  | [] => Nat.le_refl _
  | p :: l => by have := pcnt_le key l; simp only [pcnt, List.length_cons]; split <;> omega
theorem putOne_eq (p : TPair) : ∀ l : List TPair, putOne p l = if hasAt p.fKey l = true then (if p.fGone = true then l.take (pcnt p.fKey l) ++ l.drop (pcnt p.fKey l + 1) else l.set (pcnt p.fKey l) p) else (if p.fGone = true then l else l.take (pcnt p.fKey l) ++ p :: l.drop (pcnt p.fKey l))
  | [] => by simp [putOne, hasAt, pcnt]
  | q :: l => by
    have ih := putOne_eq p l
    by_cases c : Op.bytesLess q.fKey p.fKey = true
    · have h1 : pcnt p.fKey (q :: l) = pcnt p.fKey l + 1 := by simp only [pcnt, if_pos c]
      have h2 : hasAt p.fKey (q :: l) = hasAt p.fKey l := by simp [hasAt, h1]
      rw [h1, h2]
      simp only [putOne, if_pos c, ih]
      split <;> split <;> simp
    · have h1 : pcnt p.fKey (q :: l) = 0 := by simp only [pcnt, if_neg c]
      have h2 : hasAt p.fKey (q :: l) = decide (q.fKey = p.fKey) := by simp [hasAt, h1]
      rw [h1, h2]
      simp only [putOne, if_neg c, decide_eq_true_eq]
      split <;> split <;> simp
theorem getO_eq (key : List UInt8) : ∀ l : List TPair, getO key l = if hasAt key l = true then ((l.getD (pcnt key l) default).fValue, true) else ([], false)
  | [] => by simp [getO, hasAt, pcnt]
  | q :: l => by
    have ih := getO_eq key l
    by_cases c : Op.bytesLess q.fKey key = true
    · have h1 : pcnt key (q :: l) = pcnt key l + 1 := by simp only [pcnt, if_pos c]
      have h2 : hasAt key (q :: l) = hasAt key l := by simp [hasAt, h1]
      rw [h1, h2]
      simp only [getO, if_pos c, ih, List.getD_cons_succ]
    · have h1 : pcnt key (q :: l) = 0 := by simp only [pcnt, if_neg c]
      have h2 : hasAt key (q :: l) = decide (q.fKey = key) := by simp [hasAt, h1]
      rw [h1, h2]
      simp only [getO, if_neg c, decide_eq_true_eq, List.getD_cons_zero]
theorem drop_rd {α : Type} [Inhabited α] {a : List α} {i : Nat} (h : i < a.length) : a.drop i = rd a (i : Int) :: a.drop (i + 1) := by
  rw [List.drop_eq_getElem_cons h]
  simp [rd, List.getD, List.getElem?_eq_getElem h]
theorem place_loop {a : List TPair} {key : List UInt8} (hn : a.length ≤ 1048576000) : ∀ (d i k : Nat), i + d = a.length → d < k → f101_l22 a key k (i : Int) = some (.b0 ((i + pcnt key (a.drop i) : Nat) : Int)) := by
  intro d
  induction d with
  | zero =>
    intro i k hi hk
    obtain ⟨k, rfl, _⟩ := succ_of_pos (show 0 < k by omega)
    rw [f101_l22, cdn (by omega), List.drop_of_length_le (by omega)]
    simp only [pcnt]; congr 3; omega
  | succ d ih =>
    intro i k hi hk
    obtain ⟨k, rfl, _⟩ := succ_of_pos (show 0 < k by omega)
    rw [f101_l22, cdp (by omega), gdp (by omega), drop_rd (by omega)]
    simp only [pcnt]
    cases c : Op.bytesLess (rd a (i : Int)).fKey key
    · simp
    · rw [i64w (by omega), show ((i : Int) + 1) = ((i + 1 : Nat) : Int) by omega, ih (i + 1) k (by omega) (by omega)]
      simp only [Bool.not_true, cond_false, if_true]
      congr 3; omega
theorem place {a : List TPair} {key : List UInt8} (hn : a.length ≤ 1048576000) {k : Nat} (hk : a.length < k) : f101 k a key = some (((pcnt key a : Nat) : Int), hasAt key a) := by
  have h := place_loop (key := key) hn a.length 0 k (by omega) hk
  rw [List.drop_zero, Nat.zero_add] at h
  rw [f101, show f101_l22 a key k (0 : Int) = _ from h]
  simp only [Option.bind_some, f101_j62, hasAt]
  by_cases c : pcnt key a < a.length
  · rw [cdp (by omega), gdp (by omega), decide_eq_true c]
    simp [rd]
  · rw [cdn (by omega), decide_eq_false c]; rfl
theorem clone22 {k : Nat} {v : List UInt8} (h : v.length ≤ 1048576000) : f87 k v = some v := by rw [f87, gdp (by omega)]
theorem put_step {a0 : List TPair} {n : Nat} {p : TPair} (hn : n ≤ a0.length) (hb : n ≤ 1048576000) (hv : p.fValue.length ≤ 1048576000) {k : Nat} (hk : n < k) :
    ∃ n' l', b72_61 k a0 n p = some (n', l') ∧ n' ≤ l'.length ∧ l'.take n' = putOne p (a0.take n) ∧ n' ≤ n + 1 := by
  have hl : (a0.take n).length = n := by rw [List.length_take]; omega
  have hc := pcnt_le p.fKey (a0.take n)
  rw [b72_61, gdp hn, place (by omega) (by omega)]
  simp only [Option.bind_some]
  rw [clone22 hv, putOne_eq]
  simp only [Option.bind_some, b72_61_j98]
  have eta : TPair.mk p.fKey p.fValue p.fGone = p := rfl
  rw [eta]
  cases hh : hasAt p.fKey (a0.take n)
  · simp only [cond_false]
    cases hg : p.fGone
    · simp only [Bool.not_false, cond_true, f103]
      rw [gdp (by simp; omega)]
      refine ⟨_, _, rfl, Nat.le_refl _, ?_, by simp; omega⟩
      simp only [List.take_length, Int.toNat_natCast, Bool.false_eq_true, if_false, List.append_assoc, List.singleton_append]
    · exact ⟨n, a0, rfl, hn, by simp, by omega⟩
  · have hlt : pcnt p.fKey (a0.take n) < n := by
      simp only [hasAt, Bool.and_eq_true, decide_eq_true_eq] at hh
      omega
    simp only [cond_true]
    cases hg : p.fGone
    · simp only [cond_false]
      rw [gdp (by omega), gdp (by omega)]
      refine ⟨n, _, rfl, by simp; omega, ?_, by omega⟩
      simp only [Int.toNat_natCast, Bool.false_eq_true, if_true, if_false, List.take_set]
    · simp only [cond_true, f102]
      rw [i64w (by omega), gdp (by omega)]
      refine ⟨_, _, rfl, Nat.le_refl _, ?_, by simp; omega⟩
      have e1 : (((pcnt p.fKey (a0.take n) : Nat) : Int) + 1).toNat = pcnt p.fKey (a0.take n) + 1 := by omega
      simp only [List.take_length, Int.toNat_natCast, if_true, e1, List.take_take, Nat.min_eq_left (Nat.le_of_lt hlt)]
theorem put_loop {a2 : List TPair} (hv : ∀ p ∈ a2, p.fValue.length ≤ 1048576000) (hb2 : a2.length ≤ 1048576) : ∀ (d i n k : Nat) (l : List TPair), i + d = a2.length → n ≤ l.length → n + d ≤ 1048576000 → n + 2 * d < k →
    ∃ n' l', f113_l7 a2 k (i : Int) n l = some (.b0 (n', l')) ∧ n' ≤ l'.length ∧ l'.take n' = putAll (l.take n) (a2.drop i) := by
  intro d
  induction d with
  | zero =>
    intro i n k l hi hn hb hk
    obtain ⟨k, rfl, _⟩ := succ_of_pos (show 0 < k by omega)
    rw [f113_l7, cdn (by omega), List.drop_of_length_le (by omega)]
    exact ⟨n, l, rfl, hn, rfl⟩
  | succ d ih =>
    intro i n k l hi hn hb hk
    obtain ⟨k, rfl, _⟩ := succ_of_pos (show 0 < k by omega)
    have hm : rd a2 (i : Int) ∈ a2 := by
      simp only [rd, Int.toNat_natCast]
      rw [List.getD_eq_getElem?_getD, List.getElem?_eq_getElem (show i < a2.length by omega)]
      exact List.getElem_mem _
    obtain ⟨n', l', e1, e2, e3, e4⟩ := put_step (k := k) (p := rd a2 (i : Int)) hn (by omega) (hv _ hm) (by omega)
    rw [f113_l7, cdp (by omega), gdp (by omega)]
    have eta : TPair.mk (rd a2 (i : Int)).fKey (rd a2 (i : Int)).fValue (rd a2 (i : Int)).fGone = rd a2 (i : Int) := rfl
    rw [eta, e1]
    simp only [Option.bind_some]
    rw [i64w (by omega), show ((i : Int) + 1) = ((i + 1 : Nat) : Int) by omega, drop_rd (by omega)]
    obtain ⟨n2, l2, q1, q2, q3⟩ := ih (i + 1) n' k l' (by omega) e2 (by omega) (by omega)
    exact ⟨n2, l2, q1, q2, by rw [q3, e3]; rfl⟩
theorem copy_loop {a : List TPair} (hv : ∀ p ∈ a, p.fValue.length ≤ 1048576000) (hb : a.length ≤ 1048576) : ∀ (d i k : Nat), i + d = a.length → d < k → f72_l16 a k (i : Int) i (a.take i) = some (.b0 (a.length, a)) := by
  intro d
  induction d with
  | zero =>
    intro i k hi hk
    obtain ⟨k, rfl, _⟩ := succ_of_pos (show 0 < k by omega)
    rw [f72_l16, cdn (by omega), List.take_of_length_le (by omega), show i = a.length by omega]
  | succ d ih =>
    intro i k hi hk
    obtain ⟨k, rfl, _⟩ := succ_of_pos (show 0 < k by omega)
    have hm : rd a (i : Int) ∈ a := by
      simp only [rd, Int.toNat_natCast]
      rw [List.getD_eq_getElem?_getD, List.getElem?_eq_getElem (show i < a.length by omega)]
      exact List.getElem_mem _
    have eta : TPair.mk (rd a (i : Int)).fKey (rd a (i : Int)).fValue (rd a (i : Int)).fGone = rd a (i : Int) := rfl
    rw [f72_l16, cdp (by omega), gdp (by omega), clone22 (hv _ hm)]
    simp only [Option.bind_some]
    rw [eta, gdp (by simp; omega), i64w (by omega), show ((i : Int) + 1) = ((i + 1 : Nat) : Int) by omega]
    have e1 : List.take i (List.take i a) ++ [rd a (i : Int)] = a.take (i + 1) := by
      rw [List.take_take, Nat.min_self, List.take_add_one, List.getElem?_eq_getElem (show i < a.length by omega)]
      simp [rd, List.getD, List.getElem?_eq_getElem (show i < a.length by omega)]
    rw [e1]
    exact ih (i + 1) k (by omega) (by omega)
theorem put22 {l more : List TPair} (h1 : ∀ p ∈ l, p.fValue.length ≤ 1048576000) (h2 : ∀ p ∈ more, p.fValue.length ≤ 1048576000) (b1 : l.length ≤ 1048576) (b2 : more.length ≤ 1048576) {k : Nat} (hk : l.length + 2 * more.length < k) :
    f72 k l more = some (putAll l more) := by
  have e := copy_loop h1 b1 l.length 0 k (by omega) (by omega)
  rw [List.take_zero] at e
  rw [f72, show f72_l16 l k (0 : Int) 0 [] = _ from e]
  simp only [Option.bind_some, f72_j54, f100, f113]
  obtain ⟨n', l', q1, q2, q3⟩ := put_loop h2 b2 more.length 0 l.length k l (by omega) (Nat.le_refl _) (by omega) (by omega)
  rw [show f113_l7 more k (0 : Int) l.length l = _ from q1]
  simp only [Option.bind_some]
  rw [gdp q2, q3, List.take_length, List.drop_zero]
theorem awake22 {k : Nat} (hk : 20 < k) : f69 k = some true := by
  rw [f69, put22 (by decide) (by decide) (by decide) (by decide) (by simp; omega)]
  rfl
/-- in order, no key twice -/
def srt (l : List TPair) : Prop := l.Pairwise fun p q => Op.bytesLess p.fKey q.fKey = true
theorem srt_ext : ∀ a b : List TPair, srt a → srt b → (∀ q, q ∈ a ↔ q ∈ b) → a = b
  | [], [], _, _, _ => rfl
  | [], q :: b, _, _, h => absurd ((h q).2 List.mem_cons_self) (by simp)
  | p :: a, [], _, _, h => absurd ((h p).1 List.mem_cons_self) (by simp)
  | p :: a, q :: b, h1, h2, h => by
    obtain ⟨a1, a2⟩ := List.pairwise_cons.1 h1
    obtain ⟨b1, b2⟩ := List.pairwise_cons.1 h2
    have hpq : p = q := by
      rcases List.mem_cons.1 ((h p).1 List.mem_cons_self) with e | e
      · exact e
      · rcases List.mem_cons.1 ((h q).2 List.mem_cons_self) with e' | e'
        · exact e'.symm
        · have := kl_trans _ _ _ (b1 p e) (a1 q e')
          rw [kl_irr] at this; cases this
    subst hpq
    have ne : ∀ x, Op.bytesLess p.fKey x.fKey = true → x ≠ p := fun x hx e => by subst e; rw [kl_irr] at hx; cases hx
    rw [srt_ext a b a2 b2 fun q => ⟨fun hq => ?_, fun hq => ?_⟩]
    · exact (List.mem_cons.1 ((h q).1 (List.mem_cons_of_mem _ hq))).resolve_left (ne q (a1 q hq))
    · exact (List.mem_cons.1 ((h q).2 (List.mem_cons_of_mem _ hq))).resolve_left (ne q (b1 q hq))
/-- put: what is there then -/
theorem put_mem {p : TPair} (hg : p.fGone = false) : ∀ {l : List TPair}, srt l → srt (putOne p l) ∧ ∀ q, q ∈ putOne p l ↔ q = p ∨ (q ∈ l ∧ q.fKey ≠ p.fKey)
  | [], _ => by simp [putOne, hg, srt]
  | x :: l, h => by
    obtain ⟨h1, h2⟩ := List.pairwise_cons.1 h
    by_cases c : Op.bytesLess x.fKey p.fKey = true
    · obtain ⟨i1, i2⟩ := put_mem hg h2
      have hne : x.fKey ≠ p.fKey := fun e => by rw [e, kl_irr] at c; cases c
      simp only [putOne, if_pos c]
      refine ⟨List.pairwise_cons.2 ⟨fun q hq => ?_, i1⟩, fun q => ?_⟩
      · rcases (i2 q).1 hq with e | ⟨e, _⟩
        · subst e; exact c
        · exact h1 q e
      · simp only [List.mem_cons, i2]
        constructor
        · rintro (e | e | ⟨e, e'⟩)
          · subst e; exact .inr ⟨.inl rfl, hne⟩
          · exact .inl e
          · exact .inr ⟨.inr e, e'⟩
        · rintro (e | ⟨e | e, e'⟩)
          · exact .inr (.inl e)
          · exact .inl e
          · exact .inr (.inr ⟨e, e'⟩)
    · by_cases c2 : x.fKey = p.fKey
      · simp only [putOne, if_neg c, if_pos c2, hg, Bool.false_eq_true, if_false]
        rw [c2] at h1
        refine ⟨List.pairwise_cons.2 ⟨h1, h2⟩, fun q => ?_⟩
        simp only [List.mem_cons]
        constructor
        · rintro (e | e)
          · exact .inl e
          · refine .inr ⟨.inr e, fun e' => ?_⟩
            have := h1 q e
            rw [e', kl_irr] at this; cases this
        · rintro (e | ⟨e | e, e'⟩)
          · exact .inl e
          · subst e; exact absurd c2 e'
          · exact .inr e
      · simp only [putOne, if_neg c, if_neg c2, hg, Bool.false_eq_true, if_false]
        have hlt : Op.bytesLess p.fKey x.fKey = true := by
          cases hb : Op.bytesLess p.fKey x.fKey
          · exact absurd (kl_tot _ _ (by simpa using c) hb) c2
          · rfl
        refine ⟨List.pairwise_cons.2 ⟨fun q hq => ?_, h⟩, fun q => ?_⟩
        · rcases List.mem_cons.1 hq with e | e
          · subst e; exact hlt
          · exact kl_trans _ _ _ hlt (h1 q e)
        · simp only [List.mem_cons]
          constructor
          · rintro (e | e | e)
            · exact .inl e
            · subst e; exact .inr ⟨.inl rfl, c2⟩
            · refine .inr ⟨.inr e, fun e' => ?_⟩
              have := kl_trans _ _ _ hlt (h1 q e)
              rw [e', kl_irr] at this; cases this
          · rintro (e | ⟨e, _⟩)
            · exact .inl e
            · exact .inr e
/-- dropped: what is there then -/
theorem drop_mem {p : TPair} (hg : p.fGone = true) : ∀ {l : List TPair}, srt l → srt (putOne p l) ∧ (∀ q, q ∈ putOne p l ↔ (q ∈ l ∧ q.fKey ≠ p.fKey)) ∧ ((∃ q ∈ l, q.fKey = p.fKey) → (putOne p l).length + 1 = l.length)
  | [], _ => by simp [putOne, hg, srt]
  | x :: l, h => by
    obtain ⟨h1, h2⟩ := List.pairwise_cons.1 h
    by_cases c : Op.bytesLess x.fKey p.fKey = true
    · obtain ⟨i1, i2, i3⟩ := drop_mem hg h2
      have hne : x.fKey ≠ p.fKey := fun e => by rw [e, kl_irr] at c; cases c
      simp only [putOne, if_pos c]
      refine ⟨List.pairwise_cons.2 ⟨fun q hq => h1 q ((i2 q).1 hq).1, i1⟩, fun q => ?_, ?_⟩
      · simp only [List.mem_cons, i2]
        constructor
        · rintro (e | ⟨e, e'⟩)
          · subst e; exact ⟨.inl rfl, hne⟩
          · exact ⟨.inr e, e'⟩
        · rintro ⟨e | e, e'⟩
          · exact .inl e
          · exact .inr ⟨e, e'⟩
      · rintro ⟨q, hq, hk⟩
        have := i3 ⟨q, (List.mem_cons.1 hq).resolve_left (fun e => hne (by rw [← e]; exact hk)), hk⟩
        simp only [List.length_cons]; omega
    · by_cases c2 : x.fKey = p.fKey
      · simp only [putOne, if_neg c, if_pos c2, hg, if_true]
        rw [c2] at h1
        refine ⟨h2, fun q => ?_, fun _ => rfl⟩
        simp only [List.mem_cons]
        constructor
        · intro e
          refine ⟨.inr e, fun e' => ?_⟩
          have := h1 q e
          rw [e', kl_irr] at this; cases this
        · rintro ⟨e | e, e'⟩
          · subst e; exact absurd c2 e'
          · exact e
      · simp only [putOne, if_neg c, if_neg c2, hg, if_true]
        have hlt : Op.bytesLess p.fKey x.fKey = true := by
          cases hb : Op.bytesLess p.fKey x.fKey
          · exact absurd (kl_tot _ _ (by simpa using c) hb) c2
          · rfl
        have hno : ∀ q ∈ x :: l, q.fKey ≠ p.fKey := by
          intro q hq e
          rcases List.mem_cons.1 hq with e' | e'
          · subst e'; exact c2 e
          · have := kl_trans _ _ _ hlt (h1 q e')
            rw [e, kl_irr] at this; cases this
        exact ⟨h, fun q => ⟨fun hq => ⟨hq, hno q hq⟩, fun hq => hq.1⟩, fun ⟨q, hq, hk⟩ => absurd hk (hno q hq)⟩
theorem getO_none {key : List UInt8} : ∀ {l : List TPair}, (∀ q ∈ l, q.fKey ≠ key) → (getO key l).2 = false
  | [], _ => rfl
  | x :: l, h => by
    simp only [getO]
    split
    · exact getO_none fun q hq => h q (List.mem_cons_of_mem _ hq)
    · rw [if_neg (h x List.mem_cons_self)]
/-- pairs of unlike keys, put in whatever order -/
theorem putAll_mem {U : List TPair} (hk : ∀ p ∈ U, ∀ q ∈ U, p.fKey = q.fKey → p = q) (hg : ∀ p ∈ U, p.fGone = false) : ∀ (m acc : List TPair), (∀ p ∈ m, p ∈ U) → (∀ p ∈ acc, p ∈ U) → srt acc →
    srt (putAll acc m) ∧ ∀ q, q ∈ putAll acc m ↔ q ∈ acc ∨ q ∈ m
  | [], acc, _, _, hs => ⟨hs, fun q => by simp [putAll]⟩
  | p :: m, acc, hm, ha, hs => by
    have hp := hm p List.mem_cons_self
    obtain ⟨h1, h2⟩ := put_mem (hg p hp) hs
    have h3 : ∀ q, q ∈ putOne p acc ↔ q = p ∨ q ∈ acc := fun q => by
      rw [h2]
      constructor
      · rintro (e | ⟨e, _⟩)
        · exact .inl e
        · exact .inr e
      · rintro (e | e)
        · exact .inl e
        · by_cases c : q.fKey = p.fKey
          · exact .inl (hk q (ha q e) p hp c)
          · exact .inr ⟨e, c⟩
    obtain ⟨i1, i2⟩ := putAll_mem hk hg m (putOne p acc) (fun q hq => hm q (List.mem_cons_of_mem _ hq)) (fun q hq => ((h3 q).1 hq).elim (fun e => e ▸ hp) (ha q)) h1
    refine ⟨i1, fun q => ?_⟩
    rw [show putAll acc (p :: m) = putAll (putOne p acc) m from rfl, i2, h3, List.mem_cons]
    constructor
    · rintro ((e | e) | e)
      · exact .inr (.inl e)
      · exact .inl e
      · exact .inr (.inr e)
    · rintro (e | e | e)
      · exact .inl (.inr e)
      · exact .inl (.inl e)
      · exact .inr e
end Go.Proofs.Abs
