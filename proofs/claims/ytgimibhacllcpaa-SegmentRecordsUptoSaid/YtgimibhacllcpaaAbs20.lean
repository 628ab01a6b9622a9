/- Regions whose order is drawn: every order comes to the same, where operations that are not bound leave one another alone. -/
import Derived.Test.YtgimibhacllcpaaAbs19
import Derived.Orders
namespace Go.Proofs.Abs
open Go

def qcan (r : Rec) (a : AAct) : Prop := (∀ t x, lk r.args t = some x → lk a.l t = some x) ∧ ∀ t, r.dst = some t → t < a.n
def qchain : List Rec → AAct → AAct → Prop
  | [], a, a' => a'.n = a.n ∧ ∀ t, lk a'.l t = lk a.l t
  | r :: rs, a, a' => qcan r a ∧ qchain rs (a.put r.dst r.r) a'

theorem put_n (a : AAct) (d : Option Nat) (x : AV) : (a.put d x).n = a.n := by cases d <;> rfl
theorem lk_put (a : AAct) (d : Option Nat) (x : AV) (t : Nat) : lk (a.put d x).l t = if d = some t then some x else lk a.l t := by
  cases d with
  | none => simp [AAct.put]
  | some u =>
    simp only [AAct.put, lk]
    by_cases h : u = t
    · subst h; simp
    · have : Nat.beq u t = false := by
        cases hb : Nat.beq u t with
        | false => rfl
        | true => exact absurd (Nat.eq_of_beq_eq_true hb) h
      simp [this, h]

theorem qchain_eqv : ∀ {rs : List Rec} {a b a' : AAct}, a.n = b.n → (∀ t, lk a.l t = lk b.l t) → qchain rs a a' → qchain rs b a'
  | [], a, b, a', h1, h2, h => ⟨h.1.trans h1, fun t => (h.2 t).trans (h2 t)⟩
  | r :: rs, a, b, a', h1, h2, h => by
    refine ⟨⟨fun t x hx => (h2 t).symm.trans (h.1.1 t x hx), fun t ht => h1 ▸ h.1.2 t ht⟩, ?_⟩
    refine qchain_eqv (by rw [put_n, put_n, h1]) (fun t => ?_) h.2
    rw [lk_put, lk_put, h2 t]

def indep (p r : Rec) : Prop := (∀ t, p.dst = some t → lk r.args t = none ∧ r.dst ≠ some t) ∧ ∀ t, r.dst = some t → lk p.args t = none

theorem q_swap {p r : Rec} {rs : List Rec} {a a' : AAct} (hi : indep p r) (h : qchain (p :: r :: rs) a a') : qchain (r :: p :: rs) a a' := by
  obtain ⟨hp, hr, h⟩ := h
  have lkr : ∀ t x, lk r.args t = some x → lk a.l t = some x := by
    intro t x hx
    have := hr.1 t x hx
    rw [lk_put] at this
    split at this
    · rename_i ht
      rw [(hi.1 t ht).1] at hx; cases hx
    · exact this
  refine ⟨⟨lkr, fun t ht => by have := hr.2 t ht; rwa [put_n] at this⟩, ⟨fun t x hx => ?_, fun t ht => by rw [put_n]; exact hp.2 t ht⟩, qchain_eqv (by simp [put_n]) (fun t => ?_) h⟩
  · rw [lk_put]
    split
    · rename_i ht
      rw [hi.2 t ht] at hx; cases hx
    · exact hp.1 t x hx
  · rw [lk_put, lk_put, lk_put, lk_put]
    by_cases h1 : p.dst = some t
    · have h2 : ¬ r.dst = some t := (hi.1 t h1).2
      simp [h1, h2]
    · simp [h1]

theorem q_front {r : Rec} {post : List Rec} : ∀ {pre : List Rec} {a a' : AAct}, (∀ p ∈ pre, indep p r) → qchain (pre ++ r :: post) a a' → qchain (r :: (pre ++ post)) a a'
  | [], _, _, _, h => h
  | p :: pre, a, a', hi, h => by
    have h1 : qchain (r :: (pre ++ post)) (a.put p.dst p.r) a' := q_front (fun q hq => hi q (List.mem_cons_of_mem _ hq)) h.2
    exact q_swap (hi p List.mem_cons_self) ⟨h.1, h1⟩

/-- what is bound to come before -/
def aft (ops : Array Oper) (i : Nat) : List Nat := match ops[i]? with
  | some o => (o.after.toList.filter (Region.binds .any)).map (·.on)
  | none => []

theorem lin_ok {ops : Array Oper} {a' : AAct} : ∀ (fuel t : Nat) (listed : Array Bool) (rs : List Rec) (a : AAct), rs.length ≤ fuel → listed.size = ops.size → (∀ i, i < ops.size → (listed.getD i true = false ↔ ∃ r ∈ rs, r.idx = i)) →
    (∀ r ∈ rs, r.idx < ops.size) → rs.Pairwise (fun p r => p.idx < r.idx) → rs.Pairwise (fun p r => p.idx ∈ aft ops r.idx ∨ indep p r) → (∀ r ∈ rs, ∀ j ∈ aft ops r.idx, j < r.idx) → qchain rs a a' →
    ∃ rs', rs'.map (·.idx) = Region.linearise.go .any ops fuel t listed [] ∧ (∀ r ∈ rs', r ∈ rs) ∧ qchain rs' a a'
  | 0, t, listed, rs, a, hf, _, _, _, _, _, _, hq => by
    have : rs = [] := List.eq_nil_of_length_eq_zero (Nat.le_zero.1 hf)
    subst this
    exact ⟨[], rfl, fun r hr => hr, hq⟩
  | fuel + 1, t, listed, rs, a, hf, hsz, hl, hlt, hsort, hpw, haf, hq => by
    have hgo : Region.linearise.go .any ops (fuel + 1) t listed [] = match (Region.ready .any ops listed)[t % (Region.ready .any ops listed).length]? with
        | some i => Region.linearise.go .any ops fuel (t / (Region.ready .any ops listed).length) (listed.setIfInBounds i true) [i]
        | none => [] := by
      rw [Region.linearise.go]
      rfl
    rw [hgo]
    have hready : ∀ i, i ∈ Region.ready .any ops listed ↔ (∃ r ∈ rs, r.idx = i) ∧ ∀ j ∈ aft ops i, listed.getD j false = true := by
      intro i
      rw [mem_ready]
      constructor
      · rintro ⟨h1, o, ho, h2⟩
        have hi : i < ops.size := (Array.getElem?_eq_some_iff.1 ho).1
        refine ⟨(hl i hi).1 h1, fun j hj => ?_⟩
        simp only [aft, ho, List.mem_map, List.mem_filter, Array.mem_toList_iff] at hj
        obtain ⟨e, ⟨he, hb⟩, rfl⟩ := hj
        exact h2 e he hb
      · rintro ⟨⟨r, hr, rfl⟩, h2⟩
        have hi := hlt r hr
        refine ⟨(hl _ hi).2 ⟨r, hr, rfl⟩, ops[r.idx], by simp [hi], fun e he hb => h2 _ ?_⟩
        simp only [aft, Array.getElem?_eq_getElem hi, List.mem_map, List.mem_filter, Array.mem_toList_iff]
        exact ⟨e, ⟨he, hb⟩, rfl⟩
    cases hrs : rs with
    | nil =>
      subst hrs
      have hnil : Region.ready .any ops listed = [] := by
        apply List.eq_nil_iff_forall_not_mem.2
        intro i hi
        obtain ⟨⟨r, hr, _⟩, _⟩ := (hready i).1 hi
        cases hr
      rw [hnil]
      exact ⟨[], by simp, fun r hr => hr, hq⟩
    | cons r0 rt =>
      rw [← hrs]
      have h0 : r0 ∈ rs := by rw [hrs]; exact List.mem_cons_self
      have hmem0 : r0.idx ∈ Region.ready .any ops listed := by
        refine (hready _).2 ⟨⟨r0, h0, rfl⟩, fun j hj => ?_⟩
        have hjl := haf r0 h0 j hj
        have hjs : j < ops.size := Nat.lt_trans hjl (hlt r0 h0)
        cases hv : listed.getD j true with
        | false =>
          exfalso
          obtain ⟨r, hr, he⟩ := (hl j hjs).1 hv
          rw [hrs] at hr hsort
          rcases List.mem_cons.1 hr with rfl | hr
          · omega
          · have := (List.pairwise_cons.1 hsort).1 r hr
            omega
        | true =>
          have : j < listed.size := by omega
          simpa [Array.getD, this] using hv
      have hpos : 0 < (Region.ready .any ops listed).length := List.length_pos_of_mem hmem0
      have hmod := Nat.mod_lt t hpos
      rw [List.getElem?_eq_getElem hmod]
      generalize hi : (Region.ready .any ops listed)[t % (Region.ready .any ops listed).length] = i
      have hir : i ∈ Region.ready .any ops listed := by rw [← hi]; exact List.getElem_mem hmod
      obtain ⟨⟨r, hr, rfl⟩, hbef⟩ := (hready i).1 hir
      obtain ⟨pre, post, hsplit⟩ := List.append_of_mem hr
      simp only
      rw [linearise_go_acc]
      have hpre : ∀ p ∈ pre, indep p r := by
        intro p hp
        rw [hsplit] at hpw
        rcases (List.pairwise_append.1 hpw).2.2 p hp r List.mem_cons_self with h | h
        · exfalso
          have := hbef _ h
          have hp' : p ∈ rs := by rw [hsplit]; exact List.mem_append.2 (.inl hp)
          have h2 := (hl _ (hlt p hp')).2 ⟨p, hp', rfl⟩
          have h3 : p.idx < listed.size := by have := hlt p hp'; omega
          simp [Array.getD, h3] at this h2
          rw [h2] at this; cases this
        · exact h
      have hfront := q_front hpre (hsplit ▸ hq)
      have hsub : (pre ++ post).Sublist rs := by rw [hsplit]; exact List.Sublist.append (List.Sublist.refl _) (List.sublist_cons_self _ _)
      have hlen : (pre ++ post).length + 1 = rs.length := by rw [hsplit]; simp; omega
      have hnotin : ∀ q ∈ pre ++ post, q.idx ≠ r.idx := by
        intro q hq he
        rw [hsplit] at hsort
        obtain ⟨_, s2, s3⟩ := List.pairwise_append.1 hsort
        rcases List.mem_append.1 hq with h | h
        · have := s3 q h r List.mem_cons_self; omega
        · have := (List.pairwise_cons.1 s2).1 q h; omega
      obtain ⟨rs', k1, k2, k3⟩ := lin_ok fuel (t / (Region.ready .any ops listed).length) (listed.setIfInBounds r.idx true) (pre ++ post) (a.put r.dst r.r) (by omega) (by simpa using hsz) (fun j hj => by
        by_cases hjr : j = r.idx
        · subst hjr
          have : r.idx < listed.size := by omega
          simp only [Array.getD, Array.size_setIfInBounds, this, dif_pos]
          simp only [Array.getInternal_eq_getElem, Array.getElem_setIfInBounds_self, Bool.true_eq_false, false_iff, not_exists, not_and]
          exact fun q hq => hnotin q hq
        · rw [getD_set_ne true (fun h => hjr h.symm), hl j hj]
          constructor
          · rintro ⟨q, hq, rfl⟩
            rw [hsplit] at hq
            refine ⟨q, ?_, rfl⟩
            rcases List.mem_append.1 hq with h | h
            · exact List.mem_append.2 (.inl h)
            · rcases List.mem_cons.1 h with rfl | h
              · exact absurd rfl hjr
              · exact List.mem_append.2 (.inr h)
          · rintro ⟨q, hq, rfl⟩
            exact ⟨q, hsub.subset hq, rfl⟩) (fun q hq => hlt q (hsub.subset hq)) (hsort.sublist hsub) (hpw.sublist hsub) (fun q hq => haf q (hsub.subset hq)) hfront.2
      exact ⟨r :: rs', by rw [List.map_cons, k1]; rfl, fun q hq => by
        rcases List.mem_cons.1 hq with rfl | hq
        · exact hr
        · exact hsub.subset (k2 q hq), hfront.1, k3⟩
end Go.Proofs.Abs
