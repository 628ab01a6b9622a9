/- Every bound order, for operations that write. -/
import Derived.Test.YtgimibhacllcpaaAbs26
namespace Go.Proofs.Abs
open Go
theorem h_front {r : Rec} {post : List Rec} : ∀ {pre : List Rec} {a a' : AAct} {H H' : AHeap}, Fun H → (∀ p ∈ pre, indep p r ∧ labApart p r) → hchain (pre ++ r :: post) a H a' H' → hchain (r :: (pre ++ post)) a H a' H'
  | [], _, _, _, _, _, _, h => h
  | p :: pre, a, a', H, H', hF, hi, h => by
    have h1 := h_front (fun_step hF h.1.2.2) (fun q hq => hi q (List.mem_cons_of_mem _ hq)) h.2
    exact h_swap hF (hi p List.mem_cons_self).1 (hi p List.mem_cons_self).2 ⟨h.1, h1⟩

/-- what has to come ahead, step by step -/
inductive Cl (ops : Array Oper) : Nat → Nat → Prop
  | one {i j : Nat} (h : j ∈ aft ops i) : Cl ops i j
  | tr {i q j : Nat} (h : q ∈ aft ops i) (hr : Cl ops q j) : Cl ops i j
def ClosedL (ops : Array Oper) (listed : Array Bool) : Prop := ∀ i, listed.getD i false = true → ∀ j ∈ aft ops i, listed.getD j false = true
theorem Cl.listed {ops : Array Oper} {listed : Array Bool} (hc : ClosedL ops listed) {i j : Nat} (h : Cl ops i j) (hb : ∀ j ∈ aft ops i, listed.getD j false = true) : listed.getD j false = true := by
  induction h with
  | one h => exact hb _ h
  | tr h hr ih => exact ih (hc _ (hb _ h))
theorem lin_okH {ops : Array Oper} {a' : AAct} {H' : AHeap} : ∀ (fuel t : Nat) (listed : Array Bool) (rs : List Rec) (a : AAct) (H : AHeap), Fun H → ClosedL ops listed → rs.length ≤ fuel → listed.size = ops.size → (∀ i, i < ops.size → (listed.getD i true = false ↔ ∃ r ∈ rs, r.idx = i)) →
    (∀ r ∈ rs, r.idx < ops.size) → rs.Pairwise (fun p r => p.idx < r.idx) → rs.Pairwise (fun p r => Cl ops r.idx p.idx ∨ (indep p r ∧ labApart p r)) → (∀ r ∈ rs, ∀ j ∈ aft ops r.idx, j < r.idx) → hchain rs a H a' H' →
    ∃ rs', rs'.map (·.idx) = Region.linearise.go .any ops fuel t listed [] ∧ rs'.Perm rs ∧ hchain rs' a H a' H'
  | 0, t, listed, rs, a, H, hF, hcl, hf, _, _, _, _, _, _, hq => by
    have : rs = [] := List.eq_nil_of_length_eq_zero (Nat.le_zero.1 hf)
    subst this
    exact ⟨[], rfl, .refl _, hq⟩
  | fuel + 1, t, listed, rs, a, H, hF, hcl, hf, hsz, hl, hlt, hsort, hpw, haf, hq => by
    have hgo : Region.linearise.go .any ops (fuel + 1) t listed [] = match (Region.ready .any ops listed)[t % (Region.ready .any ops listed).length]? with
        | some i => Region.linearise.go .any ops fuel (t / (Region.ready .any ops listed).length) (listed.setIfInBounds i true) [i]
        | none => [] := by
      rw [Region.linearise.go]
      rfl
    rw [hgo]
    have hready : ∀ i, i ∈ Region.ready .any ops listed ↔ (∃ r ∈ rs, r.idx = i) ∧ ∀ j ∈ aft ops i, listed.getD j false = true := by
      intro i
      rw [mem_ready]
      constructor
      · rintro ⟨h1, o, ho, h2⟩
        have hi : i < ops.size := (Array.getElem?_eq_some_iff.1 ho).1
        refine ⟨(hl i hi).1 h1, fun j hj => ?_⟩
        simp only [aft, ho, List.mem_map, List.mem_filter, Array.mem_toList_iff] at hj
        obtain ⟨e, ⟨he, hb⟩, rfl⟩ := hj
        exact h2 e he hb
      · rintro ⟨⟨r, hr, rfl⟩, h2⟩
        have hi := hlt r hr
        refine ⟨(hl _ hi).2 ⟨r, hr, rfl⟩, ops[r.idx], by simp [hi], fun e he hb => h2 _ ?_⟩
        simp only [aft, Array.getElem?_eq_getElem hi, List.mem_map, List.mem_filter, Array.mem_toList_iff]
        exact ⟨e, ⟨he, hb⟩, rfl⟩
    cases hrs : rs with
    | nil =>
      subst hrs
      have hnil : Region.ready .any ops listed = [] := by
        apply List.eq_nil_iff_forall_not_mem.2
        intro i hi
        obtain ⟨⟨r, hr, _⟩, _⟩ := (hready i).1 hi
        cases hr
      rw [hnil]
      exact ⟨[], by simp, .refl _, hq⟩
    | cons r0 rt =>
      rw [← hrs]
      have h0 : r0 ∈ rs := by rw [hrs]; exact List.mem_cons_self
      have hmem0 : r0.idx ∈ Region.ready .any ops listed := by
        refine (hready _).2 ⟨⟨r0, h0, rfl⟩, fun j hj => ?_⟩
        have hjl := haf r0 h0 j hj
        have hjs : j < ops.size := Nat.lt_trans hjl (hlt r0 h0)
        cases hv : listed.getD j true with
        | false =>
          exfalso
          obtain ⟨r, hr, he⟩ := (hl j hjs).1 hv
          rw [hrs] at hr hsort
          rcases List.mem_cons.1 hr with rfl | hr
          · omega
          · have := (List.pairwise_cons.1 hsort).1 r hr
            omega
        | true =>
          have : j < listed.size := by omega
          simpa [Array.getD, this] using hv
      have hpos : 0 < (Region.ready .any ops listed).length := List.length_pos_of_mem hmem0
      have hmod := Nat.mod_lt t hpos
      rw [List.getElem?_eq_getElem hmod]
      generalize hi : (Region.ready .any ops listed)[t % (Region.ready .any ops listed).length] = i
      have hir : i ∈ Region.ready .any ops listed := by rw [← hi]; exact List.getElem_mem hmod
      obtain ⟨⟨r, hr, rfl⟩, hbef⟩ := (hready i).1 hir
      obtain ⟨pre, post, hsplit⟩ := List.append_of_mem hr
      simp only
      rw [linearise_go_acc]
      have hpre : ∀ p ∈ pre, indep p r ∧ labApart p r := by
        intro p hp
        rw [hsplit] at hpw
        rcases (List.pairwise_append.1 hpw).2.2 p hp r List.mem_cons_self with h | h
        · exfalso
          have := h.listed hcl hbef
          have hp' : p ∈ rs := by rw [hsplit]; exact List.mem_append.2 (.inl hp)
          have h2 := (hl _ (hlt p hp')).2 ⟨p, hp', rfl⟩
          have h3 : p.idx < listed.size := by have := hlt p hp'; omega
          simp [Array.getD, h3] at this h2
          rw [h2] at this; cases this
        · exact h
      have hfront := h_front hF hpre (hsplit ▸ hq)
      have hsub : (pre ++ post).Sublist rs := by rw [hsplit]; exact List.Sublist.append (List.Sublist.refl _) (List.sublist_cons_self _ _)
      have hlen : (pre ++ post).length + 1 = rs.length := by rw [hsplit]; simp; omega
      have hnotin : ∀ q ∈ pre ++ post, q.idx ≠ r.idx := by
        intro q hq he
        rw [hsplit] at hsort
        obtain ⟨_, s2, s3⟩ := List.pairwise_append.1 hsort
        rcases List.mem_append.1 hq with h | h
        · have := s3 q h r List.mem_cons_self; omega
        · have := (List.pairwise_cons.1 s2).1 q h; omega
      have hcl' : ClosedL ops (listed.setIfInBounds r.idx true) := by
        have up : ∀ j, listed.getD j false = true → (listed.setIfInBounds r.idx true).getD j false = true := by
          intro j hj
          by_cases hjr : j = r.idx
          · subst hjr
            have : r.idx < listed.size := by have := hlt r hr; omega
            simp [Array.getD, this]
          · rw [getD_set_ne false (fun h => hjr h.symm)]; exact hj
        intro i hi j hj
        by_cases hir : i = r.idx
        · subst hir; exact up _ (hbef j hj)
        · rw [getD_set_ne false (fun h => hir h.symm)] at hi
          exact up _ (hcl i hi j hj)
      obtain ⟨rs', k1, k2, k3⟩ := lin_okH fuel (t / (Region.ready .any ops listed).length) (listed.setIfInBounds r.idx true) (pre ++ post) (a.put r.dst r.r) (stepH r H) (fun_step hF hfront.1.2.2) hcl' (by omega) (by simpa using hsz) (fun j hj => by
        by_cases hjr : j = r.idx
        · subst hjr
          have : r.idx < listed.size := by omega
          simp only [Array.getD, Array.size_setIfInBounds, this, dif_pos]
          simp only [Array.getInternal_eq_getElem, Array.getElem_setIfInBounds_self, Bool.true_eq_false, false_iff, not_exists, not_and]
          exact fun q hq => hnotin q hq
        · rw [getD_set_ne true (fun h => hjr h.symm), hl j hj]
          constructor
          · rintro ⟨q, hq, rfl⟩
            rw [hsplit] at hq
            refine ⟨q, ?_, rfl⟩
            rcases List.mem_append.1 hq with h | h
            · exact List.mem_append.2 (.inl h)
            · rcases List.mem_cons.1 h with rfl | h
              · exact absurd rfl hjr
              · exact List.mem_append.2 (.inr h)
          · rintro ⟨q, hq, rfl⟩
            exact ⟨q, hsub.subset hq, rfl⟩) (fun q hq => hlt q (hsub.subset hq)) (hsort.sublist hsub) (hpw.sublist hsub) (fun q hq => haf q (hsub.subset hq)) hfront.2
      exact ⟨r :: rs', by rw [List.map_cons, k1]; rfl, by rw [hsplit]; exact (List.Perm.cons r k2).trans List.perm_middle.symm, hfront.1, k3⟩

theorem h_chain : ∀ {rs : List Rec} {a a' : AAct} {H H' : AHeap}, hchain rs a H a' H' → ∃ a'' H'', chain rs a H a'' H'' ∧ (∀ x, x ∈ H' ↔ x ∈ H'') ∧ a''.n = a'.n ∧ ∀ t, lk a'.l t = lk a''.l t
  | [], a, a', H, H', h => ⟨a, H, ⟨rfl, rfl⟩, h.2, h.1.1.symm, h.1.2⟩
  | r :: rs, a, a', H, H', h => by
    obtain ⟨a'', H'', k1, k2, k3, k4⟩ := h_chain h.2
    exact ⟨a'', H'', ⟨⟨h.1.1.1, h.1.2.1, h.1.1.2⟩, k1⟩, k2, k3, k4⟩
theorem fresh_of {n : Nat} : ∀ {rs : List Rec} {L : List Nat}, (∀ r ∈ rs, ∀ l ∈ newLab r, n ≤ l ∧ l ∉ L) → rs.Pairwise (fun p r => ∀ l ∈ newLab p, l ∉ newLab r) → freshL n L rs
  | [], _, _, _ => trivial
  | r :: rs, L, h1, h2 => by
    obtain ⟨p1, p2⟩ := List.pairwise_cons.1 h2
    refine ⟨h1 r List.mem_cons_self, fresh_of (fun q hq l hl => ⟨(h1 q (List.mem_cons_of_mem _ hq) l hl).1, fun hx => ?_⟩) p2⟩
    rcases List.mem_append.1 hx with hx | hx
    · exact p1 q hq l hx hl
    · exact (h1 q (List.mem_cons_of_mem _ hq) l hl).2 hx
end Go.Proofs.Abs
