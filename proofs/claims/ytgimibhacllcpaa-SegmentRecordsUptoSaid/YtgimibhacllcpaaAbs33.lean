/- A range over a function: what a round comes to; the statement. -/
import Derived.Test.YtgimibhacllcpaaAbs32
namespace Go.Proofs.Abs
open Go
set_option linter.unusedVariables false

/-- whatever is called -/
def ATrip (C : Emb → World → List Value → (Ending → World → Prop) → Prop) (args : List AV) (H : AHeap) (r : AV) (H' : AHeap) : Prop :=
  ∀ S i w (vs : List Value), args.length = vs.length → (∀ j (h1 : j < args.length) (h2 : j < vs.length), V S i args[j] vs[j]) → HeapRel S i H w →
    (∀ l ∈ H'.keys, l ∉ H.keys → i l = none) → C i w vs fun e w' => ∃ v, e = .returned v ∧ Post S i H w r H' v w'

theorem ATrip.rename {C C' : Emb → World → List Value → (Ending → World → Prop) → Prop} (hmono : ∀ {i w vs} {R R' : Ending → World → Prop}, C i w vs R → (∀ e w', R e w' → R' e w') → C i w vs R')
    {xs : List AV} {H H' : AHeap} {r : AV} (h : ATrip C xs H r H') (s : Nat → Nat) (hC : ∀ i w vs R, C (fun l => i (s l)) w vs R → C' i w vs R) (K : Nat) (hinj : ∀ a, a < K → ∀ b, b < K → s a = s b → a = b)
    (hr : r.lt K) (hK : ∀ l o, (l, o) ∈ H → l < K) (hK' : ∀ l o, (l, o) ∈ H' → l < K ∧ o.lt K) : ATrip C' (xs.map (AV.ren s)) (H.ren s) (r.ren s) (H'.ren s) := by
  have kH : ∀ {l}, l ∈ H.keys → l < K := fun hl => by obtain ⟨o, ho⟩ := mem_keys.1 hl; exact hK _ _ ho
  have kH' : ∀ {l}, l ∈ H'.keys → l < K := fun hl => by obtain ⟨o, ho⟩ := mem_keys.1 hl; exact (hK' _ _ ho).1
  refine fun S i w vs hvs hv hh hf => hC _ _ _ _ ?_
  have hnew : ∀ l, l ∈ H'.keys → l ∉ H.keys → s l ∈ (H'.ren s).keys ∧ s l ∉ (H.ren s).keys := by
    intro l h1 h2
    refine ⟨keys_ren.2 ⟨l, h1, rfl⟩, fun hx => ?_⟩
    obtain ⟨k, hk, he⟩ := keys_ren.1 hx
    exact h2 (hinj k (kH hk) l (kH' h1) he ▸ hk)
  have hc := h S (fun l => i (s l)) w vs (by simpa using hvs) (fun j h1 h2 => by
    have := hv j (by simpa using h1) h2
    exact this.unren (by simp)) ?_ (fun l h1 h2 => hf _ (hnew l h1 h2).1 (hnew l h1 h2).2)
  · refine hmono hc fun e w' ⟨v, he, S', i', h1, h2, h3, h4, h5⟩ => ⟨v, he, ?_⟩
    classical
    let j : Emb := fun m => if hx : ∃ l, l ∈ H'.keys ∧ l ∉ H.keys ∧ s l = m then i' (Classical.choose hx) else i m
    have jnew : ∀ l, l ∈ H'.keys → l ∉ H.keys → j (s l) = i' l := by
      intro l k1 k2
      have hx : ∃ l', l' ∈ H'.keys ∧ l' ∉ H.keys ∧ s l' = s l := ⟨l, k1, k2, rfl⟩
      simp only [j]
      rw [dif_pos hx]
      obtain ⟨c1, c2, c3⟩ := Classical.choose_spec hx
      rw [hinj _ (kH' c1) l (kH' k1) c3]
    have jold : ∀ l, l < K → ¬ (l ∈ H'.keys ∧ l ∉ H.keys) → j (s l) = i' l := by
      intro l hl hno
      have hx : ¬ ∃ l', l' ∈ H'.keys ∧ l' ∉ H.keys ∧ s l' = s l := by
        rintro ⟨l', c1, c2, c3⟩
        have := hinj l' (kH' c1) l hl c3
        subst this
        exact hno ⟨c1, c2⟩
      simp only [j]
      rw [dif_neg hx]
      cases hi : i' l with
      | none =>
        cases h0 : i (s l) with
        | none => rfl
        | some b => rw [h3 l b h0] at hi; cases hi
      | some b =>
        rcases h5 l b hi with h | h
        · exact h
        · exact absurd h hno
    have jall : ∀ l, l < K → j (s l) = i' l := fun l hl => by
      by_cases hx : l ∈ H'.keys ∧ l ∉ H.keys
      · exact jnew l hx.1 hx.2
      · exact jold l hl hx
    have jup : i.le j := by
      intro m b hb
      simp only [j]
      split
      · rename_i hx
        obtain ⟨c1, c2, c3⟩ := Classical.choose_spec hx
        have := hf _ (hnew _ c1 c2).1 (hnew _ c1 c2).2
        rw [c3] at this
        rw [this] at hb; cases hb
      · exact hb
    have jinv : ∀ m b, j m = some b → i m = some b ∨ ∃ l, l ∈ H'.keys ∧ l ∉ H.keys ∧ s l = m ∧ i' l = some b := by
      intro m b hb
      simp only [j] at hb
      split at hb
      · rename_i hx
        obtain ⟨c1, c2, c3⟩ := Classical.choose_spec hx
        exact .inr ⟨_, c1, c2, c3, hb⟩
      · exact .inl hb
    have hblk : ∀ b, blk (fun l => i (s l)) H b → blk i (H.ren s) b := fun b ⟨l, o, hm, hb⟩ => ⟨s l, _, mem_ren hm, hb⟩
    refine ⟨S', j, V.ren (h1.relabel (K := (· < K)) (fun l hl => jall l hl) hr), ⟨h2.cell, h2.size, fun l o hm => ?_, fun l o l' o' b x y hl hl' => ?_, fun l b hl => ?_⟩, jup,
      ⟨h4.up, h4.grow, fun b hb hx => h4.old b hb fun h => hx (hblk b h), fun a v hv => (h4.newSeal a v hv).imp id (Or.imp (hblk _) id), fun m b hb => ?_, fun b ⟨l, o, hm, hb⟩ => ?_, h4.os, h4.out, h4.tape⟩, fun m b hb => ?_⟩
    · obtain ⟨k, p, hm', rfl, rfl⟩ := of_mem_ren hm
      obtain ⟨hk, hp⟩ := hK' k p hm'
      rcases h2.obj k p hm' with ⟨b, hb, hro⟩ | ⟨q1, q2⟩
      · refine .inl ⟨b, (jall k hk).trans hb, ObjRel.ren ?_⟩
        exact hro.relabel (K := (· < K)) (fun l hl => jall l hl) hp
      · exact .inr ⟨(jall k hk).trans q1, AObj.nil0_ren.2 q2⟩
    · obtain ⟨k, p, hm, rfl, rfl⟩ := of_mem_ren x
      obtain ⟨k', p', hm', rfl, rfl⟩ := of_mem_ren y
      rw [jall k (hK' k p hm).1] at hl
      rw [jall k' (hK' k' p' hm').1] at hl'
      rw [h2.inj k p k' p' b hm hm' hl hl']
    · rcases jinv l b hl with h | ⟨k, _, _, _, h⟩
      · exact Nat.lt_of_lt_of_le (hh.dom l b h) h4.grow
      · exact h2.dom k b h
    · rcases jinv m b hb with h | ⟨k, c1, c2, c3, h⟩
      · exact .inl h
      · rcases h4.newEmb k b h with h | h | h
        · rw [c3] at h; exact .inl h
        · exact .inr (.inl (hblk b h))
        · exact .inr (.inr h)
    · obtain ⟨k, p, hm', rfl, rfl⟩ := of_mem_ren hm
      rw [jall k (hK' k p hm').1] at hb
      exact (h4.sub b ⟨k, p, hm', hb⟩).imp (hblk b) id
    · rcases jinv m b hb with h | ⟨k, c1, c2, c3, h⟩
      · exact .inl h
      · rw [← c3]
        exact .inr (hnew k c1 c2)
  · refine ⟨hh.cell, hh.size, fun l o hm => ?_, fun l o l' o' b x y hl hl' => ?_, fun l b hl => hh.dom _ b hl⟩
    · rcases hh.obj _ _ (mem_ren hm) with ⟨b, hb, hro⟩ | ⟨q1, q2⟩
      · exact .inl ⟨b, hb, hro.unren⟩
      · exact .inr ⟨q1, AObj.nil0_ren.1 q2⟩
    · exact hinj l (hK l o x) l' (hK l' o' y) (hh.inj _ _ _ _ b (mem_ren x) (mem_ren y) hl hl')

/-! ### a round -/
section
variable (P : Program)
def RoundC (lbl : Nat) (i : Emb) (w : World) (vs : List Value) (R : Ending → World → Prop) : Prop :=
  ∀ b r0, i lbl = some b → w.heap[b]? = some (.loop r0) → vs.length = r0.params.size →
    RoundIn Fence.wide 0 P b r0.fn ((r0.params.zip vs.toArray).foldl (fun tmps (t, a) => tmps.setIfInBounds t a) r0.tmps) r0.assign r0.body w R
/-- a call of yield -/
def ARound (lbl : Nat) (args : List AV) (H : AHeap) (r : AV) (H' : AHeap) : Prop :=
  (∃ N sl ps asg bd pend, (lbl, AObj.lp N sl ps asg bd .ready pend) ∈ H ∧ ps.length = args.length) ∧ ATrip (RoundC P lbl) args H r H'
end
section
variable {P : Program}
theorem RoundC.mono {lbl : Nat} {i w vs} {R R' : Ending → World → Prop} (h : RoundC P lbl i w vs R) (hR : ∀ e w', R e w' → R' e w') : RoundC P lbl i w vs R' :=
  fun b r0 h1 h2 h3 => RoundIn.mono (h b r0 h1 h2 h3) hR
theorem ARound.args {lbl : Nat} {xs ys : List AV} {r : AV} {H H' : AHeap} (h : ARound P lbl ys H r H') (hl : xs.length = ys.length) (hs : ∀ j (h1 : j < xs.length) (h2 : j < ys.length), Sub xs[j] ys[j]) : ARound P lbl xs H r H' := by
  obtain ⟨⟨N, sl, ps, asg, bd, pend, h1, h2⟩, h3⟩ := h
  exact ⟨⟨N, sl, ps, asg, bd, pend, h1, h2.trans hl.symm⟩, fun S i w vs hvs hv hh hf => h3 S i w vs (hl ▸ hvs) (fun j h1 h2 => hs j (by omega) h1 _ _ _ (hv j (by omega) h2)) hh hf⟩
theorem ARound.use {lbl : Nat} {xs : List AV} {r : AV} {H H' : AHeap} (h : ARound P lbl xs H r H') (ps : List (Nat × Nat)) (K : Nat) (hchk : useOK ps K H r H' = true) :
    ARound P (sub1 ps lbl) (AV.renL (sub1 ps) xs) (H.ren (sub1 ps)) (r.ren (sub1 ps)) (H'.ren (sub1 ps)) := by
  simp only [useOK, Bool.and_eq_true] at hchk
  obtain ⟨⟨⟨h1, h2⟩, h3⟩, h4⟩ := hchk
  rw [renL_eq]
  obtain ⟨⟨N, sl, qs, asg, bd, pend, k1, k2⟩, h⟩ := h
  refine ⟨⟨N, _, qs, asg, bd, pend, mem_ren k1, by simpa using k2⟩, ATrip.rename (C := RoundC P lbl) (C' := RoundC P (sub1 ps lbl)) (fun h hR => RoundC.mono h hR) h (sub1 ps) (fun i w vs R h b r0 h1 => h b r0 h1) K (fun a ha b hb he => ?_) (AV.lt_of h2) (fun l o hm => Nat.le_of_ble_eq_true (List.all_eq_true.1 h3 _ hm)) (fun l o hm => ?_)⟩
  · have := allB_of (allB_of h1 a ha) b hb
    simp only [Bool.or_eq_true, Bool.not_eq_true'] at this
    rcases this with h | h
    · rw [he, Nat.beq_refl] at h; cases h
    · exact Nat.eq_of_beq_eq_true h
  · have := List.all_eq_true.1 h4 _ hm
    simp only [Bool.and_eq_true] at this
    exact ⟨Nat.le_of_ble_eq_true this.1, AObj.lt_of this.2⟩

/-- THE CALL OF YIELD -/
theorem AOpT.yield {args : List (Nat × AV)} {H H' : AHeap} {r : AV} {g : Arg} {l : List Arg} {lbl : Nat} {vs : List AV} (hg : evA args g = some (.lf lbl)) (hl : allAV (evA args) l = some vs)
    (h : ARound P lbl vs H r H') : AOpT P (.call g l) args H r H' := by
  refine ⟨fun x hx hb => (by subst hx; cases hb), fun o hao => ?_⟩
  obtain ⟨c, fo, hop, hc, hfo, ha⟩ := compOp_call hao
  refine ⟨by simp [hop], fun S i w ρ hev hh hfr => ?_⟩
  obtain ⟨k1, k2⟩ := all_ok ha hl
  have hv := argV hev hfo hg
  generalize hu : ρ fo = u at hv
  cases hv with
  | lf hi =>
    rename_i b
    obtain ⟨⟨N, sl, ps, asg, bd, pend, m1, m2⟩, h⟩ := h
    rcases hh.obj _ _ m1 with ⟨b', hb', hro⟩ | ⟨_, hz⟩
    · rw [hi] at hb'; cases hb'
      obtain ⟨r0, hr0, q1, q2, q3, q4, q5, q6, q7, q8⟩ := hro
      have hsz : (c.args.map ρ).size = r0.params.size := by
        have : c.args.toList.length = vs.length := k1
        have e : r0.params.size = ps.length := by rw [← q2]; simp
        simp only [Array.size_map]
        simp at this; omega
      have hcall := h S i w ((c.args.map ρ).toList) (by simp [← k1]) (fun j h1 h2 => by
        have := k2 hev j h1 (by omega)
        simpa using this) hh hfr b r0 hi hr0 (by simpa using hsz)
      rw [show (c.args.map ρ).toList.toArray = c.args.map ρ from Array.toArray_toList] at hcall
      have hrun : (execOp ρ o).run P w = .ok (.round b r0.fn ((r0.params.zip (c.args.map ρ)).foldl (fun tmps (t, a) => tmps.setIfInBounds t a) r0.tmps) r0.assign r0.body) w := by
        have hy := run_yield (P := P) hr0 hsz
        unfold execOp
        simp only [hop, resolve, hc, hu, Deferred.ofValue, Sem.run_bind]
        simp only [Sem.run_pure, Result.andThen_ok, invoke, Array.empty_append]
        exact hy
      rw [hrun]
      exact hcall
    · exact hz.elim

/-- the end of a body, as the caller sees it -/
theorem post_end {S S' : Seal} {i i'' : Emb} {H H' H'' : AHeap} {w w' : World} {r : AV} {v : Value} {n : Nat} (hh : HeapRel S i H w) (hnew : ∀ l ∈ H'.keys, l ∉ H.keys → i l = none)
    (hr : r.lb fun l => l < n ∨ l ∈ H'.keys ∧ l ∉ H.keys) (hH' : ∀ l o, (l, o) ∈ H' → (l < n ∨ l ∉ H.keys) ∧ o.lb fun l => l < n ∨ l ∈ H'.keys ∧ l ∉ H.keys)
    (hv2 : V S' i'' r v) (rh : HeapRel S' i'' H'' w') (re : ∀ l, l < n → i'' l = i.cut n l) (rt : Tr S (i.cut n) H w S' i'' H'' w') (hsub : ∀ x ∈ H', x ∈ H'') : Post S i H w r H' v w' := by
  classical
  let j : Emb := fun l => if l ∈ H'.keys ∧ l ∉ H.keys then i'' l else i l
  have hj : ∀ l, (l < n ∨ l ∈ H'.keys ∧ l ∉ H.keys) → j l = i'' l := by
    intro l hl
    simp only [j]
    split
    · rfl
    · rename_i hno
      rcases hl with hl | hl
      · rw [re l hl, Emb.cut_of hl]
      · exact absurd hl hno
  have hjle : i.le j := by
    intro l b hl
    simp only [j]
    split
    · rename_i hy
      rw [hnew l hy.1 hy.2] at hl; cases hl
    · exact hl
  have hk : ∀ l o, (l, o) ∈ H' → j l = i'' l := by
    intro l o hm
    refine hj l ?_
    rcases (hH' l o hm).1 with h | h
    · exact .inl h
    · exact .inr ⟨mem_keys.2 ⟨o, hm⟩, h⟩
  have hblk : ∀ b, blk (i.cut n) H b → blk i H b := fun b ⟨l, o, hx, hb⟩ => ⟨l, o, hx, (Emb.cut_some hb).2⟩
  have hjd : ∀ l b, j l = some b → i l = some b ∨ (l ∈ H'.keys ∧ l ∉ H.keys ∧ i'' l = some b) := by
    intro l b hl
    simp only [j] at hl
    split at hl
    · rename_i hy; exact .inr ⟨hy.1, hy.2, hl⟩
    · exact .inl hl
  refine ⟨S', j, hv2.relabel hj hr, ⟨rh.cell, rh.size, fun l o hm => ?_, fun l o l' o' b x y hl hl' => ?_, fun l b hl => ?_⟩, hjle, ⟨rt.up, rt.grow, fun b hb hx => rt.old b hb fun h => hx (hblk b h),
    fun a v hv => (rt.newSeal a v hv).imp id (Or.imp (hblk _) id), fun l b hb => ?_, fun b ⟨l, o, hm, hb⟩ => ?_, rt.os, rt.out, rt.tape⟩, fun l b hl => (hjd l b hl).imp id fun h => ⟨h.1, h.2.1⟩⟩
  · rw [hk l o hm]
    rcases rh.obj l o (hsub _ hm) with ⟨b, hb, hro⟩ | ⟨h1, h2⟩
    · refine .inl ⟨b, hb, ?_⟩
      exact hro.relabel hj (hH' l _ hm).2
    · exact .inr ⟨h1, h2⟩
  · rw [hk l o x] at hl
    rw [hk l' o' y] at hl'
    exact rh.inj l o l' o' b (hsub _ x) (hsub _ y) hl hl'
  · rcases hjd l b hl with h | ⟨_, _, h⟩
    · exact Nat.lt_of_lt_of_le (hh.dom l b h) rt.grow
    · exact rh.dom l b h
  · rcases hjd l b hb with h | ⟨_, _, h⟩
    · exact .inl h
    · exact (rt.newEmb l b h).imp (fun h => (Emb.cut_some h).2) (Or.imp (hblk b) id)
  · rw [hk l o hm] at hb
    exact (rt.sub b ⟨l, o, hsub _ hm, hb⟩).imp (hblk b) id

/-- one object is another one -/
def setH (l : Nat) (o : AObj) : AHeap → AHeap
  | [] => []
  | (k, p) :: r => bif Nat.beq k l then (k, o) :: setH l o r else (k, p) :: setH l o r
theorem mem_setH {l : Nat} {o : AObj} : ∀ {H : AHeap} {k : Nat} {p : AObj}, (k, p) ∈ setH l o H → (k = l ∧ p = o ∧ ∃ q, (l, q) ∈ H) ∨ (k ≠ l ∧ (k, p) ∈ H)
  | [], k, p, h => by cases h
  | (m, q) :: r, k, p, h => by
    simp only [setH] at h
    cases hb : Nat.beq m l with
    | true =>
      rw [hb] at h
      cases Nat.eq_of_beq_eq_true hb
      rcases List.mem_cons.1 h with h | h
      · cases h; exact .inl ⟨rfl, rfl, q, List.mem_cons_self⟩
      · exact (mem_setH h).imp (fun ⟨a, b, c, d⟩ => ⟨a, b, c, List.mem_cons_of_mem _ d⟩) fun ⟨a, b⟩ => ⟨a, List.mem_cons_of_mem _ b⟩
    | false =>
      rw [hb] at h
      rcases List.mem_cons.1 h with h | h
      · cases h; exact .inr ⟨fun e => (by subst e; rw [Nat.beq_refl] at hb; cases hb), List.mem_cons_self⟩
      · exact (mem_setH h).imp (fun ⟨a, b, c, d⟩ => ⟨a, b, c, List.mem_cons_of_mem _ d⟩) fun ⟨a, b⟩ => ⟨a, List.mem_cons_of_mem _ b⟩

/-- a loop's record is written -/
theorem heap_setLp {S : Seal} {i : Emb} {H : AHeap} {w : World} {lbl b : Nat} {o o' : AObj} {r r' : Loop} (hh : HeapRel S i H w) (hl : (lbl, o) ∈ H) (hi : i lbl = some b) (hb : w.heap[b]? = some (.loop r))
    (ho' : ObjRel S i (w.putObj b (.loop r')) b o') : HeapRel S i (setH lbl o' H) (w.putObj b (.loop r')) := by
  refine ⟨fun a v h => cell_putDef hb (by simp) (hh.cell a v h), fun k n h => ?_, fun l p hm => ?_, fun l p l' p' k x y hl1 hl2 => ?_, fun l k h => by simpa using hh.dom l k h⟩
  · obtain ⟨c, e, f, hc, hs⟩ := hh.size k n h
    exact ⟨c, e, f, (World.putObj_heap_other (by rintro rfl; rw [hb] at hc; cases hc)).trans hc, hs⟩
  · rcases mem_setH hm with ⟨rfl, rfl, _⟩ | ⟨hne, hm⟩
    · exact .inl ⟨b, hi, ho'⟩
    · rcases hh.obj l p hm with ⟨k, hk, hro⟩ | h
      · refine .inl ⟨k, hk, hro.later (.refl _) (fun _ _ h => h) (World.putObj_heap_other ?_) (fun a v h _ => h)⟩
        rintro rfl
        exact hne (hh.inj _ _ _ _ _ hm hl hk hi)
      · exact .inr h
  · have k1 : ∃ q, (l, q) ∈ H := by
      rcases mem_setH x with ⟨rfl, _, h⟩ | ⟨_, h⟩
      · exact h
      · exact ⟨_, h⟩
    have k2 : ∃ q, (l', q) ∈ H := by
      rcases mem_setH y with ⟨rfl, _, h⟩ | ⟨_, h⟩
      · exact h
      · exact ⟨_, h⟩
    obtain ⟨q, h1⟩ := k1
    obtain ⟨q', h2⟩ := k2
    exact hh.inj _ _ _ _ k h1 h2 hl1 hl2
theorem tr_setLp {S S' : Seal} {i i' : Emb} {H H' : AHeap} {w w' : World} {lbl b : Nat} {o o' : AObj} {ob : Obj} (t : Tr S i H w S' i' H' w') (hl : (lbl, o) ∈ H') (hi : i' lbl = some b) :
    Tr S i H w S' i' (setH lbl o' H') (w'.putObj b ob) := by
  refine ⟨t.up, by simpa using t.grow, fun k hk hx => ?_, t.newSeal, t.newEmb, fun k ⟨l, p, hm, hk⟩ => ?_, t.os, t.out, t.tape⟩
  · refine (World.putObj_heap_other ?_).trans (t.old k hk hx)
    rintro rfl
    rcases t.sub k ⟨lbl, o, hl, hi⟩ with h | h
    · exact hx h
    · omega
  · rcases mem_setH hm with ⟨rfl, _, q, h⟩ | ⟨_, h⟩
    · exact t.sub k ⟨_, q, h, hk⟩
    · exact t.sub k ⟨_, _, h, hk⟩

def putArgs : List Nat → List AV → List (Nat × AV) → List (Nat × AV)
  | p :: ps, a :: as, l => putArgs ps as ((p, a) :: l)
  | _, _, l => l
theorem putArgs_rel {S : Seal} {i : Emb} {N : Nat} {ds : List Deferred} : ∀ {ps : List Nat} {as : List AV} {vs : List Value} {l : List (Nat × AV)} {tm : Array Value}, ActRel S i ⟨N, l⟩ { tmps := tm, defers := ds } → ps.length = as.length → as.length = vs.length →
    (∀ p ∈ ps, p < N) → (∀ j (h1 : j < as.length) (h2 : j < vs.length), V S i as[j] vs[j]) →
    ActRel S i ⟨N, putArgs ps as l⟩ { tmps := (ps.zip vs).foldl (fun tmps (t, a) => tmps.setIfInBounds t a) tm, defers := ds }
  | [], [], [], l, tm, h, _, _, _, _ => h
  | p :: ps, a :: as, v :: vs, l, tm, h, h1, h2, h3, h4 => by
    simp only [putArgs, List.zip_cons_cons, List.foldl_cons]
    have hv := h4 0 (by simp) (by simp)
    have := h.put (dst := some p) hv (fun t ht => by cases ht; exact h3 p List.mem_cons_self)
    exact putArgs_rel this (by simpa using h1) (by simpa using h2) (fun q hq => h3 q (List.mem_cons_of_mem _ hq)) (fun j k1 k2 => h4 (j + 1) (by simpa using k1) (by simpa using k2))

def jumpOf : Exit → Option (Option Code)
  | .normal => some none
  | .ret => some (some .ret)
  | .exit id => some (some (.exit id))
  | _ => none
/-- how a round ends well -/
def RoundS (lbl : Nat) (r : AV) (H' : AHeap) : Exit → AAct → AHeap → Nat → Prop := fun ex a H _ =>
  ∃ jump N sl ps asg bd st pend, jumpOf ex = some jump ∧ lkH H lbl = some (.lp N sl ps asg bd st pend) ∧ r = .d (.bool jump.isNone) ∧
    ∀ x ∈ H', x ∈ setH lbl (.lp N sl ps asg bd (bif jump.isNone then .ready else .done) jump) H

theorem around_of_body {lbl N : Nat} {sl : List (Nat × AV)} {ps : List Nat} {asg bd : Code} {pend : Option Code} {args : List AV} {H H' : AHeap} {r : AV} (n : Nat) (hlp : (lbl, AObj.lp N sl ps asg bd .ready pend) ∈ H)
    (hargs : ∀ x ∈ args, x.lt n) (hH : ∀ l o, (l, o) ∈ H → l < n ∧ o.lt n) (hr : r.lb fun l => l < n ∨ l ∈ H'.keys ∧ l ∉ H.keys)
    (hH' : ∀ l o, (l, o) ∈ H' → (l < n ∨ l ∉ H.keys) ∧ o.lb fun l => l < n ∨ l ∈ H'.keys ∧ l ∉ H.keys) (hps : ps.length = args.length) (hpN : ∀ p ∈ ps, p < N)
    (hb : ∀ ro, AW P ro n asg ⟨N, putArgs ps args sl⟩ H n (fun ex a H1 n1 => ex = .normal ∧ lkH H1 lbl = some (.lp N sl ps asg bd .ready pend) ∧
      AW P ro n bd a (setH lbl (.lp N sl ps asg bd .busy pend) H1) n1 (RoundS lbl r H'))) : ARound P lbl args H r H' := by
  refine ⟨⟨N, sl, ps, asg, bd, pend, hlp, hps⟩, fun S i w vs hlen hvs hh hnew b r0 hib hr0 hsz => ?_⟩
  obtain ⟨hl, ho⟩ := hH _ _ hlp
  rcases hh.obj _ _ hlp with ⟨b', hb', hro⟩ | ⟨_, hz⟩
  case inr => exact hz.elim
  rw [hib] at hb'; cases hb'
  obtain ⟨r1, hr1, q1, q2, q3, q4, q5, q6, q7, q8⟩ := hro
  rw [hr0] at hr1; cases hr1
  have hfw : fen (some b) = Fence.wide.inRound b := rfl
  have hcut : HeapRel S (i.cut n) H w := by
    refine ⟨hh.cell, hh.size, fun l o hm => ?_, fun l o l' o' b x y hl hl' => hh.inj l o l' o' b x y (Emb.cut_some hl).2 (Emb.cut_some hl').2, fun l b hl => hh.dom l b (Emb.cut_some hl).2⟩
    obtain ⟨hl, ho⟩ := hH l o hm
    rcases hh.obj l o hm with ⟨b, hb, hr⟩ | ⟨hn, ho'⟩
    case inr => exact .inr ⟨by rw [Emb.cut_of hl]; exact hn, ho'⟩
    refine .inl ⟨b, by rw [Emb.cut_of hl]; exact hb, ?_⟩
    exact hr.relabel (fun _ hl => Emb.cut_of hl) ho
  have hact : ActRel S (i.cut n) ⟨N, putArgs ps args sl⟩ { tmps := (r0.params.zip vs.toArray).foldl (fun tmps (t, a) => tmps.setIfInBounds t a) r0.tmps, defers := [] } := by
    have e : (r0.params.zip vs.toArray).foldl (fun tmps (t, a) => tmps.setIfInBounds t a) r0.tmps = (ps.zip vs).foldl (fun tmps (t, a) => tmps.setIfInBounds t a) r0.tmps := by
      rw [← Array.foldl_toList]
      congr 1
      rw [Array.toList_zip, q2]
    rw [e]
    refine putArgs_rel ⟨q1, fun t x hx => ?_⟩ hps hlen hpN fun j h1 h2 => (hvs j h1 h2).cut (hargs _ (List.getElem_mem h1))
    exact (q7 _ (lk_mem hx)).cut (ho _ (lk_mem hx))
  refine roundIn_of_wpIn trivial ?_
  rw [q3]
  have hw := hb (some b) S (i.cut n) w _ hact hcut (fun l b h => (Emb.cut_some h).1)
  rw [hfw] at hw
  refine wpIn_mono hw ?_
  rintro ex ca1 w1 ⟨a1, H1, n1, S1, i1, ⟨rfl, hlk, hbody⟩, ra, rd, rh, rn, re, rt⟩
  have hm1 := lkH_mem hlk
  have hi1 : i1 lbl = some b := by rw [re lbl hl, Emb.cut_of hl]; exact hib
  rcases rh.obj _ _ hm1 with ⟨b', hb', hro1⟩ | ⟨_, hz⟩
  case inr => exact hz.elim
  rw [hi1] at hb'; cases hb'
  obtain ⟨r2, hr2, p1, p2, p3, p4, p5, p6, p7, p8⟩ := hro1
  refine ⟨_, run_beginRound hr2 p5, ?_⟩
  have hlt : b < w1.heap.size := (Array.getElem?_eq_some_iff.1 hr2).1
  have hh2 : HeapRel S1 i1 (setH lbl (.lp N sl ps asg bd .busy pend) H1) (w1.putObj b (.loop { r2 with state := .busy })) :=
    heap_setLp rh hm1 hi1 hr2 ⟨_, World.putObj_heap_same hlt, p1, p2, p3, p4, rfl, p6, p7, p8⟩
  have ht2 := tr_setLp (o' := .lp N sl ps asg bd .busy pend) (ob := .loop { r2 with state := .busy }) rt hm1 hi1
  rw [q4]
  have hw2 := hbody S1 i1 _ ca1 ra hh2 rn
  rw [hfw] at hw2
  refine wpIn_mono hw2 ?_
  rintro ex ca2 w2 ⟨a2, H2, n2, S2, i2, ⟨jump, N', sl', ps', asg', bd', st', pend', hj, hlk2, hre, hsub⟩, ra2, rd2, rh2, rn2, re2, rt2⟩
  subst hre
  have hm2 := lkH_mem hlk2
  have hi2 : i2 lbl = some b := by rw [re2 lbl hl]; exact hi1
  rcases rh2.obj _ _ hm2 with ⟨b', hb', hro2⟩ | ⟨_, hz⟩
  case inr => exact hz.elim
  rw [hi2] at hb'; cases hb'
  obtain ⟨r3, hr3, s1, s2, s3, s4, s5, s6, s7, s8⟩ := hro2
  have hlt2 : b < w2.heap.size := (Array.getElem?_eq_some_iff.1 hr3).1
  have fin : ∀ jump' : Option Code, jump = jump' → ∃ v w', (Instr.endRound b jump').run P w2 = .ok v w' ∧ ∃ v', Ending.returned v = .returned v' ∧ Post S i H w (.d (.bool jump.isNone)) H' v' w' := by
    intro jump' hjj
    subst hjj
    refine ⟨_, _, run_endRound _ hr3, _, rfl, ?_⟩
    have hh3 : HeapRel S2 i2 (setH lbl (.lp N' sl' ps' asg' bd' (bif jump.isNone then .ready else .done) jump) H2) (w2.putObj b (.loop { r3 with state := if jump.isNone then .ready else .done, pending := jump })) :=
      heap_setLp rh2 hm2 hi2 hr3 ⟨_, World.putObj_heap_same hlt2, s1, s2, s3, s4, by cases jump <;> rfl, rfl, s7, s8⟩
    have ht3 := tr_setLp (o' := .lp N' sl' ps' asg' bd' (bif jump.isNone then .ready else .done) jump) (ob := .loop { r3 with state := if jump.isNone then .ready else .done, pending := jump }) (ht2.trans rt2) hm2 hi2
    exact post_end hh hnew hr hH' (.d .bool) hh3 (fun l hl => (re2 l hl).trans (re l hl)) ht3 hsub
  cases ex <;> simp only [jumpOf, Option.some.injEq, reduceCtorEq] at hj
  · exact fin _ hj.symm
  · exact fin _ hj.symm
  · exact fin _ hj.symm
end
end Go.Proofs.Abs
