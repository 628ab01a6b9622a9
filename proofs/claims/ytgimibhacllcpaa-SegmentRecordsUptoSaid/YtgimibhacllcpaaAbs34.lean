/- The statement that ranges over a function. -/
import Derived.Test.YtgimibhacllcpaaAbs33
namespace Go.Proofs.Abs
open Go
set_option linter.unusedVariables false
section
variable {P : Program}

theorem restH_keys {ls : List Nat} {H : AHeap} {l : Nat} (h : l ∈ (restH ls H).keys) : l ∉ ls := by
  obtain ⟨o, ho⟩ := mem_keys.1 h
  exact (mem_restH.1 ho).2
/-- a loop's record is done with -/
theorem heap_dropLp {S : Seal} {i : Emb} {H : AHeap} {w : World} {lbl b : Nat} {o : AObj} {r r' : Loop} (hh : HeapRel S i H w) (hl : (lbl, o) ∈ H) (hi : i lbl = some b) (hb : w.heap[b]? = some (.loop r)) :
    HeapRel S i (restH [lbl] H) (w.putObj b (.loop r')) := by
  refine ⟨fun a v h => cell_putDef hb (by simp) (hh.cell a v h), fun k n h => ?_, fun l p hm => ?_, fun l p l' p' k x y => hh.inj l p l' p' k (mem_restH.1 x).1 (mem_restH.1 y).1, fun l k h => by simpa using hh.dom l k h⟩
  · obtain ⟨c, e, f, hc, hs⟩ := hh.size k n h
    exact ⟨c, e, f, (World.putObj_heap_other (by rintro rfl; rw [hb] at hc; cases hc)).trans hc, hs⟩
  · obtain ⟨hm, hne⟩ := mem_restH.1 hm
    rcases hh.obj l p hm with ⟨k, hk, hro⟩ | h
    · refine .inl ⟨k, hk, hro.later (.refl _) (fun _ _ h => h) (World.putObj_heap_other ?_) (fun a v h _ => h)⟩
      rintro rfl
      exact hne (by simpa using hh.inj _ _ _ _ _ hm hl hk hi)
    · exact .inr h

/-- a loop's record is laid -/
theorem heap_newLp {S : Seal} {i : Emb} {H : AHeap} {w : World} {n : Nat} {o : AObj} {q : Obj} {r : Loop} (hh : HeapRel S i H w) (hn : ∀ l b, i l = some b → l < n)
    (ho : ObjRel S (i.set n (w.heap.size + 1)) ((w.alloc q).alloc (.loop r)) (w.heap.size + 1) o) : HeapRel S (i.set n (w.heap.size + 1)) ((n, o) :: restH [n] H) ((w.alloc q).alloc (.loop r)) := by
  have hnn : i n = none := by
    cases hi : i n with
    | none => rfl
    | some b => have := hn n b hi; omega
  have old : ∀ b, b < w.heap.size → ((w.alloc q).alloc (.loop r)).heap[b]? = w.heap[b]? := by
    intro b hb
    show ((w.heap.push q).push (.loop r))[b]? = _
    rw [Array.getElem?_push, Array.getElem?_push]
    simp
    rw [if_neg (by omega), if_neg (by omega)]
  have hsz : ((w.alloc q).alloc (.loop r)).heap.size = w.heap.size + 2 := by
    show ((w.heap.push q).push (.loop r)).size = _
    simp
  have hle : i.le (i.set n (w.heap.size + 1)) := Emb.set_le hnn
  have hset : ∀ {l b}, i.set n (w.heap.size + 1) l = some b → (l = n ∧ b = w.heap.size + 1) ∨ (l ≠ n ∧ i l = some b) := by
    intro l b h
    unfold Emb.set at h
    split at h
    · cases h; exact .inl ⟨by assumption, rfl⟩
    · exact .inr ⟨by assumption, h⟩
  have hcell : ∀ a v, S.cell a = some v → ((w.alloc q).alloc (.loop r)).cell? a = some v := by
    intro a v h
    have h1 := hh.cell a v h
    have h2 : a.block < w.heap.size := by
      rcases Nat.lt_or_ge a.block w.heap.size with h | h'
      · exact h
      · rw [hh.noSeal h'] at h; cases h
    unfold World.cell? at *
    rw [old _ h2]; exact h1
  refine ⟨hcell, fun k m h => ?_, fun l p hm => ?_, fun l p l' p' k x y h1 h2 => ?_, fun l k h => ?_⟩
  · obtain ⟨c, e, f, hc, hs⟩ := hh.size k m h
    have hk : k < w.heap.size := (Array.getElem?_eq_some_iff.1 hc).1
    exact ⟨c, e, f, (old k hk).trans hc, hs⟩
  · rcases List.mem_cons.1 hm with hm | hm
    · cases hm; exact .inl ⟨_, by simp [Emb.set], ho⟩
    · obtain ⟨hm, hne⟩ := mem_restH.1 hm
      rcases hh.obj l p hm with ⟨k, hk, hro⟩ | ⟨h1, h2⟩
      · exact .inl ⟨k, hle _ _ hk, hro.later (.refl _) hle (old k (hh.dom l k hk)) (fun a v h _ => h)⟩
      · refine .inr ⟨?_, h2⟩
        unfold Emb.set
        rw [if_neg (by simpa using hne)]
        exact h1
  · rcases List.mem_cons.1 x with x | x <;> rcases List.mem_cons.1 y with y | y
    · cases x; cases y; rfl
    · cases x
      obtain ⟨y, hne⟩ := mem_restH.1 y
      rcases hset h1 with ⟨_, rfl⟩ | ⟨h, _⟩
      · rcases hset h2 with ⟨h, _⟩ | ⟨_, h⟩
        · exact h.symm
        · have := hh.dom _ _ h; omega
      · exact absurd rfl h
    · cases y
      obtain ⟨x, hne⟩ := mem_restH.1 x
      rcases hset h2 with ⟨_, rfl⟩ | ⟨h, _⟩
      · rcases hset h1 with ⟨h, _⟩ | ⟨_, h⟩
        · exact h
        · have := hh.dom _ _ h; omega
      · exact absurd rfl h
    · obtain ⟨x, n1⟩ := mem_restH.1 x
      obtain ⟨y, n2⟩ := mem_restH.1 y
      rcases hset h1 with ⟨rfl, _⟩ | ⟨_, h1⟩
      · simp at n1
      rcases hset h2 with ⟨rfl, _⟩ | ⟨_, h2⟩
      · simp at n2
      exact hh.inj _ _ _ _ k x y h1 h2
  · rw [hsz]
    rcases hset h with ⟨_, rfl⟩ | ⟨_, h⟩
    · omega
    · have := hh.dom l k h; omega

/-- where the run goes on behind a range over a function -/
def jumpQ (Q : Exit → AAct → AHeap → Nat → Prop) : Option Code → AAct → AHeap → Nat → Prop
  | none, a, H, n => Q .normal a H n
  | some .ret, a, H, n => Q .ret a H n
  | some (.exit id), a, H, n => Q (.exit id) a H n
  | _, _, _, _ => False

def notBusy : LoopState → Bool
  | .busy => false
  | _ => true


theorem restH_no {n : Nat} {H : AHeap} (h : hasK n H = false) : restH [n] H = H := by
  unfold restH
  rw [List.filter_eq_self]
  intro x hx
  have : x.1 ≠ n := by
    rintro rfl
    have : hasK x.1 H = true := hasK_iff.2 (mem_keys.2 ⟨x.2, hx⟩)
    rw [h] at this; cases this
  simp [this]
def dropK (n : Nat) : AHeap → AHeap
  | [] => []
  | (k, o) :: r => bif Nat.beq k n then dropK n r else (k, o) :: dropK n r
theorem dropK_eq {n : Nat} : ∀ {H : AHeap}, dropK n H = restH [n] H
  | [] => rfl
  | (k, o) :: r => by
    simp only [dropK, restH, List.filter_cons]
    have ih := dropK_eq (n := n) (H := r)
    cases hb : Nat.beq k n with
    | true =>
      cases Nat.eq_of_beq_eq_true hb
      simpa [restH] using ih
    | false =>
      have : k ≠ n := fun e => by subst e; rw [Nat.beq_refl] at hb; cases hb
      simpa [this, restH] using ih

/-- what is asked of the call, and of what comes behind -/
def RFok (P : Program) (N n : Nat) (l sl : List (Nat × AV)) (H : AHeap) (ps : List Nat) (f : FuncId) (ws : List AV) (Q : Exit → AAct → AHeap → Nat → Prop) (asg bd : Code) : Prop :=
  ∃ hin hout r N' sl' ps' asg' bd' st pend, ACalls P f ws hin r hout ∧ (∀ x ∈ hin, x ∈ (n, AObj.lp N sl ps asg bd .ready none) :: H) ∧ newOK (n + 1) hin hout = true ∧
    lkH hout n = some (.lp N' sl' ps' asg' bd' st pend) ∧ st ≠ .busy ∧ jumpQ Q pend ⟨N, l⟩ (dropK n (appK hout (restK hin hout ((n, .lp N sl ps asg bd .ready none) :: H)))) (topK (n + 1) hout)
theorem rfOK {N n : Nat} {l sl : List (Nat × AV)} {H : AHeap} {ps : List Nat} {f : FuncId} {ws ys : List AV} {Q : Exit → AAct → AHeap → Nat → Prop} {asg bd : Code} {hin hout H' : AHeap} {r : AV} {N' : Nat} {sl' : List (Nat × AV)} {ps' : List Nat} {asg' bd' : Code}
    {st : LoopState} {pend : Option Code} {c' : Nat} (hcall : ACalls P f ys hin r hout) (hsub : SubL ws ys) (hin' : HasAll ((n, AObj.lp N sl ps asg bd .ready none) :: H) hin) (hn : newOK (n + 1) hin hout = true)
    (hlp : lkH hout n = some (.lp N' sl' ps' asg' bd' st pend)) (hst : notBusy st = true) (hH : dropK n (appK hout (restK hin hout ((n, .lp N sl ps asg bd .ready none) :: H))) = H') (hc : topK (n + 1) hout = c')
    (hQ : jumpQ Q pend ⟨N, l⟩ H' c') : RFok P N n l sl H ps f ws Q asg bd := by
  subst hH hc
  exact ⟨hin, hout, r, N', sl', ps', asg', bd', st, pend, hcall.args hsub.get.1 hsub.get.2, fun x hx => lkH_mem (hin'.get x hx), hn, hlp, (by rintro rfl; cases hst), hQ⟩
/-- slots that are there -/
def slIn (l : List (Nat × AV)) : List (Nat × AV) → Prop
  | [] => True
  | (t, v) :: r => lk l t = some v ∧ slIn l r
theorem slIn.get {l : List (Nat × AV)} : ∀ {sl : List (Nat × AV)}, slIn l sl → ∀ x ∈ sl, lk l x.1 = some x.2
  | [], _, x, h => by cases h
  | (t, v) :: r, h, x, hx => by
    rcases List.mem_cons.1 hx with rfl | hx
    · exact h.1
    · exact slIn.get h.2 x hx

/-- THE STATEMENT -/
theorem AWc.rangeFunc {g : Arg} {ps : List Nat} {A B : ACode} {N n m : Nat} {l : List (Nat × AV)} (sl : List (Nat × AV)) {H : AHeap} {Q : Exit → AAct → AHeap → Nat → Prop} {fv : AV} {f : FuncId} {ws : List AV}
    (hm : Nat.ble m n = true) (hno : hasK n H = false) (hg : evA l g = some fv) (hco : callOf fv [.lf n] = some (f, ws)) (hsl : slIn l sl)
    (h : ∀ asg bd, compCode P asg = A → compCode P bd = B → RFok P N n l sl H ps f ws Q asg bd) : AWc P none m (.rangeFunc g ps A B) ⟨N, l⟩ H n Q := by
  intro cc hcc
  cases cc <;> simp only [compCode] at hcc
  case rangeFunc g0 ps0 asg bd =>
    split at hcc <;> cases hcc
    rename_i hg1
    obtain ⟨hin, hout, r, N', sl', ps', asg', bd', st, pend, hcall, hsub, hn, hlp, hst, hQ⟩ := h asg bd rfl rfl
    have hm' := Nat.le_of_ble_eq_true hm
    intro S i w ca hact hh hd
    have hev := hact.eval ((evA_of hg1).trans hg)
    have hnn : i n = none := by
      cases hi : i n with
      | none => rfl
      | some b => have := hd n b hi; omega
    have hle : i.le (i.set n (w.heap.size + 1)) := Emb.set_le hnn
    have hinn : i.set n (w.heap.size + 1) n = some (w.heap.size + 1) := by simp [Emb.set]
    refine wpIn_rangeFunc fun fn _ => ?_
    let w1 : World := (w.alloc (.deferred (some []))).alloc (.loop { state := .ready, pending := none, fn, tmps := ca.tmps, params := ps0, assign := asg, body := bd, defers := w.heap.size })
    have hw1 : w1.heap[w.heap.size + 1]? = some (.loop { state := .ready, pending := none, fn, tmps := ca.tmps, params := ps0, assign := asg, body := bd, defers := w.heap.size }) := by
      have := World.alloc_heap_new (w.alloc (.deferred (some []))) (.loop { state := .ready, pending := none, fn, tmps := ca.tmps, params := ps0, assign := asg, body := bd, defers := w.heap.size })
      rwa [World.size_alloc] at this
    have hw0 : w1.heap[w.heap.size]? = some (.deferred (some [])) := by
      show ((w.heap.push _).push _)[w.heap.size]? = _
      simp [Array.getElem?_push]
    have hsz : w1.heap.size = w.heap.size + 2 := by
      show ((w.heap.push _).push _).size = _
      simp
    have hold : ∀ b, b < w.heap.size → w1.heap[b]? = w.heap[b]? := by
      intro b hb
      show ((w.heap.push _).push _)[b]? = _
      rw [Array.getElem?_push, Array.getElem?_push]
      simp
      rw [if_neg (by omega), if_neg (by omega)]
    have hh1 : HeapRel S (i.set n (w.heap.size + 1)) ((n, .lp N sl ps0.toList asg bd .ready none) :: H) w1 := by
      have := heap_newLp (o := .lp N sl ps0.toList asg bd .ready none) (q := .deferred (some [])) (r := { state := .ready, pending := none, fn, tmps := ca.tmps, params := ps0, assign := asg, body := bd, defers := w.heap.size }) hh hd
        ⟨_, hw1, hact.size, rfl, rfl, rfl, rfl, rfl, fun x hx => ((hact.get x.1 _ (hsl.get x hx)).mono (.refl _) hle), fun a ha => hh.noSeal (by omega)⟩
      rwa [restH_no hno] at this
    -- the call
    have hws : ∃ cs : List Value, ca.eval g0 = .func (.func f) #[] cs.toArray ∧ ws.length = (Value.func (.yield (w.heap.size + 1)) #[] #[] :: cs).length ∧
        ∀ j (h1 : j < ws.length) (h2 : j < (Value.func (.yield (w.heap.size + 1)) #[] #[] :: cs).length), V S (i.set n (w.heap.size + 1)) ws[j] (Value.func (.yield (w.heap.size + 1)) #[] #[] :: cs)[j] := by
      unfold callOf at hco
      split at hco <;> cases hco
      · generalize hu : ca.eval g0 = u at hev
        cases vD hev
        exact ⟨[], rfl, rfl, fun j h1 h2 => by
          cases j with
          | zero => exact .lf hinn
          | succ j => simp at h1⟩
      · generalize hu : ca.eval g0 = u at hev
        cases hev with
        | fn hl hv =>
          refine ⟨_, rfl, by simp [hl], fun j h1 h2 => ?_⟩
          cases j with
          | zero => exact .lf hinn
          | succ j =>
            have := hv j (by simpa using h1) (by simpa using h2)
            exact this.mono (.refl _) hle
    obtain ⟨cs, hcs, hlen, hvs⟩ := hws
    have hinr : HeapRel S (i.set n (w.heap.size + 1)) (hin ++ restH (hin.keys ++ hout.keys) ((n, .lp N sl ps0.toList asg bd .ready none) :: H)) w1 := by
      refine hh1.perm fun x hx => ?_
      rcases List.mem_append.1 hx with hx | hx
      · exact hsub x hx
      · exact (mem_restH.1 hx).1
    have hnew : ∀ k ∈ hout.keys, k ∉ hin.keys → i.set n (w.heap.size + 1) k = none := by
      intro k h1 h2
      rcases newOK_iff hn k h1 with h | h
      · unfold Emb.set
        rw [if_neg (by omega)]
        cases hi : i k with
        | none => rfl
        | some b => have := hd k b hi; omega
      · exact absurd h h2
    have hc := hcall.2 S (i.set n (w.heap.size + 1)) w1 _ hlen hvs (hinr.perm fun x hx => List.mem_append.2 (.inl hx)) hnew
    refine ⟨w.heap.size + 1, [markOf w.heap.size], w1, { target := .fn (.func f) cs.toArray, args := #[.func (.yield (w.heap.size + 1)) #[] #[]] }, w1, f, #[.func (.yield (w.heap.size + 1)) #[] #[]] ++ cs.toArray, w1,
      run_enterLoop_outer .., ?_, fun _ _ => trivial, ?_, fun h => (by cases h), ?_⟩
    · simp [resolve, hcs, Deferred.ofValue]
      rfl
    · obtain ⟨fn', hf, hnm, hb⟩ := hcall.1
      have h1 : ¬ fn'.name = "runtime.NumGoroutine" := by simpa using hnm
      have h2 : ¬ fn'.body = none := by cases hx : fn'.body <;> simp_all
      simp [invoke, callFunc, hf, h1, h2]
    refine callsIn_wide.2 ?_
    rw [show (#[.func (.yield (w.heap.size + 1)) #[] #[]] ++ cs.toArray : Array Value) = (Value.func (.yield (w.heap.size + 1)) #[] #[] :: cs).toArray by simp]
    refine Calls.mono hc ?_
    rintro e w3 ⟨v, rfl, S', i', hv, hh3, hle3, ht3, hn3⟩
    have hdis : ∀ k ∈ hin.keys, k ∉ (restH (hin.keys ++ hout.keys) ((n, .lp N sl ps0.toList asg bd .ready none) :: H)).keys := fun k hk hx => restH_keys hx (List.mem_append.2 (.inl hk))
    have hdis' : ∀ k ∈ hout.keys, k ∉ (restH (hin.keys ++ hout.keys) ((n, .lp N sl ps0.toList asg bd .ready none) :: H)).keys := fun k hk hx => restH_keys hx (List.mem_append.2 (.inr hk))
    have hfr := HeapRel.frame hinr hdis hh3 hle3 hn3 hdis' ht3
    have htr := Tr.frame (F := restH (hin.keys ++ hout.keys) ((n, .lp N sl ps0.toList asg bd .ready none) :: H)) ht3 (fun k o b hm hb => by
      rcases hn3 k b hb with h | h
      · exact h
      · exact absurd (mem_keys.2 ⟨o, hm⟩) (hdis' k h.1))
    have hlpm : (n, AObj.lp N' sl' ps' asg' bd' st pend) ∈ hout ++ restH (hin.keys ++ hout.keys) ((n, .lp N sl ps0.toList asg bd .ready none) :: H) := List.mem_append.2 (.inl (lkH_mem hlp))
    have hin3 : i' n = some (w.heap.size + 1) := hle3 _ _ hinn
    rcases hfr.obj _ _ hlpm with ⟨b', hb', hro⟩ | ⟨_, hz⟩
    case inr => exact hz.elim
    rw [hin3] at hb'; cases hb'
    obtain ⟨r3, hr3, s1, s2, s3, s4, s5, s6, s7, s8⟩ := hro
    refine ⟨_, _, run_endLoop hr3 (by rw [s5]; exact hst), ?_⟩
    have hh4 : HeapRel S' i' (restH [n] (hout ++ restH (hin.keys ++ hout.keys) ((n, .lp N sl ps0.toList asg bd .ready none) :: H))) (w3.putObj (w.heap.size + 1) (.loop { r3 with state := .exhausted })) :=
      heap_dropLp hfr hlpm hin3 hr3
    have hH4 : dropK n (appK hout (restK hin hout ((n, .lp N sl ps0.toList asg bd .ready none) :: H))) = restH [n] (hout ++ restH (hin.keys ++ hout.keys) ((n, .lp N sl ps0.toList asg bd .ready none) :: H)) := by
      rw [dropK_eq, appK_eq, restK_eq]
    rw [hH4] at hQ
    have hact4 : ActRel S' i' ⟨N, l⟩ ca := hact.mono ht3.up (fun k b h => hle3 _ _ (hle _ _ h))
    -- the road from w to w3, and on
    have hblk0 : ∀ b, blk (i.set n (w.heap.size + 1)) (hin ++ restH (hin.keys ++ hout.keys) ((n, .lp N sl ps0.toList asg bd .ready none) :: H)) b → blk i H b ∨ b = w.heap.size + 1 := by
      rintro b ⟨k, o, hm, hb⟩
      have hm' : (k, o) ∈ (n, AObj.lp N sl ps0.toList asg bd .ready none) :: H := by
        rcases List.mem_append.1 hm with hm | hm
        · exact hsub _ hm
        · exact (mem_restH.1 hm).1
      unfold Emb.set at hb
      split at hb
      · cases hb; exact .inr rfl
      · rename_i hne
        rcases List.mem_cons.1 hm' with h | h
        · cases h; exact absurd rfl hne
        · exact .inl ⟨k, o, h, hb⟩
    have hD : (w3.putObj (w.heap.size + 1) (.loop { r3 with state := .exhausted })).heap[w.heap.size]? = some (.deferred (some [])) := by
      rw [World.putObj_heap_other (by omega), htr.old _ (by omega) ?_, hw0]
      intro hx
      rcases hblk0 _ hx with ⟨k, o, _, hb⟩ | h
      · have := hh.dom _ _ hb; omega
      · omega
    have htr4 : Tr S i H w S' i' (restH [n] (hout ++ restH (hin.keys ++ hout.keys) ((n, .lp N sl ps0.toList asg bd .ready none) :: H))) (w3.putObj (w.heap.size + 1) (.loop { r3 with state := .exhausted })) := by
      refine ⟨htr.up, by have := htr.grow; simp; omega, fun b hb hx => ?_, fun a v hv => ?_, fun k b hb => ?_, fun b ⟨k, o, hm, hb⟩ => ?_, htr.os, htr.out, htr.tape⟩
      · rw [World.putObj_heap_other (by omega), htr.old b (by omega) ?_, hold b hb]
        intro h
        rcases hblk0 _ h with h | h
        · exact hx h
        · omega
      · rcases htr.newSeal a v hv with h | h | h
        · exact .inl h
        · rcases hblk0 _ h with h | h
          · exact .inr (.inl h)
          · exact .inr (.inr (by omega))
        · exact .inr (.inr (by omega))
      · rcases htr.newEmb k b hb with h | h | h
        · unfold Emb.set at h
          split at h
          · cases h; exact .inr (.inr (by omega))
          · exact .inl h
        · rcases hblk0 _ h with h | h
          · exact .inr (.inl h)
          · exact .inr (.inr (by omega))
        · exact .inr (.inr (by omega))
      · rcases htr.sub b ⟨k, o, (mem_restH.1 hm).1, hb⟩ with h | h
        · rcases hblk0 _ h with h | h
          · exact .inl h
          · exact .inr (by omega)
        · exact .inr (by omega)
    have hdom4 : ∀ k b, i' k = some b → k < topK (n + 1) hout := by
      intro k b hb
      obtain ⟨t1, t2⟩ := topK_le (c := n + 1) (H := hout)
      rcases hn3 k b hb with h | h
      · unfold Emb.set at h
        split at h
        · omega
        · have := hd k b h; omega
      · exact t2 k h.1
    have hag : ∀ k, k < m → i' k = i k := by
      intro k hk
      cases hi : i' k with
      | none =>
        cases h0 : i k with
        | none => rfl
        | some b => rw [hle3 _ _ (hle _ _ h0)] at hi; cases hi
      | some b =>
        rcases hn3 k b hi with h | h
        · unfold Emb.set at h
          rw [if_neg (by omega)] at h
          exact h.symm
        · rcases newOK_iff hn k h.1 with h' | h'
          · omega
          · exact absurd h' h.2
    have hmk : Marks w (w3.putObj (w.heap.size + 1) (.loop { r3 with state := .exhausted })) ca.defers ([markOf w.heap.size] ++ ca.defers) :=
      ⟨[w.heap.size], by simp, rfl, fun D hD' => by cases List.mem_singleton.1 hD'; exact ⟨Nat.le_refl _, hD⟩⟩
    have hact5 : ActRel S' i' ⟨N, l⟩ { ca with defers := [markOf w.heap.size] ++ ca.defers } := ⟨hact4.size, hact4.get⟩
    rw [← s6] at hQ
    split
    · rename_i hp
      rw [hp] at hQ
      exact ⟨_, _, _, S', i', hQ, hact5, hmk, hh4, hdom4, hag, htr4⟩
    · rename_i c hp
      rw [hp] at hQ
      cases c <;> first | exact hQ.elim | skip
      · exact wpIn_exit ⟨_, _, _, S', i', hQ, hact5, hmk, hh4, hdom4, hag, htr4⟩
      · exact wpIn_ret ⟨_, _, _, S', i', hQ, hact5, hmk, hh4, hdom4, hag, htr4⟩
  all_goals first | (split at hcc <;> cases hcc) | cases hcc
end
end Go.Proofs.Abs
