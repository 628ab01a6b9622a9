/- Several texts of one proof, one behind the other. -/
import Derived.Test.YtnhjiioiejpbgaaDoorAbsxb
import Derived.ChangeSlices
import Derived.Carry
set_option linter.unusedSimpArgs false
section
/- The statement that ranges over a function. -/
namespace Go.Proofs.Abs
open Go
set_option linter.unusedVariables false
section
variable {P : Program}

theorem restH_keys {ls : List Nat} {H : AHeap} {l : Nat} (h : l ∈ (restH ls H).keys) : l ∉ ls := by
  obtain ⟨o, ho⟩ := mem_keys.1 h
  exact (mem_restH.1 ho).2
/-- a loop's record is done with -/
theorem heap_dropLp {S : Seal} {i : Emb} {H : AHeap} {w : World} {lbl b : Nat} {o : AObj} {r r' : Loop} (hh : HeapRel S i H w) (hl : (lbl, o) ∈ H) (hi : i lbl = some b) (hb : w.heap[b]? = some (.loop r)) :
    HeapRel S i (restH [lbl] H) (w.putObj b (.loop r')) := by
  refine ⟨fun a v h => cell_putDef hb (by simp) (hh.cell a v h), fun k n h => ?_, fun l p hm => ?_, fun l p l' p' k x y => hh.inj l p l' p' k (mem_restH.1 x).1 (mem_restH.1 y).1, fun l k h => (by simpa using hh.dom l k h), hh.gr⟩
  · obtain ⟨c, e, f, hc, hs⟩ := hh.size k n h
    exact ⟨c, e, f, (World.putObj_heap_other (by rintro rfl; rw [hb] at hc; cases hc)).trans hc, hs⟩
  · obtain ⟨hm, hne⟩ := mem_restH.1 hm
    rcases hh.obj l p hm with ⟨k, hk, hro⟩ | h
    · refine .inl ⟨k, hk, hro.later (.refl _) (fun _ _ h => h) (World.putObj_heap_other ?_) (fun a v h _ => h)⟩
      rintro rfl
      exact hne (by simpa using hh.inj _ _ _ _ _ hm hl hk hi)
    · exact .inr h

/-- a loop's record is laid -/
theorem heap_newLp {S : Seal} {i : Emb} {H : AHeap} {w : World} {n : Nat} {o : AObj} {q : Obj} {r : Loop} (hh : HeapRel S i H w) (hn : ∀ l b, i l = some b → l < n)
    (ho : ObjRel S (i.set n (w.heap.size + 1)) ((w.alloc q).alloc (.loop r)) (w.heap.size + 1) o) : HeapRel S (i.set n (w.heap.size + 1)) ((n, o) :: restH [n] H) ((w.alloc q).alloc (.loop r)) := by
  have hnn : i n = none := by
    cases hi : i n with
    | none => rfl
    | some b => have := hn n b hi; omega
  have old : ∀ b, b < w.heap.size → ((w.alloc q).alloc (.loop r)).heap[b]? = w.heap[b]? := by
    intro b hb
    show ((w.heap.push q).push (.loop r))[b]? = _
    rw [Array.getElem?_push, Array.getElem?_push]
    simp
    rw [if_neg (by omega), if_neg (by omega)]
  have hsz : ((w.alloc q).alloc (.loop r)).heap.size = w.heap.size + 2 := by
    show ((w.heap.push q).push (.loop r)).size = _
    simp
  have hle : i.le (i.set n (w.heap.size + 1)) := Emb.set_le hnn
  have hset : ∀ {l b}, i.set n (w.heap.size + 1) l = some b → (l = n ∧ b = w.heap.size + 1) ∨ (l ≠ n ∧ i l = some b) := by
    intro l b h
    unfold Emb.set at h
    split at h
    · cases h; exact .inl ⟨by assumption, rfl⟩
    · exact .inr ⟨by assumption, h⟩
  have hcell : ∀ a v, S.cell a = some v → ((w.alloc q).alloc (.loop r)).cell? a = some v := by
    intro a v h
    have h1 := hh.cell a v h
    have h2 : a.block < w.heap.size := by
      rcases Nat.lt_or_ge a.block w.heap.size with h | h'
      · exact h
      · rw [hh.noSeal h'] at h; cases h
    unfold World.cell? at *
    rw [old _ h2]; exact h1
  refine ⟨hcell, fun k m h => ?_, fun l p hm => ?_, fun l p l' p' k x y h1 h2 => ?_, fun l k h => ?_, hh.gr⟩
  · obtain ⟨c, e, f, hc, hs⟩ := hh.size k m h
    have hk : k < w.heap.size := (Array.getElem?_eq_some_iff.1 hc).1
    exact ⟨c, e, f, (old k hk).trans hc, hs⟩
  · rcases List.mem_cons.1 hm with hm | hm
    · cases hm; exact .inl ⟨_, by simp [Emb.set], ho⟩
    · obtain ⟨hm, hne⟩ := mem_restH.1 hm
      rcases hh.obj l p hm with ⟨k, hk, hro⟩ | ⟨h1, h2⟩
      · exact .inl ⟨k, hle _ _ hk, hro.later (.refl _) hle (old k (hh.dom l k hk)) (fun a v h _ => h)⟩
      · refine .inr ⟨?_, h2⟩
        unfold Emb.set
        rw [if_neg (by simpa using hne)]
        exact h1
  · rcases List.mem_cons.1 x with x | x <;> rcases List.mem_cons.1 y with y | y
    · cases x; cases y; rfl
    · cases x
      obtain ⟨y, hne⟩ := mem_restH.1 y
      rcases hset h1 with ⟨_, rfl⟩ | ⟨h, _⟩
      · rcases hset h2 with ⟨h, _⟩ | ⟨_, h⟩
        · exact h.symm
        · have := hh.dom _ _ h; omega
      · exact absurd rfl h
    · cases y
      obtain ⟨x, hne⟩ := mem_restH.1 x
      rcases hset h2 with ⟨_, rfl⟩ | ⟨h, _⟩
      · rcases hset h1 with ⟨h, _⟩ | ⟨_, h⟩
        · exact h
        · have := hh.dom _ _ h; omega
      · exact absurd rfl h
    · obtain ⟨x, n1⟩ := mem_restH.1 x
      obtain ⟨y, n2⟩ := mem_restH.1 y
      rcases hset h1 with ⟨rfl, _⟩ | ⟨_, h1⟩
      · simp at n1
      rcases hset h2 with ⟨rfl, _⟩ | ⟨_, h2⟩
      · simp at n2
      exact hh.inj _ _ _ _ k x y h1 h2
  · rw [hsz]
    rcases hset h with ⟨_, rfl⟩ | ⟨_, h⟩
    · omega
    · have := hh.dom l k h; omega

/-- where the run goes on behind a range over a function -/
def jumpQ (Q : Exit → AAct → AHeap → Nat → Prop) : Option Code → AAct → AHeap → Nat → Prop
  | none, a, H, n => Q .normal a H n
  | some .ret, a, H, n => Q .ret a H n
  | some (.exit id), a, H, n => Q (.exit id) a H n
  | _, _, _, _ => False

def notBusy : LoopState → Bool
  | .busy => false
  | _ => true


theorem restH_no {n : Nat} {H : AHeap} (h : hasK n H = false) : restH [n] H = H := by
  unfold restH
  rw [List.filter_eq_self]
  intro x hx
  have : x.1 ≠ n := by
    rintro rfl
    have : hasK x.1 H = true := hasK_iff.2 (mem_keys.2 ⟨x.2, hx⟩)
    rw [h] at this; cases this
  simp [this]
def dropK (n : Nat) : AHeap → AHeap
  | [] => []
  | (k, o) :: r => bif Nat.beq k n then dropK n r else (k, o) :: dropK n r
theorem dropK_eq {n : Nat} : ∀ {H : AHeap}, dropK n H = restH [n] H
  | [] => rfl
  | (k, o) :: r => by
    simp only [dropK, restH, List.filter_cons]
    have ih := dropK_eq (n := n) (H := r)
    cases hb : Nat.beq k n with
    | true =>
      cases Nat.eq_of_beq_eq_true hb
      simpa [restH] using ih
    | false =>
      have : k ≠ n := fun e => by subst e; rw [Nat.beq_refl] at hb; cases hb
      simpa [this, restH] using ih

/-- what is asked of the call, and of what comes behind -/
def RFok (P : Program) (N n : Nat) (l sl : List (Nat × AV)) (H : AHeap) (ps : List Nat) (f : FuncId) (ws : List AV) (Q : Exit → AAct → AHeap → Nat → Prop) (asg bd : Code) : Prop :=
  ∃ hin hout r N' sl' ps' asg' bd' st pend, ACalls P f ws hin r hout ∧ (∀ x ∈ hin, x ∈ (n, AObj.lp N sl ps asg bd .ready none) :: H) ∧ newOK (n + 1) hin hout = true ∧
    lkH hout n = some (.lp N' sl' ps' asg' bd' st pend) ∧ st ≠ .busy ∧ jumpQ Q pend ⟨N, l⟩ (dropK n (appK hout (restK hin hout ((n, .lp N sl ps asg bd .ready none) :: H)))) (topK (n + 1) hout)
theorem rfOK {N n : Nat} {l sl : List (Nat × AV)} {H : AHeap} {ps : List Nat} {f : FuncId} {ws ys : List AV} {Q : Exit → AAct → AHeap → Nat → Prop} {asg bd : Code} {hin hout H' : AHeap} {r : AV} {N' : Nat} {sl' : List (Nat × AV)} {ps' : List Nat} {asg' bd' : Code}
    {st : LoopState} {pend : Option Code} {c' : Nat} (hcall : ACalls P f ys hin r hout) (hsub : SubL ws ys) (hin' : HasAll ((n, AObj.lp N sl ps asg bd .ready none) :: H) hin) (hn : newOK (n + 1) hin hout = true)
    (hlp : lkH hout n = some (.lp N' sl' ps' asg' bd' st pend)) (hst : notBusy st = true) (hH : dropK n (appK hout (restK hin hout ((n, .lp N sl ps asg bd .ready none) :: H))) = H') (hc : topK (n + 1) hout = c')
    (hQ : jumpQ Q pend ⟨N, l⟩ H' c') : RFok P N n l sl H ps f ws Q asg bd := by
  subst hH hc
  exact ⟨hin, hout, r, N', sl', ps', asg', bd', st, pend, hcall.args hsub.get.1 hsub.get.2, fun x hx => lkH_mem (hin'.get x hx), hn, hlp, (by rintro rfl; cases hst), hQ⟩
/-- slots that are there -/
def slIn (l : List (Nat × AV)) : List (Nat × AV) → Prop
  | [] => True
  | (t, v) :: r => lk l t = some v ∧ slIn l r
theorem slIn.get {l : List (Nat × AV)} : ∀ {sl : List (Nat × AV)}, slIn l sl → ∀ x ∈ sl, lk l x.1 = some x.2
  | [], _, x, h => by cases h
  | (t, v) :: r, h, x, hx => by
    rcases List.mem_cons.1 hx with rfl | hx
    · exact h.1
    · exact slIn.get h.2 x hx

/-- THE STATEMENT -/
theorem AWc.rangeFunc {g : Arg} {ps : List Nat} {A B : ACode} {N n m : Nat} {l : List (Nat × AV)} (sl : List (Nat × AV)) {H : AHeap} {Q : Exit → AAct → AHeap → Nat → Prop} {fv : AV} {f : FuncId} {ws : List AV}
    (hm : Nat.ble m n = true) (hno : hasK n H = false) (hg : evA l g = some fv) (hco : callOf fv [.lf n] = some (f, ws)) (hsl : slIn l sl)
    (h : ∀ asg bd, compCode P asg = A → compCode P bd = B → RFok P N n l sl H ps f ws Q asg bd) : AWc P none m (.rangeFunc g ps A B) ⟨N, l⟩ H n Q := by
  intro cc hcc
  cases cc <;> simp only [compCode] at hcc
  case rangeFunc g0 ps0 asg bd =>
    split at hcc <;> cases hcc
    rename_i hg1
    obtain ⟨hin, hout, r, N', sl', ps', asg', bd', st, pend, hcall, hsub, hn, hlp, hst, hQ⟩ := h asg bd rfl rfl
    have hm' := Nat.le_of_ble_eq_true hm
    intro S i w ca hact hh hd
    have hev := hact.eval ((evA_of hg1).trans hg)
    have hnn : i n = none := by
      cases hi : i n with
      | none => rfl
      | some b => have := hd n b hi; omega
    have hle : i.le (i.set n (w.heap.size + 1)) := Emb.set_le hnn
    have hinn : i.set n (w.heap.size + 1) n = some (w.heap.size + 1) := by simp [Emb.set]
    refine wpIn_rangeFunc fun fn _ => ?_
    let w1 : World := (w.alloc (.deferred (some []))).alloc (.loop { state := .ready, pending := none, fn, tmps := ca.tmps, params := ps0, assign := asg, body := bd, defers := w.heap.size })
    have hw1 : w1.heap[w.heap.size + 1]? = some (.loop { state := .ready, pending := none, fn, tmps := ca.tmps, params := ps0, assign := asg, body := bd, defers := w.heap.size }) := by
      have := World.alloc_heap_new (w.alloc (.deferred (some []))) (.loop { state := .ready, pending := none, fn, tmps := ca.tmps, params := ps0, assign := asg, body := bd, defers := w.heap.size })
      rwa [World.size_alloc] at this
    have hw0 : w1.heap[w.heap.size]? = some (.deferred (some [])) := by
      show ((w.heap.push _).push _)[w.heap.size]? = _
      simp [Array.getElem?_push]
    have hsz : w1.heap.size = w.heap.size + 2 := by
      show ((w.heap.push _).push _).size = _
      simp
    have hold : ∀ b, b < w.heap.size → w1.heap[b]? = w.heap[b]? := by
      intro b hb
      show ((w.heap.push _).push _)[b]? = _
      rw [Array.getElem?_push, Array.getElem?_push]
      simp
      rw [if_neg (by omega), if_neg (by omega)]
    have hh1 : HeapRel S (i.set n (w.heap.size + 1)) ((n, .lp N sl ps0.toList asg bd .ready none) :: H) w1 := by
      have := heap_newLp (o := .lp N sl ps0.toList asg bd .ready none) (q := .deferred (some [])) (r := { state := .ready, pending := none, fn, tmps := ca.tmps, params := ps0, assign := asg, body := bd, defers := w.heap.size }) hh hd
        ⟨_, hw1, hact.size, rfl, rfl, rfl, rfl, rfl, fun x hx => ((hact.get x.1 _ (hsl.get x hx)).mono (.refl _) hle), fun a ha => hh.noSeal (by omega)⟩
      rwa [restH_no hno] at this
    -- the call
    have hws : ∃ cs : List Value, ca.eval g0 = .func (.func f) #[] cs.toArray ∧ ws.length = (Value.func (.yield (w.heap.size + 1)) #[] #[] :: cs).length ∧
        ∀ j (h1 : j < ws.length) (h2 : j < (Value.func (.yield (w.heap.size + 1)) #[] #[] :: cs).length), V S (i.set n (w.heap.size + 1)) ws[j] (Value.func (.yield (w.heap.size + 1)) #[] #[] :: cs)[j] := by
      unfold callOf at hco
      split at hco <;> cases hco
      · generalize hu : ca.eval g0 = u at hev
        cases vD hev
        exact ⟨[], rfl, rfl, fun j h1 h2 => by
          cases j with
          | zero => exact .lf hinn
          | succ j => simp at h1⟩
      · generalize hu : ca.eval g0 = u at hev
        cases hev with
        | fn hl hv =>
          refine ⟨_, rfl, by simp [hl], fun j h1 h2 => ?_⟩
          cases j with
          | zero => exact .lf hinn
          | succ j =>
            have := hv j (by simpa using h1) (by simpa using h2)
            exact this.mono (.refl _) hle
    obtain ⟨cs, hcs, hlen, hvs⟩ := hws
    have hinr : HeapRel S (i.set n (w.heap.size + 1)) (hin ++ restH (hin.keys ++ hout.keys) ((n, .lp N sl ps0.toList asg bd .ready none) :: H)) w1 := by
      refine hh1.perm fun x hx => ?_
      rcases List.mem_append.1 hx with hx | hx
      · exact hsub x hx
      · exact (mem_restH.1 hx).1
    have hnew : ∀ k ∈ hout.keys, k ∉ hin.keys → i.set n (w.heap.size + 1) k = none := by
      intro k h1 h2
      rcases newOK_iff hn k h1 with h | h
      · unfold Emb.set
        rw [if_neg (by omega)]
        cases hi : i k with
        | none => rfl
        | some b => have := hd k b hi; omega
      · exact absurd h h2
    have hc := hcall.2 S (i.set n (w.heap.size + 1)) w1 _ hlen hvs (hinr.perm fun x hx => List.mem_append.2 (.inl hx)) hnew
    refine ⟨w.heap.size + 1, [markOf w.heap.size], w1, { target := .fn (.func f) cs.toArray, args := #[.func (.yield (w.heap.size + 1)) #[] #[]] }, w1, f, #[.func (.yield (w.heap.size + 1)) #[] #[]] ++ cs.toArray, w1,
      run_enterLoop_outer .., ?_, fun _ _ => trivial, ?_, fun h => (by cases h), ?_⟩
    · simp [resolve, hcs, Deferred.ofValue]
      rfl
    · obtain ⟨fn', hf, hnm, hb⟩ := hcall.1
      have h1 : ¬ fn'.name = "runtime.NumGoroutine" := by simpa using hnm
      have h2 : ¬ fn'.body = none := by cases hx : fn'.body <;> simp_all
      simp [invoke, callFunc, hf, h1, h2]
    refine callsIn_wide.2 ?_
    rw [show (#[.func (.yield (w.heap.size + 1)) #[] #[]] ++ cs.toArray : Array Value) = (Value.func (.yield (w.heap.size + 1)) #[] #[] :: cs).toArray by simp]
    refine Calls.mono hc ?_
    rintro e w3 ⟨v, rfl, S', i', hv, hh3, hle3, ht3, hn3⟩
    have hdis : ∀ k ∈ hin.keys, k ∉ (restH (hin.keys ++ hout.keys) ((n, .lp N sl ps0.toList asg bd .ready none) :: H)).keys := fun k hk hx => restH_keys hx (List.mem_append.2 (.inl hk))
    have hdis' : ∀ k ∈ hout.keys, k ∉ (restH (hin.keys ++ hout.keys) ((n, .lp N sl ps0.toList asg bd .ready none) :: H)).keys := fun k hk hx => restH_keys hx (List.mem_append.2 (.inr hk))
    have hfr := HeapRel.frame hinr hdis hh3 hle3 hn3 hdis' ht3
    have htr := Tr.frame (F := restH (hin.keys ++ hout.keys) ((n, .lp N sl ps0.toList asg bd .ready none) :: H)) ht3 (fun k o b hm hb => by
      rcases hn3 k b hb with h | h
      · exact h
      · exact absurd (mem_keys.2 ⟨o, hm⟩) (hdis' k h.1))
    have hlpm : (n, AObj.lp N' sl' ps' asg' bd' st pend) ∈ hout ++ restH (hin.keys ++ hout.keys) ((n, .lp N sl ps0.toList asg bd .ready none) :: H) := List.mem_append.2 (.inl (lkH_mem hlp))
    have hin3 : i' n = some (w.heap.size + 1) := hle3 _ _ hinn
    rcases hfr.obj _ _ hlpm with ⟨b', hb', hro⟩ | ⟨_, hz⟩
    case inr => exact hz.elim
    rw [hin3] at hb'; cases hb'
    obtain ⟨r3, hr3, s1, s2, s3, s4, s5, s6, s7, s8⟩ := hro
    refine ⟨_, _, run_endLoop hr3 (by rw [s5]; exact hst), ?_⟩
    have hh4 : HeapRel S' i' (restH [n] (hout ++ restH (hin.keys ++ hout.keys) ((n, .lp N sl ps0.toList asg bd .ready none) :: H))) (w3.putObj (w.heap.size + 1) (.loop { r3 with state := .exhausted })) :=
      heap_dropLp hfr hlpm hin3 hr3
    have hH4 : dropK n (appK hout (restK hin hout ((n, .lp N sl ps0.toList asg bd .ready none) :: H))) = restH [n] (hout ++ restH (hin.keys ++ hout.keys) ((n, .lp N sl ps0.toList asg bd .ready none) :: H)) := by
      rw [dropK_eq, appK_eq, restK_eq]
    rw [hH4] at hQ
    have hact4 : ActRel S' i' ⟨N, l⟩ ca := hact.mono ht3.up (fun k b h => hle3 _ _ (hle _ _ h))
    -- the road from w to w3, and on
    have hblk0 : ∀ b, blk (i.set n (w.heap.size + 1)) (hin ++ restH (hin.keys ++ hout.keys) ((n, .lp N sl ps0.toList asg bd .ready none) :: H)) b → blk i H b ∨ b = w.heap.size + 1 := by
      rintro b ⟨k, o, hm, hb⟩
      have hm' : (k, o) ∈ (n, AObj.lp N sl ps0.toList asg bd .ready none) :: H := by
        rcases List.mem_append.1 hm with hm | hm
        · exact hsub _ hm
        · exact (mem_restH.1 hm).1
      unfold Emb.set at hb
      split at hb
      · cases hb; exact .inr rfl
      · rename_i hne
        rcases List.mem_cons.1 hm' with h | h
        · cases h; exact absurd rfl hne
        · exact .inl ⟨k, o, h, hb⟩
    have hD : (w3.putObj (w.heap.size + 1) (.loop { r3 with state := .exhausted })).heap[w.heap.size]? = some (.deferred (some [])) := by
      rw [World.putObj_heap_other (by omega), htr.old _ (by omega) ?_, hw0]
      intro hx
      rcases hblk0 _ hx with ⟨k, o, _, hb⟩ | h
      · have := hh.dom _ _ hb; omega
      · omega
    have htr4 : Tr S i H w S' i' (restH [n] (hout ++ restH (hin.keys ++ hout.keys) ((n, .lp N sl ps0.toList asg bd .ready none) :: H))) (w3.putObj (w.heap.size + 1) (.loop { r3 with state := .exhausted })) := by
      refine ⟨htr.up, by have := htr.grow; simp; omega, fun b hb hx => ?_, fun a v hv => ?_, fun k b hb => ?_, fun b ⟨k, o, hm, hb⟩ => ?_, htr.os, htr.out, htr.tape⟩
      · rw [World.putObj_heap_other (by omega), htr.old b (by omega) ?_, hold b hb]
        intro h
        rcases hblk0 _ h with h | h
        · exact hx h
        · omega
      · rcases htr.newSeal a v hv with h | h | h
        · exact .inl h
        · rcases hblk0 _ h with h | h
          · exact .inr (.inl h)
          · exact .inr (.inr (by omega))
        · exact .inr (.inr (by omega))
      · rcases htr.newEmb k b hb with h | h | h
        · unfold Emb.set at h
          split at h
          · cases h; exact .inr (.inr (by omega))
          · exact .inl h
        · rcases hblk0 _ h with h | h
          · exact .inr (.inl h)
          · exact .inr (.inr (by omega))
        · exact .inr (.inr (by omega))
      · rcases htr.sub b ⟨k, o, (mem_restH.1 hm).1, hb⟩ with h | h
        · rcases hblk0 _ h with h | h
          · exact .inl h
          · exact .inr (by omega)
        · exact .inr (by omega)
    have hdom4 : ∀ k b, i' k = some b → k < topK (n + 1) hout := by
      intro k b hb
      obtain ⟨t1, t2⟩ := topK_le (c := n + 1) (H := hout)
      rcases hn3 k b hb with h | h
      · unfold Emb.set at h
        split at h
        · omega
        · have := hd k b h; omega
      · exact t2 k h.1
    have hag : ∀ k, k < m → i' k = i k := by
      intro k hk
      cases hi : i' k with
      | none =>
        cases h0 : i k with
        | none => rfl
        | some b => rw [hle3 _ _ (hle _ _ h0)] at hi; cases hi
      | some b =>
        rcases hn3 k b hi with h | h
        · unfold Emb.set at h
          rw [if_neg (by omega)] at h
          exact h.symm
        · rcases newOK_iff hn k h.1 with h' | h'
          · omega
          · exact absurd h' h.2
    have hmk : Marks w (w3.putObj (w.heap.size + 1) (.loop { r3 with state := .exhausted })) ca.defers ([markOf w.heap.size] ++ ca.defers) :=
      ⟨[w.heap.size], by simp, rfl, fun D hD' => by cases List.mem_singleton.1 hD'; exact ⟨Nat.le_refl _, hD⟩⟩
    have hact5 : ActRel S' i' ⟨N, l⟩ { ca with defers := [markOf w.heap.size] ++ ca.defers } := ⟨hact4.size, hact4.get⟩
    rw [← s6] at hQ
    split
    · rename_i hp
      rw [hp] at hQ
      exact ⟨_, _, _, S', i', hQ, hact5, hmk, hh4, hdom4, hag, htr4⟩
    · rename_i c hp
      rw [hp] at hQ
      cases c <;> first | exact hQ.elim | skip
      · exact wpIn_exit ⟨_, _, _, S', i', hQ, hact5, hmk, hh4, hdom4, hag, htr4⟩
      · exact wpIn_ret ⟨_, _, _, S', i', hQ, hact5, hmk, hh4, hdom4, hag, htr4⟩
  all_goals first | (split at hcc <;> cases hcc) | cases hcc
end
end Go.Proofs.Abs
end
section
/- The ends of functions and rounds in a canonical form; a row of one's own is frozen; rounds, by checks. -/
namespace Go.Proofs.Abs
open Go
set_option linter.unusedVariables false

section
variable {P : Program} {ro : Option Nat} {a : AAct} {H : AHeap} {n m : Nat} {Q : Exit → AAct → AHeap → Nat → Prop}

/-- a state is brought to its canonical form -/
theorem InS.emb {N k : Nat} {l' : List (Nat × AV)} {H' : AHeap} (hm : m ≤ k) (hin : InS m N k l' H' a H n) {S : Seal} {i : Emb} {w : World} {ca : Act} (hact : ActRel S i a ca) (hh : HeapRel S i H w) (hn : ∀ l b, i l = some b → l < n) :
    ∃ j : Emb, ActRel S j ⟨N, l'⟩ ca ∧ HeapRel S j H' w ∧ (∀ l b, j l = some b → l < k) ∧ (∀ l, l < m → j l = i l) ∧ (∀ b, blk j H' b → blk i H b) ∧ (∀ l b, j l = some b → i l = some b ∨ blk i H b) := by
  obtain ⟨hN, zs, ps, hzs, hps, hsl, hob⟩ := hin
  simp only [subOK, Bool.and_eq_true] at hps
  obtain ⟨⟨p1, p2⟩, p3⟩ := hps
  generalize hsdef : sub1 ps = s at *
  have hs : ∀ l, l < m → s l = l := fun l hl => Nat.eq_of_beq_eq_true (allB_of p1 l hl)
  have hs' : ∀ l, l < k → l ∈ H'.keys ∨ s l = l := fun l hl => by
    have := allB_of p2 l hl
    simp only [Bool.or_eq_true] at this
    exact this.imp hasK_iff.1 Nat.eq_of_beq_eq_true
  have hinj : ∀ l l', l ∈ H'.keys → l' ∈ H'.keys → s l = s l' → l = l' := fun l l' hl hl' he => by
    obtain ⟨o, ho⟩ := mem_keys.1 hl
    obtain ⟨o', ho'⟩ := mem_keys.1 hl'
    have := List.all_eq_true.1 (List.all_eq_true.1 p3 _ ho) _ ho'
    simp only [Bool.or_eq_true, Bool.not_eq_true'] at this
    rcases this with h | h
    · rw [he, Nat.beq_refl] at h; cases h
    · exact Nat.eq_of_beq_eq_true h
  have hH : ∀ l o, (l, o) ∈ H' → (∃ p, ((s l, p) ∈ H ∨ (n ≤ s l ∧ p.nil0)) ∧ SubO p (o.ren s)) ∧ l < k ∧ o.lt k := fun l o hm => by
    obtain ⟨⟨p, h1, h2⟩, h3⟩ := objsS_mem hob l o hm
    refine ⟨⟨p, ?_, h2⟩, h3⟩
    rcases List.mem_append.1 h1 with h1 | h1
    · obtain ⟨k1, k2⟩ := zsH_mem h1
      exact .inr ⟨k1, nilB_ok (List.all_eq_true.1 hzs _ k2)⟩
    · exact .inl h1
  have hin' : ∀ l o b, (l, o) ∈ H' → i (s l) = some b → ∃ p, (s l, p) ∈ H := fun l o b hm hb => by
    obtain ⟨⟨p, hp | ⟨hp, _⟩, _⟩, _⟩ := hH l o hm
    · exact ⟨p, hp⟩
    · have := hn _ _ hb; omega
  let j : Emb := Emb.cut (fun l => i (s l)) k
  have hj : ∀ l b, j l = some b → l < k ∧ i (s l) = some b := fun l b h => Emb.cut_some h
  have hjl : ∀ l, l < k → j l = i (s l) := fun l h => Emb.cut_of h
  have hblk : ∀ b, blk j H' b → blk i H b := by
    rintro b ⟨l, o, hx, hb⟩
    obtain ⟨p, hp⟩ := hin' l o b hx (hj l b hb).2
    exact ⟨s l, p, hp, (hj l b hb).2⟩
  refine ⟨j, ⟨hact.size.trans hN, fun t x hx => ?_⟩, ⟨hh.cell, hh.size, fun l o hm => ?_, fun l o l' o' b x y hl hl' => ?_, fun l b hl => hh.dom _ b (hj l b hl).2, hh.gr⟩, fun l b hl => (hj l b hl).1, fun l hl => ?_, hblk, fun l b hl => ?_⟩
  · obtain ⟨⟨u, hu, hsub⟩, hlt⟩ := slotsS_lk hsl t x hx
    exact ((hsub _ _ _ (hact.get t _ hu)).unren rfl).cut hlt
  · obtain ⟨⟨p, h0, hsub⟩, hl, ho⟩ := hH l o hm
    rcases h0 with h0 | ⟨h0, hz⟩
    · rcases hh.obj _ _ h0 with ⟨b, hb, hr⟩ | ⟨hn, ho'⟩
      · refine .inl ⟨b, by rw [hjl l hl]; exact hb, ?_⟩
        exact ((hsub.1 _ _ _ _ hr).unren).relabel (K := (· < k)) (fun l hl => Emb.cut_of hl) ho
      · exact .inr ⟨by rw [hjl l hl]; exact hn, AObj.nil0_ren.1 (hsub.2 ho')⟩
    · refine .inr ⟨?_, AObj.nil0_ren.1 (hsub.2 hz)⟩
      rw [hjl l hl]
      cases hi : i (s l) with
      | none => rfl
      | some b => have := hn _ _ hi; omega
  · obtain ⟨k1, e1⟩ := hj l b hl
    obtain ⟨k2, e2⟩ := hj l' b hl'
    obtain ⟨p, hp⟩ := hin' l o b x e1
    obtain ⟨p', hp'⟩ := hin' l' o' b y e2
    exact hinj l l' (mem_keys.2 ⟨o, x⟩) (mem_keys.2 ⟨o', y⟩) (hh.inj _ _ _ _ b hp hp' e1 e2)
  · rw [hjl l (Nat.lt_of_lt_of_le hl hm), hs l hl]
  · obtain ⟨k1, e1⟩ := hj l b hl
    rcases hs' l k1 with hk | hk
    · obtain ⟨o, ho⟩ := mem_keys.1 hk
      obtain ⟨p, hp⟩ := hin' l o b ho e1
      exact .inr ⟨s l, p, hp, e1⟩
    · rw [hk] at e1; exact .inl e1

/-- .. at an end -/
def CanQ (m : Nat) (Q : Exit → AAct → AHeap → Nat → Prop) : Exit → AAct → AHeap → Nat → Prop := fun ex a H n => ∃ N l' H' k, m ≤ k ∧ InS m N k l' H' a H n ∧ Q ex ⟨N, l'⟩ H' k
theorem AWc.canon {c : ACode} (h : AWc P ro m c a H n (CanQ m Q)) : AWc P ro m c a H n Q := by
  intro cc hcc S i w ca hact hh hn
  refine wpIn_mono (h cc hcc S i w ca hact hh hn) ?_
  rintro ex ca' w' ⟨a', H1, n1, S1, i1, ⟨N, l', H', k, hmk, hin, hq⟩, ra, rd, rh, rn, re, rt⟩
  obtain ⟨j, j1, j2, j3, j4, j5, j6⟩ := hin.emb hmk ra rh rn
  refine ⟨_, H', k, S1, j, hq, j1, rd, j2, j3, fun l hl => (j4 l hl).trans (re l hl), ⟨rt.up, rt.grow, rt.old, rt.newSeal, fun l b hb => ?_, fun b hb => rt.sub b (j5 b hb), rt.os, rt.out, rt.tape⟩⟩
  rcases j6 l b hb with h | h
  · exact rt.newEmb l b h
  · exact (rt.sub b h).imp id id |> fun h => h.elim (fun h => .inr (.inl h)) fun h => .inr (.inr h)

/-! ### a function, a round, by checks -/
theorem acalls_canon {k : FuncId} {F : AFunc} (hF : HasF P k F) {args : List AV} {H H' : AHeap} {r : AV} (n K : Nat) (hchk : bodyOK n K F.n args H r H' = true)
    (hb : AWc P none n F.body ⟨F.n, startL 0 args⟩ H n (CanQ n (DoneS F.res r H'))) : ACalls P k args H r H' := acalls_gen hF n K hchk (AWc.canon hb)

def roundOK (n K N : Nat) (ps : List Nat) (args : List AV) (H : AHeap) (r : AV) (H' : AHeap) : Bool :=
  AV.ltbL n args && (H.all fun x => Nat.blt x.1 n && AObj.ltb n x.2) && AV.ltb K r && (H'.all fun x => Nat.blt x.1 K && AObj.ltb K x.2 && (Nat.blt x.1 n || !hasK x.1 H)) &&
  allB (fun l => Nat.blt l n || (hasK l H' && !hasK l H)) K && Nat.beq ps.length args.length && ps.all fun p => Nat.blt p N
/-- behind the assignments to the loop's left sides -/
def AsgQ (P : Program) (ro : Option Nat) (m lbl N : Nat) (sl : List (Nat × AV)) (ps : List Nat) (asg bd : Code) (pend : Option Code) (B : ACode) (Q : Exit → AAct → AHeap → Nat → Prop) : Exit → AAct → AHeap → Nat → Prop := fun ex a H1 n1 =>
  ex = .normal ∧ lkH H1 lbl = some (.lp N sl ps asg bd .ready pend) ∧ AWc P ro m B a (setH lbl (.lp N sl ps asg bd .busy pend) H1) n1 Q
theorem asgDone {lbl N : Nat} {sl : List (Nat × AV)} {ps : List Nat} {asg bd : Code} {pend : Option Code} {B : ACode} {a : AAct} {H1 H2 : AHeap} {n1 : Nat} (hl : lkH H1 lbl = some (.lp N sl ps asg bd .ready pend))
    (hH : setH lbl (.lp N sl ps asg bd .busy pend) H1 = H2) (h : AWc P ro m B a H2 n1 Q) : AsgQ P ro m lbl N sl ps asg bd pend B Q .normal a H1 n1 := ⟨rfl, hl, hH ▸ h⟩
theorem around_gen {lbl N : Nat} {sl : List (Nat × AV)} {ps : List Nat} {asg bd : Code} {A B : ACode} {pend : Option Code} {args : List AV} {H H' : AHeap} {r : AV} (n K : Nat) (ha : compCode P asg = A) (hb : compCode P bd = B)
    (hlp : lkH H lbl = some (.lp N sl ps asg bd .ready pend)) (hchk : roundOK n K N ps args H r H' = true)
    (h : ∀ ro, AWc P ro n A ⟨N, putArgs ps args sl⟩ H n (AsgQ P ro n lbl N sl ps asg bd pend B (CanQ n (RoundS lbl r H')))) : ARound P lbl args H r H' := by
  simp only [roundOK, Bool.and_eq_true] at hchk
  obtain ⟨⟨⟨⟨⟨⟨h1, h2⟩, h3⟩, h4⟩, h5⟩, h6⟩, h7⟩ := hchk
  have hK : ∀ l, l < K → l < n ∨ l ∈ H'.keys ∧ l ∉ H.keys := fun l hl => by
    have := allB_of h5 l hl
    simp only [Bool.or_eq_true, Bool.and_eq_true, Bool.not_eq_true'] at this
    refine this.imp Nat.le_of_ble_eq_true fun ⟨k1, k2⟩ => ⟨hasK_iff.1 k1, fun hx => ?_⟩
    rw [hasK_iff.2 hx] at k2; cases k2
  have up : ∀ {x : AV}, x.lt K → x.lb fun l => l < n ∨ l ∈ H'.keys ∧ l ∉ H.keys := by
    intro x hx
    induction hx with
    | d => exact .d
    | cp => exact .cp
    | ptr h => exact .ptr (hK _ h)
    | sl h => exact .sl (hK _ h)
    | ap h => exact .ap (hK _ h)
    | win => exact .win
    | nils => exact .nils
    | agg _ ih => exact .agg ih
    | tup _ ih => exact .tup ih
    | fn _ ih => exact .fn ih
    | mp h => exact .mp (hK _ h)
    | lf h => exact .lf (hK _ h)
    | dn => exact .dn
    | row h => exact .row (hK _ h)
    | apo h => exact .apo (hK _ h)
    | any => exact .any
  have upo : ∀ {o : AObj}, o.lt K → o.lb fun l => l < n ∨ l ∈ H'.keys ∧ l ∉ H.keys := by
    intro o ho
    cases o with
    | cells l => exact fun x hx => up (ho x hx)
    | tok n => exact trivial
    | rowD ds => exact trivial
    | rowP ds => exact trivial
    | row l => exact fun x hx => up (ho x hx)
    | tokv n ds => exact trivial
    | mp es => exact trivial
    | lp N sl ps asg bd st pend => exact fun x hx => up (ho x hx)
  refine around_of_body n (lkH_mem hlp) (AV.ltL_of h1) (fun l o hm => ?_) (up (AV.lt_of h3)) (fun l o hm => ?_) (Nat.eq_of_beq_eq_true h6) (fun p hp => Nat.le_of_ble_eq_true (List.all_eq_true.1 h7 p hp)) fun ro => ?_
  · have := List.all_eq_true.1 h2 _ hm
    simp only [Bool.and_eq_true] at this
    exact ⟨Nat.le_of_ble_eq_true this.1, AObj.lt_of this.2⟩
  · have := List.all_eq_true.1 h4 _ hm
    simp only [Bool.and_eq_true, Bool.or_eq_true, Bool.not_eq_true'] at this
    refine ⟨this.2.imp Nat.le_of_ble_eq_true fun h hx => ?_, upo (AObj.lt_of this.1.2)⟩
    rw [hasK_iff.2 hx] at h; cases h
  · refine (h ro asg ha).mono fun ex a H1 n1 ⟨q1, q2, q3⟩ => ⟨q1, q2, ?_⟩
    exact AWc.canon q3 bd hb
theorem roundD {lbl : Nat} {r : AV} {H' : AHeap} {ex : Exit} {a : AAct} {H H3 : AHeap} {n : Nat} {jump : Option Code} {N : Nat} {sl : List (Nat × AV)} {ps : List Nat} {asg bd : Code} {st : LoopState} {pend : Option Code} (hj : jumpOf ex = some jump)
    (hl : lkH H lbl = some (.lp N sl ps asg bd st pend)) (hr : r = .d (.bool jump.isNone)) (hs : setH lbl (.lp N sl ps asg bd (bif jump.isNone then .ready else .done) jump) H = H3) (hH : HasAll H3 H') : RoundS lbl r H' ex a H n :=
  ⟨jump, N, sl, ps, asg, bd, st, pend, hj, hl, hr, fun x hx => by rw [hs]; exact lkH_mem (hH.get x hx)⟩
theorem canQ {N k : Nat} {l' : List (Nat × AV)} {H' : AHeap} {ex : Exit} (hm : Nat.ble m k = true) (hin : InS m N k l' H' a H n) (h : Q ex ⟨N, l'⟩ H' k) : CanQ m Q ex a H n := ⟨N, l', H', k, Nat.le_of_ble_eq_true hm, hin, h⟩

/-- a call of yield, in a region -/
theorem RegV.yield {aops os : List AOper} {draw : Bool} {N k c : Nat} {l : List (Nat × AV)} {H : AHeap} {A : List Tk} {Q : AAct → AHeap → Nat → Prop} {g : Option (Nat × Bool)} {af : List Nat} {t : Nat}
    {gg : Arg} {as : List Arg} {lbl : Nat} {vs ys : List AV} {r : AV} {hin hout H' : AHeap} {c' : Nat} (hcall : ARound P lbl ys hin r hout)
    (hg : gOn g (us l ⟨some t, .call gg as, g, af⟩) = some true) (hf : evA (us l ⟨some t, .call gg as, g, af⟩) gg = some (.lf lbl)) (has : allAV (evA (us l ⟨some t, .call gg as, g, af⟩)) as = some vs) (hsub : SubL vs ys)
    (hd : Nat.blt t N = true) (hin' : HasAll H hin) (hn : newOK c hin hout = true) (hF : nodupH hout = true) (hH : appK hout (restK hin hout H) = H') (hc : topK c hout = c')
    (hn' : RegV P aops draw N (k + 1) os c' ((t, r) :: l) H' (⟨hin.keys ++ hout.keys, false⟩ :: A) Q) : RegV P aops draw N k (⟨some t, .call gg as, g, af⟩ :: os) c l H A Q :=
  RegV.up (fun _ h' => RegU.op hg (AOpT.yield hf has (hcall.args hsub.get.1 hsub.get.2)) hd (fun x hx => lkH_mem (hin'.get x hx)) hn hF (fun h => by cases h) rfl hH hc h') hn'
end
end Go.Proofs.Abs
end
section
/- Rows and arrays of one's own, with typed elements. -/
namespace Go.Proofs.Abs
open Go
set_option linter.unusedVariables false
set_option linter.unusedSectionVars false

/-- how an element is said -/
structure EncOK {α : Type} (e : α → D) (z : Nat) (g : Bool) : Prop where
  len : ∀ a, (e a).cells.length = z
  sc : ∀ a, ∀ c ∈ (e a).cells, c.isAgg = false
  ag : ∀ a, (e a).isAgg = g
abbrev cellsD {α : Type} (e : α → D) (xs : List α) : List D := flat (xs.map e)
abbrev cellsO {α : Type} (e : α → D) (xs : List α) : AObj := .rowD (cellsD e xs)
abbrev cellsC {α : Type} (e : α → D) (xs : List α) : AObj := .cells ((cellsD e xs).map .d)

/-! ### objects that say the same -/
def EqO (p q : AObj) : Prop := (∀ S i w b, ObjRel S i w b p ↔ ObjRel S i w b q) ∧ (p.nil0 ↔ q.nil0)
inductive EqH : AHeap → AHeap → Prop
  | nil : EqH [] []
  | cons {l p q r s} (h : EqO p q) (hr : EqH r s) : EqH ((l, p) :: r) ((l, q) :: s)
theorem EqO.refl (p : AObj) : EqO p p := ⟨fun _ _ _ _ => Iff.rfl, Iff.rfl⟩
theorem EqO.symm {p q : AObj} (h : EqO p q) : EqO q p := ⟨fun S i w b => (h.1 S i w b).symm, h.2.symm⟩
theorem EqO.row {α : Type} {e : α → D} {xs : List α} : EqO (cellsC e xs) (cellsO e xs) := ⟨fun _ _ _ _ => Iff.rfl, Iff.rfl⟩
theorem EqH.symm : ∀ {H G : AHeap}, EqH H G → EqH G H
  | _, _, .nil => .nil
  | _, _, .cons h hr => .cons h.symm hr.symm
theorem EqH.keys : ∀ {H G : AHeap}, EqH H G → H.keys = G.keys
  | _, _, .nil => rfl
  | _, _, .cons h hr => congrArg (List.cons _) hr.keys
theorem EqH.mem : ∀ {H G : AHeap}, EqH H G → ∀ {l q}, (l, q) ∈ G → ∃ p, (l, p) ∈ H ∧ EqO p q
  | _, _, .cons h hr, l, q, hm => by
    rcases List.mem_cons.1 hm with hm | hm
    · cases hm; exact ⟨_, List.mem_cons_self, h⟩
    · obtain ⟨p, h1, h2⟩ := hr.mem hm
      exact ⟨p, List.mem_cons_of_mem _ h1, h2⟩
section
variable {α : Type} {e : α → D} {z : Nat} {g : Bool}
theorem cellsD_sc (h : EncOK e z g) (xs : List α) : ∀ c ∈ cellsD e xs, c.isAgg = false := by
  intro c hc
  simp only [flat, List.mem_flatMap, List.mem_map] at hc
  obtain ⟨d, ⟨a, _, rfl⟩, hc⟩ := hc
  exact h.sc a c hc
theorem agg_cells {d : D} (h : d.isAgg = true) : d = .agg d.cells := by cases d <;> first | rfl | cases h
theorem one_cells {d : D} (h : d.isAgg = false) : d.cells = [d] := by cases d <;> first | rfl | cases h
end

section
variable {P : Program} {aops os : List AOper} {draw : Bool} {N k c : Nat} {l : List (Nat × AV)} {H H' : AHeap} {A : List Tk} {Q : AAct → AHeap → Nat → Prop}
variable {gd : Option (Nat × Bool)} {af : List Nat} {t : Nat}
variable {α : Type} [Inhabited α] {e : α → D} {z : Nat} {g : Bool} {xs ys : List α} {l0 i j o len cap : Nat} {x y : Arg} {n m : Int} {kd : IntKind}

/-! ### arrays -/
end
end Go.Proofs.Abs
end
section
/- Elements of arrays; an empty row that may be appended to; rows are frozen. -/
namespace Go.Proofs.Abs
open Go
set_option linter.unusedVariables false
set_option linter.unusedSectionVars false
section
variable {P : Program}
/-! ### a row is sealed -/
def Seal.row (S : Seal) (b k : Nat) (c : Array Value) : Seal where
  cell a := if a.block = b ∧ a.spot = none ∧ a.off < k then c[a.off]? else S.cell a
  size x := if x = b then some c.size else S.size x
section
variable {α : Type} {e : α → D} {z : Nat} {g : Bool}
/-- what a row of one's own becomes, when it is sealed -/
inductive Frz (l0 : Nat) (e : α → D) (z : Nat) (xs : List α) : AV → AV → Prop
  | same {v} : Frz l0 e z xs v v
  | data {o len cap : Nat} (h : o + len ≤ xs.length ∧ len ≤ cap) : Frz l0 e z xs (.sl l0 (o * z) len cap z) (.d (.sl (((xs.drop o).take len).map e)))
  | data0 {len cap : Nat} (h : len ≤ xs.length ∧ len ≤ cap) : Frz l0 e z xs (.sl l0 0 len cap z) (.d (.sl ((xs.take len).map e)))
  | all {len cap : Nat} (h : len = xs.length ∧ len ≤ cap) : Frz l0 e z xs (.sl l0 0 len cap z) (.d (.sl (xs.map e)))
  | win {len cap : Nat} (h : len ≤ xs.length ∧ cap = xs.length) : Frz l0 e z xs (.sl l0 0 len cap z) (.win (xs.map e) len)
  | ap {len cap : Nat} (h : len = xs.length ∧ cap = len) : Frz l0 e z xs (.sl l0 0 len cap z) (.ap l0 z (xs.map e))
def frzS (l0 : Nat) (e : α → D) (z : Nat) (xs : List α) (l : List (Nat × AV)) : List (Nat × AV) → Prop
  | [] => True
  | (t, v) :: r => (∃ u, lk l t = some u ∧ Frz l0 e z xs u v) ∧ frzS l0 e z xs l r
theorem frzS.get {l0 : Nat} {xs : List α} {l : List (Nat × AV)} : ∀ {l' : List (Nat × AV)}, frzS l0 e z xs l l' → ∀ t v, lk l' t = some v → ∃ u, lk l t = some u ∧ Frz l0 e z xs u v
  | [], _, t, v, h => by cases h
  | (k, x) :: r, h, t, v, hv => by
    simp only [lk] at hv
    cases hb : Nat.beq k t with
    | true => rw [hb] at hv; cases hv; cases Nat.eq_of_beq_eq_true hb; exact h.1
    | false => rw [hb] at hv; exact frzS.get h.2 t v hv

variable {ro : Option Nat} {N n m : Nat} {H : AHeap} {Q : Exit → AAct → AHeap → Nat → Prop} {l l' : List (Nat × AV)}
end
end

section
variable {P : Program} {aops os : List AOper} {draw : Bool} {N k c : Nat} {l : List (Nat × AV)} {H H' : AHeap} {A : List Tk} {Q : AAct → AHeap → Nat → Prop}
variable {gd : Option (Nat × Bool)} {af : List Nat} {t : Nat} {z : Nat} {x y : Arg} {n m : Int}
theorem restK_new : ∀ (H : AHeap) (a b : AObj), restK [] [(c, a)] H = restK [] [(c, b)] H := by
  intro H a b
  induction H with
  | nil => rfl
  | cons p r ih => obtain ⟨l, o⟩ := p; simp only [restK, hasK, ih]
theorem newOK_one {o : AObj} : newOK c [] [(c, o)] = true := by simp [newOK]
end
end Go.Proofs.Abs
end
section
/- Windows; copies of rows; small words. -/
namespace Go.Proofs.Abs
open Go
set_option linter.unusedVariables false
set_option linter.unusedSectionVars false
section
variable {α : Type} {e : α → D}
theorem toSlW (t : List α) (n : Nat) : toSl (.win (t.map e) n) = some ((t.take n).map e) := by simp [toSl, List.map_take]
theorem Sub.win {t : List α} {n : Nat} : Sub (.win (t.map e) n) (.d (.sl ((t.take n).map e))) := .sl (toSlW t n)
theorem int_ok (k : IntKind) : EncOK (D.int k) 1 false := ⟨fun _ => rfl, fun _ c hc => by simp [D.cells] at hc; subst hc; rfl, fun _ => rfl⟩
theorem str_ok : EncOK D.str 1 false := ⟨fun _ => rfl, fun _ c hc => by simp [D.cells] at hc; subst hc; rfl, fun _ => rfl⟩
theorem slE_ok : EncOK (slE e) 1 false := ⟨fun _ => rfl, fun _ c hc => by simp [D.cells] at hc; subst hc; rfl, fun _ => rfl⟩
end

section
variable {P : Program}
end

section
variable {P : Program} {aops os : List AOper} {draw : Bool} {N k c : Nat} {l : List (Nat × AV)} {H H' : AHeap} {A : List Tk} {Q : AAct → AHeap → Nat → Prop}
variable {gd : Option (Nat × Bool)} {af : List Nat} {t : Nat} {α : Type} {e : α → D} {z : Nat} {x y : Arg} {n m : Int} {ys : List α} {q : Nat}
end

/-! ### a copy -/
def CloneC (z by' : Nat) (zz : List D) : AFunc := { n := 8, params := 1, res := [.tmp 2], body :=
 (.seq (.region false [⟨(some 2), .mv (.k .nils), none, []⟩])
  (.seq (.seq (.region false [⟨(some 3), .mv (.t 0), none, []⟩,
     ⟨(some 4), .nileq 0 false (.t 3) (.k .nils), none, [0]⟩])
    (.cond (.t 4) (.seq (.region false [⟨(some 2), .mv (.k .nils), none, []⟩])
      .ret)
     (.skip)))
   (.seq (.region false [⟨(some 5), .bslice 0 z zz [], none, []⟩,
     ⟨(some 6), .mv (.t 0), none, []⟩,
     ⟨(some 7), .app (.t 5) (.t 6) z by' zz, none, [0, 1]⟩,
     ⟨(some 2), .mv (.t 7), none, [2, 0, 1]⟩])
    .ret))) }
end Go.Proofs.Abs
end
section
/- More words of the generator. -/
namespace Go.Proofs.Abs
open Go
set_option linter.unusedVariables false
set_option linter.unusedSectionVars false
section
variable {P : Program} {aops os : List AOper} {draw : Bool} {N k c : Nat} {l : List (Nat × AV)} {H H' : AHeap} {A : List Tk} {Q : AAct → AHeap → Nat → Prop}
variable {gd : Option (Nat × Bool)} {af : List Nat} {t : Nat} {α : Type} {e : α → D} {z : Nat} {x y : Arg} {n m : Int} {ys : List α} {q : Nat}
end
section
variable {P : Program} {N n : Nat} {l sl : List (Nat × AV)} {H : AHeap} {ps : List Nat} {f : FuncId} {ws ys : List AV} {Q : Exit → AAct → AHeap → Nat → Prop} {asg bd : Code} {hin hout H' : AHeap} {r : AV} {N' : Nat} {sl' : List (Nat × AV)} {ps' : List Nat} {asg' bd' : Code}
    {st : LoopState} {c' id : Nat}
theorem rfN (hcall : ACalls P f ys hin r hout) (hsub : SubL ws ys) (hin' : HasAll ((n, AObj.lp N sl ps asg bd .ready none) :: H) hin) (hn : newOK (n + 1) hin hout = true)
    (hlp : lkH hout n = some (.lp N' sl' ps' asg' bd' st none)) (hst : notBusy st = true) (hH : dropK n (appK hout (restK hin hout ((n, .lp N sl ps asg bd .ready none) :: H))) = H') (hc : topK (n + 1) hout = c')
    (hQ : Q .normal ⟨N, l⟩ H' c') : RFok P N n l sl H ps f ws Q asg bd := rfOK hcall hsub hin' hn hlp hst hH hc hQ
theorem rfR (hcall : ACalls P f ys hin r hout) (hsub : SubL ws ys) (hin' : HasAll ((n, AObj.lp N sl ps asg bd .ready none) :: H) hin) (hn : newOK (n + 1) hin hout = true)
    (hlp : lkH hout n = some (.lp N' sl' ps' asg' bd' st (some .ret))) (hst : notBusy st = true) (hH : dropK n (appK hout (restK hin hout ((n, .lp N sl ps asg bd .ready none) :: H))) = H') (hc : topK (n + 1) hout = c')
    (hQ : Q .ret ⟨N, l⟩ H' c') : RFok P N n l sl H ps f ws Q asg bd := rfOK hcall hsub hin' hn hlp hst hH hc hQ
end
end Go.Proofs.Abs
end
section
/- Rows of one's own whose room is not known: what append and make bring forth. -/
namespace Go.Proofs.Abs
open Go
set_option linter.unusedVariables false
set_option linter.unusedSectionVars false
section
variable {P : Program}
/-- such a row's cells -/
theorem AOpT.rowP {ao : AOp} {A : List (Nat × AV)} {r : AV} {l0 : Nat} {ds ds' : List D} (hne : ds ≠ []) (h : ∀ X : List AV, AOpT P ao A [(l0, .cells (ds.map .d ++ X))] r [(l0, .cells (ds'.map .d ++ X))]) : AOpT P ao A [(l0, .rowP ds)] r [(l0, .rowP ds')] := by
  refine ⟨(h []).1, fun o ho => ⟨((h []).2 o ho).1, fun S i w ρ hev hh hf => ?_⟩⟩
  rcases hh.obj _ _ List.mem_cons_self with ⟨b, hb, c, e, hc, hs, hv, hns⟩ | ⟨_, hz⟩
  case inr => exact absurd hz hne
  let X : List AV := List.replicate (c.size - ds.length) .any
  have hlen : (ds.map AV.d ++ X).length = c.size := by simp [X]; omega
  have hh' : HeapRel S i [(l0, .cells (ds.map .d ++ X))] w := by
    refine ⟨hh.cell, hh.size, fun l o hm => ?_, fun l o l' o' b x y _ _ => ?_, hh.dom, hh.gr⟩
    · cases List.mem_singleton.1 hm
      refine .inl ⟨b, hb, c, e, hc, hlen.symm, fun j h1 h2 => ?_, hns⟩
      by_cases hj : j < ds.length
      · rw [List.getElem_append_left (by simpa using hj), List.getElem_map]
        exact .d (hv j hj h2)
      · rw [List.getElem_append_right (by simpa using Nat.le_of_not_lt hj)]
        simp only [X, List.getElem_replicate]
        exact .any
    · cases List.mem_singleton.1 x; cases List.mem_singleton.1 y; rfl
  refine (((h X).2 o ho).2 S i w ρ hev hh' hf).mono fun v w' hp => ?_
  obtain ⟨S', i', p1, p2, p3, p4, p5⟩ := hp
  have hb1 : ∀ {k : Emb} {b : Nat} {p q : AObj}, blk k [(l0, p)] b → blk k [(l0, q)] b := by
    rintro k b p q ⟨l, o, hm, hk⟩
    cases List.mem_singleton.1 hm
    exact ⟨l0, q, List.mem_singleton.2 rfl, hk⟩
  refine ⟨S', i', p1, ⟨p2.cell, p2.size, fun l o hm => ?_, fun l o l' o' b x y _ _ => ?_, p2.dom, p2.gr⟩, p3, ⟨p4.up, p4.grow, fun b hb hx => p4.old b hb fun h => hx (hb1 h), fun a v h => (p4.newSeal a v h).imp id (Or.imp hb1 id), fun l b h => (p4.newEmb l b h).imp id (Or.imp hb1 id),
    fun b h => (p4.sub b (hb1 h)).imp hb1 id, p4.os, p4.out, p4.tape⟩, p5⟩
  · cases List.mem_singleton.1 hm
    rcases p2.obj _ _ List.mem_cons_self with ⟨b', hb', c', e', hc', hs', hv', hns'⟩ | ⟨_, hz⟩
    case inr => exact hz.elim
    refine .inl ⟨b', hb', c', e', hc', by rw [hs']; simp, fun j h1 h2 => ?_, hns'⟩
    have := hv' j (by simp; omega) h2
    rw [List.getElem_append_left (by simpa using h1), List.getElem_map] at this
    exact vD this
  · cases List.mem_singleton.1 x; cases List.mem_singleton.1 y; rfl

abbrev rowO {α : Type} (e : α → D) (xs : List α) : AObj := .rowP (cellsD e xs)
section
variable {α : Type} {e : α → D} {z : Nat} {g : Bool}
end

section
variable {aops os : List AOper} {draw : Bool} {N k c : Nat} {l : List (Nat × AV)} {H H' : AHeap} {A : List Tk} {Q : AAct → AHeap → Nat → Prop}
variable {gd : Option (Nat × Bool)} {af : List Nat} {t u : Nat}
variable {α : Type} [Inhabited α] {e : α → D} {z : Nat} {g : Bool} {xs ys : List α} {l0 i j o len cap : Nat} {x y : Arg} {n m : Int} {kd : IntKind}
theorem evA_head {t : Nat} {v : AV} {l : List (Nat × AV)} : evA ((t, v) :: l) (.t t) = some v := by simp [evA, lk]
end
theorem compBin_no {op : BinOp} {t : TypeId} {x y a b : Arg} {z by' : Nat} {zz : List D} : (compBin P op t x y = .app a b z by' zz → False) ∧ (compBin P op t x y = .grow a b z by' zz → False) := by
  constructor <;> intro h <;> unfold compBin at h <;> repeat' (first | cases h | split at h)
theorem compConv_no {s d : TypeId} {x a b : Arg} {z by' : Nat} {zz : List D} : (compConv P s d x = .app a b z by' zz → False) ∧ (compConv P s d x = .grow a b z by' zz → False) := by
  constructor <;> intro h <;> unfold compConv at h <;> repeat' (first | cases h | split at h)
theorem compOp_app {op : Op} {a b : Arg} {z by' : Nat} {zz : List D} (h : compOp P op = .app a b z by' zz) : ∃ c, op = .call c ∧ CallK P c (.app a b z by' zz) := by
  cases op with
  | call c =>
    simp only [compOp] at h
    rcases compCall_inv (P := P) (c := c) with hb | hk
    · rw [hb] at h; cases h
    · rw [h] at hk; exact ⟨c, rfl, hk⟩
  | binOp op t x y t' =>
    simp only [compOp] at h
    split at h
    · exact (compBin_no.1 h).elim
    · cases h
  | convert s d x =>
    simp only [compOp] at h
    split at h
    · exact (compConv_no.1 h).elim
    · cases h
  | makeFunc fn first caps =>
    cases fn with
    | func f =>
      simp only [compOp] at h
      repeat' (first | cases h | split at h)
    | _ => cases h
  | makeMap t r => exfalso; cases r <;> simp [compOp] at h
  | lookup t x i ok =>
    exfalso
    cases ok
    · cases h
    · simp only [compOp] at h
      repeat' (first | cases h | split at h)
  | _ =>
    simp only [compOp, szK, sbK, aggK] at h
    repeat' (first | cases h | split at h)
theorem compOp_grow {op : Op} {a b : Arg} {z by' : Nat} {zz : List D} (h : compOp P op = .grow a b z by' zz) : ∃ c, op = .call c ∧ CallK P c (.grow a b z by' zz) := by
  cases op with
  | call c =>
    simp only [compOp] at h
    rcases compCall_inv (P := P) (c := c) with hb | hk
    · rw [hb] at h; cases h
    · rw [h] at hk; exact ⟨c, rfl, hk⟩
  | binOp op t x y t' =>
    simp only [compOp] at h
    split at h
    · exact (compBin_no.2 h).elim
    · cases h
  | convert s d x =>
    simp only [compOp] at h
    split at h
    · exact (compConv_no.2 h).elim
    · cases h
  | makeFunc fn first caps =>
    cases fn with
    | func f =>
      simp only [compOp] at h
      repeat' (first | cases h | split at h)
    | _ => cases h
  | makeMap t r => exfalso; cases r <;> simp [compOp] at h
  | lookup t x i ok =>
    exfalso
    cases ok
    · cases h
    · simp only [compOp] at h
      repeat' (first | cases h | split at h)
  | _ =>
    simp only [compOp, szK, sbK, aggK] at h
    repeat' (first | cases h | split at h)

/-- a new row of one's own, its room not known -/
theorem post_row {S : Seal} {i : Emb} {w w' : World} {c : Array Value} {e : TypeId} {nl z n cap : Nat} {ds : List D} (hh : HeapRel S i [] w) (hn : NewBlk w w' c e (0, 0)) (hf : i nl = none) (hds : ds.length ≤ c.size)
    (hv : ∀ j (h1 : j < ds.length) (h2 : j < c.size), DV S ds[j] c[j]) (hcap : cap * z ≤ c.size) (hnc : n ≤ cap) : Post S i [] w (.row nl z n) [(nl, .rowP ds)] (.slice (some ⟨w.heap.size, 0, none⟩) n cap) w' := by
  have hi : i.set nl w.heap.size nl = some w.heap.size := by simp [Emb.set]
  obtain ⟨S', i', p1, p2, p3, p4, p5⟩ := post_tok (k := 0) (nl := nl) (r := .row nl z n) (v := .slice (some ⟨w.heap.size, 0, none⟩) n cap) hh hn hf (.row hi (m := c.size) (by simp [Seal.add]) hcap hnc)
  have hb0 : i' nl = some w.heap.size := by cases p1 with | row h _ _ _ => exact h
  have hle : S.le S' := p4.up
  refine ⟨S', i', p1, ⟨p2.cell, p2.size, fun l o hm => ?_, fun l o l' o' b x y _ _ => ?_, p2.dom, p2.gr⟩, p3, ⟨p4.up, p4.grow, p4.old, p4.newSeal, p4.newEmb, fun b ⟨l, o, hm, hb⟩ => ?_, p4.os, p4.out, p4.tape⟩, p5⟩
  · cases List.mem_singleton.1 hm
    rcases p2.obj nl (.tok 0) List.mem_cons_self with ⟨b', hb', c', e', hc', hns⟩ | ⟨h, _⟩
    case inr => rw [hb0] at h; cases h
    rw [hb0] at hb'; cases hb'
    have := hn.new
    rw [hc'] at this
    cases this
    exact .inl ⟨_, hb0, c, e, hc', hds, fun j h1 h2 => (hv j h1 h2).mono hle, fun a ha => hns a ha (Nat.zero_le _)⟩
  · cases List.mem_singleton.1 x; cases List.mem_singleton.1 y; rfl
  · cases List.mem_singleton.1 hm
    exact p4.sub b ⟨nl, .tok 0, List.mem_singleton.2 rfl, hb⟩
end
end Go.Proofs.Abs
end
section
/- Room is made for a slice. -/
namespace Go.Proofs.Abs
open Go
set_option linter.unusedVariables false
set_option linter.unusedSectionVars false
set_option linter.unusedSimpArgs false
section
variable {P : Program} {w : World}
theorem run_grow {ats : Array TypeId} {t u ty e : TypeId} {j : TypeInfo} {z : Value} {k kk : IntKind} (h0 : ats[0]? = some t) (h1 : ats[1]? = some u) (ht : P.underlying t = some (.slice e)) (hu : P.underlying u = some (.int k))
    (hj : P.info? e = some j) (hz : j.zero = some z) {n : Int} (hn : 0 < n) (hb : 0 < j.bytes) (hs : 0 < j.size) (hfit : n * j.bytes ≤ 281474976710656) :
    (Builtin.append_ ats ty #[.slice none 0 0, .int kk n]).run P w =
      .ok (.slice (some ⟨w.heap.size, 0, none⟩) n.toNat (grownCap w n.toNat 0 e)) (w.drew.alloc (.cells (Builtin.zeroCells z.cells n.toNat ++ Builtin.zeroCells z.cells (grownCap w n.toNat 0 e - n.toNat)) e)) := by
  have hle : n ≤ 281474976710656 := by
    have h2 : n * 1 ≤ n * (j.bytes : Int) := Int.mul_le_mul_of_nonneg_left (by omega) (by omega)
    omega
  have hw : IntKind.i64.wrap n = n := wrap_small (by omega) hle
  have hnl : ¬ (n < 0) := by omega
  have hfit' : ¬ (281474976710656 < n * j.bytes) := by omega
  have hn0 : ¬ (n.toNat ≤ 0) := by omega
  have hn1 : ¬ (n.toNat = 0) := by omega
  have h63' : ¬ (9223372036854775807 < (n.toNat : Int)) := by omega
  have hnc : Builtin.nextslicecap n.toNat 0 = n.toNat := nextslicecap_zero (by omega)
  have hf2 : ¬ (281474976710656 < n.toNat * j.bytes) := by
    intro h
    have : ((n.toNat * j.bytes : Nat) : Int) = n * j.bytes := by rw [Int.natCast_mul, Int.toNat_of_nonneg (by omega)]
    omega
  have hs0 : ¬ (j.size = 0) := by omega
  have hmx : max n 0 = n := by omega
  have h64 : ¬ (9223372036854775807 < n) := by omega
  have hn2 : ¬ (n ≤ 0) := by omega
  have hns : ¬ (n.toNat * j.size = 0) := by
    have := Nat.mul_pos (show 0 < n.toNat by omega) hs
    omega
  simp [Builtin.append_, h0, h1, run_underlying ht, run_underlying hu, sizeOf, typeInfo, zeroValue, hj, hz, hw, hnl, hfit', hn0, hn1, h63', hnc, hf2, hs0, Question.forced, newRow, grownCap, asInt, asIntOf, Builtin.firstCells, hmx, h64, hn2, hns]

theorem AOpT.grow {A : List (Nat × AV)} {x y : Arg} {z by' nl : Nat} {zz : List D} {kd : IntKind} {n : Int} (hx : evA A x = some .nils) (hy : evA A y = some (.d (.int kd n))) (hzl : zz.length = z) (hzp : 0 < z) (hby : 0 < by') (hn : 0 < n) (hfit : n * by' ≤ 281474976710656) :
    AOpT P (.grow x y z by' zz) A [] (.row nl z n.toNat) [(nl, .rowP [])] := by
  refine ⟨fun w hw hb => (by subst hw; cases hb), fun o hao => ?_⟩
  obtain ⟨c, hop, hk⟩ := compOp_grow hao
  cases hk with
  | grow hc ha hxa hya ht hu hu2 hz hj =>
    rename_i x0 y0 t u e k ts j
    obtain ⟨j', z0, hj', hz0, hcz⟩ := zeroA_inv hz
    rw [hj] at hj'
    cases hj'
    have hzz : zz.length = z0.cells.size := by simpa using (constDs_at hcz).1
    have h0 : c.argTypes[0]? = some t := arr0 ht
    have h1 : c.argTypes[1]? = some u := by rw [← Array.getElem?_toList, ht]; rfl
    refine ⟨by simp [hop], fun S i w ρ hev hh hf => ?_⟩
    have hfn : i nl = none := hf nl (by simp [AHeap.keys]) (by simp [AHeap.keys])
    have hxn : ρ x0 = .slice none 0 0 := by
      have := argV hev hxa hx
      generalize ρ x0 = v at this
      cases this; rfl
    have hyn := vInt (argV hev hya hy)
    have hexec : (execOp ρ o).run P w = ((Builtin.append_ c.argTypes o.type #[ρ x0, ρ y0]).run P w).andThen fun v w' => .ok (.value v) w' := by
      simp only [execOp, hop, resolve, hc, arr2 ha, List.map_toArray, List.map_cons, List.map_nil, Sem.run_bind, Sem.run_pure, Result.andThen_ok, invoke, builtin]
    rw [hexec, hxn, hyn, run_grow h0 h1 (und_some hu (by simp)) (und_some hu2 (by simp)) hj hz0 hn hby hzp hfit, Result.andThen_ok]
    have hcap := grownCap_ge w n.toNat 0 e
    generalize hgc : grownCap w n.toNat 0 e = cap at *
    generalize hC : Builtin.zeroCells z0.cells n.toNat ++ Builtin.zeroCells z0.cells (cap - n.toNat) = C at *
    have hnb : NewBlk w (w.drew.alloc (.cells C e)) C e (0, 0) := by
      have := newblk_alloc w.drew C e
      exact ⟨this.size, this.old, this.new, this.os, this.out, this.tape⟩
    have hsz : C.size = cap * j.size := by
      rw [← hC]
      simp only [Array.size_append, size_zeroCells, ← hzz, hzl]
      rw [← Nat.add_mul]
      congr 1; omega
    exact post_row hh hnb hfn (Nat.zero_le _) (fun m h1 _ => by simp at h1) (by rw [hsz]; exact Nat.le_refl _) hcap

/-! ### room is made -/
def GrowC (z by' : Nat) (zz : List D) : AFunc := { n := 27, params := 2, res := [.tmp 4], body :=
 (.seq (.region false [⟨(some 4), .mv (.k .nils), none, []⟩])
  (.seq (.seq (.region false [⟨(some 5), .mv (.t 1), none, []⟩,
     ⟨(some 6), .bin .lss (.t 5) (.k (.d (.int .i64 0))), none, [0]⟩])
    (.cond (.t 6) (.region false [⟨(some 7), .bad, none, []⟩,
      ⟨none, .bad, none, [0]⟩])
     (.skip)))
   (.seq (.seq (.region false [⟨(some 8), .mv (.t 1), none, []⟩,
      ⟨(some 9), .mv (.t 0), none, []⟩,
      ⟨(some 10), .cap (.t 9), none, [1]⟩,
      ⟨(some 11), .mv (.t 0), none, []⟩,
      ⟨(some 12), .len (.t 11), none, [3]⟩,
      ⟨(some 13), .bin .sub (.t 10) (.t 12), none, [2, 4]⟩,
      ⟨(some 14), .bin .sub (.t 8) (.t 13), none, [0, 5]⟩,
      ⟨(some 1), .mv (.t 14), none, [6, 0, 1, 2, 3, 4, 5]⟩])
     (.seq (.region false [⟨(some 15), .mv (.t 1), none, []⟩,
       ⟨(some 16), .bin .gtr (.t 15) (.k (.d (.int .i64 0))), none, [0]⟩])
      (.cond (.t 16) (.region false [⟨(some 17), .mv (.t 0), none, []⟩,
        ⟨(some 18), .mv (.t 0), none, []⟩,
        ⟨(some 19), .cap (.t 18), none, [1]⟩,
        ⟨(some 20), .slc (.t 17) none (some (.t 19)) none z, none, [0, 2]⟩,
        ⟨(some 21), .mv (.t 1), none, []⟩,
        ⟨(some 22), .grow (.t 20) (.t 21) z by' zz, none, [3, 4]⟩,
        ⟨(some 23), .mv (.t 0), none, []⟩,
        ⟨(some 24), .len (.t 23), none, [6]⟩,
        ⟨(some 25), .slc (.t 22) none (some (.t 24)) none z, none, [5, 7]⟩,
        ⟨(some 0), .mv (.t 25), none, [8, 5, 0, 1, 2, 3, 4, 6, 7]⟩])
       (.skip))))
    (.seq (.region false [⟨(some 26), .mv (.t 0), none, []⟩,
      ⟨(some 4), .mv (.t 26), none, [0]⟩])
     .ret)))) }
end
section
variable {P : Program} {aops os : List AOper} {draw : Bool} {N k c : Nat} {l : List (Nat × AV)} {H H' : AHeap} {A : List Tk} {Q : AAct → AHeap → Nat → Prop}
variable {gd : Option (Nat × Bool)} {af : List Nat} {t : Nat} {z l0 len : Nat} {x y : Arg} {n : Int} {kd : IntKind}
theorem RegV.grow {by' : Nat} {zz : List D} (hg : gOn gd (us l ⟨some t, .grow x y z by' zz, gd, af⟩) = some true) (hx : evA (us l ⟨some t, .grow x y z by' zz, gd, af⟩) x = some .nils) (hy : evA (us l ⟨some t, .grow x y z by' zz, gd, af⟩) y = some (.d (.int kd n))) (hzl : zz.length = z) (hzp : Nat.blt 0 z = true)
    (hby : Nat.blt 0 by' = true) (hn0 : 0 < n) (hfit : n * by' ≤ 281474976710656) (hd : Nat.blt t N = true) (hH : restK [] [(c, .tok 0)] H = H)
    (hn : RegV P aops draw N (k + 1) os (c + 1) ((t, .row c z n.toNat) :: l) ((c, .rowP []) :: H) (⟨[c], false⟩ :: A) Q) : RegV P aops draw N k (⟨some t, .grow x y z by' zz, gd, af⟩ :: os) c l H A Q := by
  refine RegV.up (fun _ h' => RegU.op hg (AOpT.grow (nl := c) hx hy hzl (Nat.le_of_ble_eq_true hzp) (Nat.le_of_ble_eq_true hby) hn0 hfit) hd (fun x hx => by cases hx) newOK_one rfl (q := false) (fun h => by cases h) rfl (H' := (c, .rowP []) :: H) ?_ topK_one h') hn
  rw [restK_new H _ (.tok 0), hH]; rfl
variable {α : Type} {e : α → D} {g : Bool} {ys : List α} in
end
end Go.Proofs.Abs
end
section
/- What a law is handed, read as typed data. -/
namespace Go.Proofs.Abs
open Go Go.ChangeShapes Go.WideShapes Go.ChangeAt Go.RowKit
set_option linter.unusedVariables false
set_option linter.unusedSectionVars false

mutual
def bulk {H : Type} : DataW H → Nat
  | .lit (.string bytes) => bytes.length + 1
  | .lit _ => 1
  | .nil => 1
  | .ptr d => bulk d + 1
  | .slice elems spare => bulkAll elems + bulkAll spare + 1
  | .agg parts => bulkAll parts + 1
  | .iface _ d => bulk d + 1
  | .map entries => bulkEntries entries + 1
  | .held _ => 1
def bulkAll {H : Type} : List (DataW H) → Nat
  | [] => 0
  | d :: r => bulk d + bulkAll r
def bulkEntries {H : Type} : List (Lit × DataW H) → Nat
  | [] => 0
  | x :: r => bulkEntry x + bulkEntries r
def bulkEntry {H : Type} : Lit × DataW H → Nat
  | (.string bytes, d) => bytes.length + bulk d + 1
  | (_, d) => bulk d + 1
end

theorem add_add (a : Addr) (x y : Nat) : (a.add x).add y = a.add (x + y) := by
  obtain ⟨b, o, s⟩ := a
  unfold Addr.add
  by_cases hx : x = 0 <;> by_cases hy : y = 0 <;> simp [hx, hy, Nat.add_assoc]
/-- a type's values, read as typed data -/
structure Rd (P : Program) (t : TypeId) {α : Type} (e : α → D) (wf : α → Prop) (sz : α → Nat) : Prop where
  read : ∀ {H : Type} {enc : TypeId × Value → H} {W : World} {fuel : Nat} {cs : List Value} {x : DataW H × List MemPlace}, DataW.trod enc P W 0 (fun _ => true) true fuel t cs = some x →
    ∃ a : α, wf a ∧ sz a ≤ bulk x.1 ∧ (e a).cells.length = cs.length ∧ ∀ j (h1 : j < (e a).cells.length) (h2 : j < cs.length), DV (sealOf W) (e a).cells[j] cs[j]

section
variable {P : Program} {t : TypeId}
theorem rd_one {α : Type} {e : α → D} {S : Seal} {a : α} {v : Value} (h : (e a).isAgg = false) (hv : DV S (e a) v) : (e a).cells.length = [v].length ∧ ∀ j (h1 : j < (e a).cells.length) (h2 : j < [v].length), DV S (e a).cells[j] [v][j] := by
  have hc := one_cells h
  refine ⟨by simp [hc], fun j h1 h2 => ?_⟩
  have : j = 0 := by simp at h2; exact h2
  subst this
  simp only [hc, List.getElem_cons_zero]
  exact hv
theorem rd_int {k : IntKind} (hu : P.underlying t = some (.int k)) : Rd P t (D.int k) (fun n => k.min ≤ n ∧ n ≤ k.max) (fun _ => 1) := ⟨by
  intro H enc W fuel cs x h
  obtain ⟨n, rfl, rfl, hw⟩ := DataW.trod_int hu h
  obtain ⟨h1, h2⟩ := rd_one (e := D.int k) (a := n) (S := sealOf W) rfl .int
  exact ⟨n, by simpa [Lit.wf] using hw, by simp [bulk], h1, h2⟩⟩
theorem rd_str (hu : P.underlying t = some .string) : Rd P t D.str (fun _ => True) (fun s => s.length + 1) := ⟨by
  intro H enc W fuel cs x h
  obtain ⟨s, rfl, rfl, hs⟩ := DataW.trod_string hu h
  have hv : DV (sealOf W) (D.str s.data.toList) (.string s) := by
    have : (⟨s.data.toList.toArray⟩ : ByteArray) = s := by cases s; simp
    conv => arg 3; rw [← this]
    exact .str
  obtain ⟨h1, h2⟩ := rd_one (e := D.str) (a := s.data.toList) rfl hv
  exact ⟨s.data.toList, trivial, by simp [bulk], h1, h2⟩⟩

theorem sum_le {α H : Type} {sz : α → Nat} : ∀ {xs : List α} {ys : List (DataW H)}, xs.length = ys.length → (∀ i (h1 : i < xs.length) (h2 : i < ys.length), sz xs[i] ≤ bulk ys[i]) → (xs.map sz).sum ≤ bulkAll ys
  | [], [], _, _ => by simp [bulkAll]
  | x :: xs, y :: ys, hl, h => by
    have h0 := h 0 (by simp) (by simp)
    have h1 := sum_le (sz := sz) (xs := xs) (ys := ys) (by simpa using hl) (fun i k1 k2 => h (i + 1) (by simpa using k1) (by simpa using k2))
    simp only [List.map_cons, List.sum_cons, bulkAll]
    simp only [List.getElem_cons_zero] at h0
    omega

theorem rd_slice {el : TypeId} {α : Type} {e : α → D} {wf : α → Prop} {sz : α → Nat} {z : Nat} {g : Bool} (hu : P.underlying t = some (.slice el)) (he : EncOK e z g) (hz : 0 < z) (hc : P.cellsOf el = z) (r : Rd P el e wf sz) :
    Rd P t (slE e) (fun xs => ∀ a ∈ xs, wf a) (fun xs => (xs.map sz).sum + 1) := ⟨by
  intro H enc W fuel cs x h
  rcases DataW.trod_slice hu h with ⟨rfl, rfl⟩ | ⟨a, len, cap, elems, rest, n, _, rfl, rfl, hb, hl, hm, hlen, hel, hsp, _⟩
  · obtain ⟨h1, h2⟩ := rd_one (e := slE e) (a := []) (S := sealOf W) (v := .slice none 0 0) rfl .nilsl
    exact ⟨[], by simp, by simp [bulk], h1, h2⟩
  rw [hc] at hel hsp
  have each : ∀ i : Fin len, ∃ a0 : α, wf a0 ∧ (∃ hi : i.1 < elems.length, sz a0 ≤ bulk elems[i.1].1) ∧ ∀ m (hm : m < (e a0).cells.length), ∃ v, W.cell? (a.add (i.1 * z + m)) = some v ∧ DV (sealOf W) (e a0).cells[m] v := by
    intro i
    have hi : i.1 < elems.length := by rw [hlen]; exact i.2
    have := hel i.1 i.2
    rw [List.getElem?_eq_getElem hi, Option.bind_eq_some_iff] at this
    obtain ⟨cs', hcs, hy⟩ := this
    obtain ⟨a0, w1, w2, w3, w4⟩ := r.read hy
    refine ⟨a0, w1, ⟨hi, w2⟩, fun m hm => ?_⟩
    have hm' : m < cs'.length := by rw [← w3]; exact hm
    obtain ⟨_, hcl, hcell⟩ := World.cells?_some hcs
    refine ⟨cs'[m], ?_, w4 m hm hm'⟩
    have h5 := hcell m (by rw [← hcl]; exact hm')
    rw [List.getElem?_eq_getElem hm'] at h5
    rw [← h5, add_add]
  let xs : List α := List.ofFn fun i : Fin len => Classical.choose (each i)
  have hxl : xs.length = len := by simp [xs]
  have hx : ∀ i (hi : i < xs.length), wf xs[i] ∧ (∃ h : i < elems.length, sz xs[i] ≤ bulk elems[i].1) ∧ ∀ m (hm : m < (e xs[i]).cells.length), ∃ v, W.cell? (a.add (i * z + m)) = some v ∧ DV (sealOf W) (e xs[i]).cells[m] v := by
    intro i hi
    have hi' : i < len := by rw [← hxl]; exact hi
    have := Classical.choose_spec (each ⟨i, hi'⟩)
    simpa [xs, List.getElem_ofFn] using this
  have hdv : DV (sealOf W) (.sl (xs.map e)) (.slice (some a) len cap) := by
    by_cases hcap : cap = 0
    · have h0 : len = 0 := by omega
      have : xs = [] := List.eq_nil_of_length_eq_zero (by rw [hxl, h0])
      rw [this, h0, hcap]
      exact .emp
    · have hspot : a.spot = none := by
        have h0 : ∃ y cs', W.cells? 0 (a.add (0 * z)) z = some cs' ∧ DataW.trod enc P W 0 (fun _ => true) true n el cs' = some y := by
          by_cases hl0 : len = 0
          · obtain ⟨hr1, hr2⟩ := hsp rfl
            have h1 : 0 < rest.length := by omega
            have := hr2 0 (by omega)
            rw [List.getElem?_eq_getElem h1, Option.bind_eq_some_iff] at this
            obtain ⟨cs', hcs, hy⟩ := this
            rw [hl0] at hcs
            exact ⟨_, cs', hcs, hy⟩
          · have h1 : 0 < elems.length := by omega
            have := hel 0 (by omega)
            rw [List.getElem?_eq_getElem h1, Option.bind_eq_some_iff] at this
            obtain ⟨cs', hcs, hy⟩ := this
            exact ⟨_, cs', hcs, hy⟩
        obtain ⟨y, cs', hcs, _⟩ := h0
        obtain ⟨_, hcl, hcell⟩ := World.cells?_some hcs
        have h5 := hcell 0 hz
        have h6 : 0 < cs'.length := by rw [hcl]; exact hz
        rw [List.getElem?_eq_getElem h6] at h5
        unfold World.cell? at h5
        split at h5
        · split at h5
          · cases h5
          · rename_i hs
            cases hsx : a.spot with
            | none => rfl
            | some s => simp [Addr.add, hsx] at hs
        · cases h5
      obtain ⟨b, o, sp⟩ := a
      simp only at hspot
      subst hspot
      have hll : (xs.map e).length = len := by simp [hxl]
      have hzz : ∀ d ∈ xs.map e, d.cells.length = z := fun d hd => by obtain ⟨y, _, rfl⟩ := List.mem_map.1 hd; exact he.len y
      have key : ∀ m (hm : m < (flat (xs.map e)).length), ∃ v, W.cell? ⟨b, o + m, none⟩ = some v ∧ DV (sealOf W) (flat (xs.map e))[m] v := by
        intro m hm
        have hfl := flat_len hzz
        have h1 : m / z < xs.length := by
          rw [Nat.div_lt_iff_lt_mul hz]; rw [hfl] at hm; simpa using hm
        have h2 : m % z < z := Nat.mod_lt _ hz
        obtain ⟨q1, q2, q3⟩ := flat_at hzz (n := m / z) (m := m % z) (by simpa using h1) h2
        obtain ⟨_, _, w3⟩ := hx (m / z) h1
        obtain ⟨v, v1, v2⟩ := w3 (m % z) (by rw [he.len]; exact h2)
        have hmm : m / z * z + m % z = m := by rw [Nat.mul_comm]; exact Nat.div_add_mod m z
        refine ⟨v, ?_, ?_⟩
        · rw [← v1, addr_add]; congr 2; omega
        · have e1 : (flat (xs.map e))[m] = (flat (xs.map e))[m / z * z + m % z] := by simp only [hmm]
          rw [e1, q3]
          simpa using v2
      have := DV.sl (S := sealOf W) (z := z) (l := xs.map e) (b := b) (o := o) (cap := cap) (fun m => (W.cell? ⟨b, o + m, none⟩).getD undef) hzz (cellsD_sc he xs) (by rw [hll]; exact hl) (fun m hm => by
        obtain ⟨v, v1, _⟩ := key m hm
        show W.cell? _ = _
        rw [v1]; rfl) (fun m hm => by
        obtain ⟨v, v1, v2⟩ := key m hm
        rw [v1]; exact v2)
      rwa [hll] at this
  obtain ⟨h1, h2⟩ := rd_one (e := slE e) (a := xs) rfl hdv
  refine ⟨xs, fun y hy => ?_, ?_, h1, h2⟩
  · obtain ⟨i, hi, rfl⟩ := List.getElem_of_mem hy
    exact (hx i hi).1
  · have := sum_le (sz := sz) (xs := xs) (ys := elems.map (·.1)) (by rw [hxl, List.length_map, hlen]) (fun i k1 k2 => by
      obtain ⟨_, ⟨k3, k4⟩, _⟩ := hx i k1
      simpa using k4)
    simp only [bulk]
    omega⟩

/-! ### structs, field by field -/
structure RdF (P : Program) (fs : List Field) (off : Nat) {β : Type} (ec : β → List D) (wf : β → Prop) (sz : β → Nat) : Prop where
  read : ∀ {H : Type} {enc : TypeId × Value → H} {W : World} {n : Nat} {cs : List Value} {xs : List (DataW H × List MemPlace)}, xs.length = fs.length →
    (∀ (i : Nat) (f : Field), fs[i]? = some f → DataW.trod enc P W 0 (fun _ => true) true n f.type ((cs.drop f.offset).take (P.cellsOf f.type)) = xs[i]?) →
    ∃ b : β, wf b ∧ sz b ≤ bulkAll (xs.map (·.1)) ∧ ∀ j (h1 : j < (ec b).length), ∃ v, cs[off + j]? = some v ∧ DV (sealOf W) (ec b)[j] v
/-- an argument -/
theorem Rd.arg {α : Type} {e : α → D} {wf : α → Prop} {sz : α → Nat} {z : Nat} {g : Bool} (r : Rd P t e wf sz) (he : EncOK e z g) {d0 : TypeDesc} (hu : P.underlying t = some d0) (hg : isAggD d0 = g) {W : World} {base : Nat} {v : Value} (hval : Value.okWide P W .any base t v) {H : Type}
    {enc : TypeId × Value → H} {d : DataW H} {ps : List MemPlace} (h : DataW.Trod enc P W 0 (fun _ => true) true t v d ps) : ∃ a, wf a ∧ sz a ≤ bulk d ∧ DV (sealOf W) (e a) v := by
  obtain ⟨fuel, hf⟩ := h
  obtain ⟨a, w1, w2, w3, w4⟩ := r.read hf
  refine ⟨a, w1, w2, ?_⟩
  have hag := he.ag a
  cases g with
  | false =>
    have hv : ∀ cs, v ≠ .agg cs := by
      rintro cs rfl
      unfold Value.okWide at hval
      rw [hu] at hval
      cases d0 <;> simp [isAggD] at hg <;> simp [Cell.okWide, Cell.ok, hu] at hval
    have hc : v.cells.toList = [v] := by
      cases v <;> first | rfl | exact absurd rfl (hv _)
    have := w4 0 (by rw [one_cells hag]; simp) (by rw [hc]; simp)
    simpa [one_cells hag, hc] using this
  | true =>
    have hv : ∃ cs, v = .agg cs := by
      unfold Value.okWide at hval
      rw [hu] at hval
      cases d0 <;> simp [isAggD] at hg <;> (obtain ⟨cs, h, _⟩ := hval; exact ⟨cs, h⟩)
    obtain ⟨cs, rfl⟩ := hv
    rw [agg_cells hag]
    have := DV.agg (S := sealOf W) (l := (e a).cells) (vs := cs.toList) w3 (he.sc a) (fun i h1 h2 => w4 i h1 h2)
    simpa using this
end
end Go.Proofs.Abs
end
section
/- Small facts about the Lean functions that gen.py writes. -/
namespace Go.Proofs.Abs
open Go
set_option linter.unusedVariables false
theorem rd_mid {α : Type} [Inhabited α] {pre rest : List α} {x : α} : rd (pre ++ x :: rest) ((pre.length : Nat) : Int) = x := by
  simp [rd]
theorem i64w {n : Int} (h : -9223372036854775808 ≤ n ∧ n ≤ 9223372036854775807) : IntKind.i64.wrap n = n := by
  simp only [IntKind.wrap, IntKind.signed, IntKind.bits]
  simp
  omega
theorem u32w {n : Int} (h : 0 ≤ n ∧ n ≤ 4294967295) : IntKind.u32.wrap n = n := by
  simp only [IntKind.wrap, IntKind.signed, IntKind.bits]
  simp
  omega
theorem rd_i64 {P : Program} {t : TypeId} (hu : P.underlying t = some (.int .i64)) : Rd P t (D.int .i64) (fun n => -9223372036854775808 ≤ n ∧ n ≤ 9223372036854775807) (fun _ => 1) :=
  ⟨fun h => by
    obtain ⟨a, w, r⟩ := (rd_int hu).read h
    exact ⟨a, by simpa [IntKind.min, IntKind.max, IntKind.signed, IntKind.bits] using w, r⟩⟩
end Go.Proofs.Abs
end
section
/- Bits of numbers. -/
namespace Go.Proofs.Abs
open Go
set_option linter.unusedVariables false
theorem toNat_lt (b : UInt8) : b.toNat < 256 := b.toNat_lt
end Go.Proofs.Abs
end
section
/- Numbers as bytes, seven bits each, the lowest first: what is written, what is read, and that they fit together. -/
namespace Go.Proofs.Abs
open Go
set_option linter.unusedVariables false
set_option maxRecDepth 20000
theorem gdp {α : Type} {p : Prop} {d : Decidable p} {x : Option α} (h : p) : @gd α p d x = x := if_pos h
theorem cdp {α : Type} {p : Prop} {d : Decidable p} {x y : α} (h : p) : cond (@decide p d) x y = x := by rw [decide_eq_true h]; rfl
theorem cdn {α : Type} {p : Prop} {d : Decidable p} {x y : α} (h : ¬ p) : cond (@decide p d) x y = y := by rw [decide_eq_false h]; rfl
/-- the bytes of a number -/
def nb (n : Nat) : List UInt8 := if n < 128 then [UInt8.ofNat n] else UInt8.ofNat (n % 128 + 128) :: nb (n / 128)
/-- a number with a sign, as one without -/
def zg (a : Int) : Nat := if 0 ≤ a then (2 * a).toNat else (2 * (-(a + 1)) + 1).toNat
/-- and back -/
def unz (u : Nat) : Int := if u % 2 = 0 then ((u / 2 : Nat) : Int) else -((u / 2 : Nat) : Int) - 1
/-! ## Reading -/
/-- a number that stands at the beginning: the fault, or the number and how many bytes it has -/
def rdN : Nat → Nat → List UInt8 → Int ⊕ (Nat × Nat)
  | _, _, [] => .inl 3
  | i, v, c :: r => if i = 9 ∧ 1 < c.toNat ∨ 0 < i ∧ c.toNat = 0 then .inl 4 else if c.toNat < 128 then .inr (v + c.toNat * 2 ^ (7 * i), i + 1) else rdN (i + 1) (v + c.toNat % 128 * 2 ^ (7 * i)) r
/-! ## A reader: bytes, a place, the first fault -/
/-- the next number -/
def rNum (b : List UInt8) (p : Nat) (e : Int) : Nat × Nat × Int :=
  if e = 0 then match rdN 0 0 (b.drop p) with | .inl e' => (0, p, e') | .inr (v, n) => (v, p + n, 0) else (0, p, e)
/-- the next number with a sign -/
def rZig (b : List UInt8) (p : Nat) (e : Int) : Int × Nat × Int := (unz (rNum b p e).1, (rNum b p e).2.1, (rNum b p e).2.2)
/-- the next text, of at most so many bytes -/
def rText (b : List UInt8) (p : Nat) (e : Int) (most : Int) : List UInt8 × Nat × Int :=
  if e = 0 then match rdN 0 0 (b.drop p) with
    | .inl e' => ([], p, e')
    | .inr (v, n) => if unz v < 0 then ([], p, 4) else if max most 0 < unz v then ([], p, 5) else if ((b.length : Nat) : Int) < ((p + n : Nat) : Int) + unz v then ([], p, 3) else ((b.drop (p + n)).take (unz v).toNat, p + n + (unz v).toNat, 0)
  else ([], p, e)
/-- the next bytes -/
def rRaw (b : List UInt8) (p : Nat) (e : Int) (n : Int) : List UInt8 × Nat × Int :=
  if e = 0 then if n ≤ 0 then ([], p, 0) else if ((b.length : Nat) : Int) < (p : Int) + n then ([], p, 3) else ((b.drop p).take n.toNat, p + n.toNat, 0) else ([], p, e)
end Go.Proofs.Abs
end
