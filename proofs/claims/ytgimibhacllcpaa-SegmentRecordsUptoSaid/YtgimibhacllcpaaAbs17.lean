/- Calls of functions that have a body; what a function's body comes to. -/
import Derived.Test.YtgimibhacllcpaaAbs16
import Derived.RangeFuncLeaves
import Derived.RangeFuncRecord
namespace Go.Proofs.Abs
open Go
section
variable {P : Program}

theorem run_enter {o : Oper} {c : Call} {f : Operand} {g : FuncId} {caps : Array Value} (hop : o.op = .call c) (hc : c.callee = .value f) {ρ : Operand → Value} (hρ : ρ f = .func (.func g) #[] caps)
    (hE : ∃ fn, P.funcs[g]? = some fn ∧ (fn.name == "runtime.NumGoroutine") = false ∧ fn.body.isSome = true) (w : World) :
    (execOp ρ o).run P w = .ok (.enter g (c.args.map ρ ++ caps)) w := by
  obtain ⟨fn, hf, hn, hb⟩ := hE
  have h1 : ¬ fn.name = "runtime.NumGoroutine" := by simpa using hn
  have h2 : ¬ fn.body = none := by cases hx : fn.body <;> simp_all
  unfold execOp
  simp [hop, resolve, hc, hρ, Deferred.ofValue, invoke, callFunc, hf, h1, h2]

theorem compBin_call {op : BinOp} {t : TypeId} {x y g : Arg} {l : List Arg} : compBin P op t x y = .call g l → False := by
  intro h
  unfold compBin at h
  repeat' (first | cases h | split at h)
theorem compConv_call {s d : TypeId} {x g : Arg} {l : List Arg} : compConv P s d x = .call g l → False := by
  intro h
  unfold compConv at h
  repeat' (first | cases h | split at h)

theorem compOp_call {op : Op} {g : Arg} {l : List Arg} (h : compOp P op = .call g l) : ∃ c f, op = .call c ∧ c.callee = .value f ∧ argA f = some g ∧ argsA c.args.toList = some l := by
  cases op with
  | call c =>
    simp only [compOp] at h
    rcases compCall_inv (P := P) (c := c) with hb | hk
    · rw [hb] at h; cases h
    · rw [h] at hk
      cases hk with
      | call hc hf ha => exact ⟨c, _, rfl, hc, hf, ha⟩
  | binOp op t x y _ =>
    simp only [compOp] at h
    split at h
    · exact (compBin_call h).elim
    · cases h
  | convert s d x =>
    simp only [compOp] at h
    split at h
    · exact (compConv_call h).elim
    · cases h
  | makeFunc fn first caps =>
    cases fn with
    | func f =>
      simp only [compOp] at h
      repeat' (first | cases h | split at h)
    | _ => cases h
  | _ =>
    simp only [compOp, szK, sbK, aggK] at h
    repeat' (first | cases h | split at h)

/-- THE CALL OF A GO FUNCTION -/
theorem AOpT.call {args : List (Nat × AV)} {H H' : AHeap} {r : AV} {g : Arg} {l : List Arg} {f : FuncId} {vs : List AV} (hg : evA args g = some (.d (.fn f))) (hl : allAV (evA args) l = some vs)
    (h : ACalls P f vs H r H') : AOpT P (.call g l) args H r H' := by
  refine ⟨fun x hx hb => (by subst hx; cases hb), fun o hao => ?_⟩
  obtain ⟨c, fo, hop, hc, hfo, ha⟩ := compOp_call hao
  refine ⟨by simp [hop], fun S i w ρ hev hh hfr => ?_⟩
  obtain ⟨k1, k2⟩ := all_ok ha hl
  have hρ : ρ fo = .func (.func f) #[] #[] := by
    have := argV hev hfo hg
    generalize ρ fo = u at this
    cases vD this; rfl
  rw [run_enter hop hc hρ h.1]
  have hcall := h.2 S i w ((c.args.map ρ).toList) (by simp [← k1]) (fun j h1 h2 => by
    have := k2 hev j h1 (by omega)
    simpa using this) hh hfr
  rw [show (c.args.map ρ).toList.toArray = c.args.map ρ from Array.toArray_toList] at hcall
  simpa [Ends] using hcall

/-- .. and of a closure -/
theorem AOpT.callC {args : List (Nat × AV)} {H H' : AHeap} {r : AV} {g : Arg} {l : List Arg} {f : FuncId} {vs cs : List AV} (hg : evA args g = some (.fn f cs)) (hl : allAV (evA args) l = some vs)
    (h : ACalls P f (vs ++ cs) H r H') : AOpT P (.call g l) args H r H' := by
  refine ⟨fun x hx hb => (by subst hx; cases hb), fun o hao => ?_⟩
  obtain ⟨c, fo, hop, hc, hfo, ha⟩ := compOp_call hao
  refine ⟨by simp [hop], fun S i w ρ hev hh hfr => ?_⟩
  obtain ⟨k1, k2⟩ := all_ok ha hl
  have hv := argV hev hfo hg
  generalize hu : ρ fo = u at hv
  cases hv with
  | fn hlen hcs =>
    rename_i ws
    rw [run_enter hop hc hu h.1]
    have hcall := h.2 S i w ((c.args.map ρ).toList ++ ws) (by simp [← k1, hlen]) (fun j h1 h2 => by
      by_cases hj : j < vs.length
      · have := k2 hev j hj (by omega)
        have h3 : j < (c.args.map ρ).toList.length := by simp; simp at k1; omega
        rw [List.getElem_append_left hj, List.getElem_append_left h3]
        simpa using this
      · have h3 : ¬ j < (c.args.map ρ).toList.length := by simp; simp at k1; omega
        have e : (c.args.map ρ).toList.length = vs.length := by simp; simp at k1; omega
        rw [List.getElem_append_right (by omega), List.getElem_append_right (by omega)]
        simp only [e]
        exact hcs _ _ _) hh hfr
    rw [show ((c.args.map ρ).toList ++ ws).toArray = c.args.map ρ ++ ws.toArray by apply Array.ext' ; simp] at hcall
    simpa [Ends] using hcall

/-- what is read at the end -/
def resOne (l : List (Nat × AV)) (H : AHeap) : ARes → Option (AV × Prop)
  | .tmp t => (lk l t).bind fun x => some (x, True)
  | .cell t z g => (lk l t).bind fun x => (loadA H x z g).bind fun q => some (q.r, q.side)
  | .bad => none
def resAll (l : List (Nat × AV)) (H : AHeap) : List ARes → Option (List AV × Prop)
  | [] => some ([], True)
  | x :: r => (resOne l H x).bind fun (v, s) => (resAll l H r).bind fun (vs, ss) => some (v :: vs, s ∧ ss)
def resV : List AV → AV
  | [x] => x
  | l => .tup l

theorem loadA_hin {H : AHeap} {x : AV} {z : Nat} {g : Bool} {q : Out} (h : loadA H x z g = some q) : ∀ y ∈ q.hin, y ∈ H := by
  unfold loadA at h
  split at h
  · cases g
    · simp only [cond_false] at h
      split at h <;> cases h
      intro y hy; cases hy
    · simp only [cond_true] at h
      generalize hb : (Nat.beq _ 0 && _) = bb at h
      cases bb <;> cases h <;> (intro y hy; cases hy)
  · split at h
    · rename_i hL
      cases g
      · simp only [cond_false] at h
        split at h <;> cases h
        intro y hy
        cases List.mem_singleton.1 hy
        exact lkH_mem hL
      · simp only [cond_true] at h
        cases h
        intro y hy
        cases List.mem_singleton.1 hy
        exact lkH_mem hL
    · cases h
  · cases h
theorem loadA_ptr {H : AHeap} {x : AV} {z : Nat} {g : Bool} {q : Out} (h : loadA H x z g = some q) {S : Seal} {i : Emb} {v : Value} (hv : V S i x v) : ∃ a, v = .pointer (some a) := by
  unfold loadA at h
  split at h
  · cases hv; exact ⟨_, rfl⟩
  · cases hv; exact ⟨_, rfl⟩
  · cases h

def resultOf (tmps : Array Value) : ResultVar → Sem Value
  | .tmp t => pure (tmps.getD t undef)
  | .cell a t => do loadVar t (← asAddr (tmps.getD a undef))

theorem resOne_ok {S : Seal} {i : Emb} {a : AAct} {ca : Act} {H : AHeap} {w : World} (ha : ActRel S i a ca) (hh : HeapRel S i H w) {rv : ResultVar} {x : AV} {s : Prop}
    (h : resOne a.l H (match rv with
      | .tmp t => .tmp t
      | .cell t ty => match P.info? ty, P.underlying ty with
        | some j, some d => .cell t j.size (isAggD d)
        | _, _ => .bad) = some (x, s)) (hs : s) : ∃ v, (resultOf ca.tmps rv).run P w = .ok v w ∧ V S i x v := by
  cases rv with
  | tmp t =>
    simp only [resOne, Option.bind_eq_some_iff] at h
    obtain ⟨y, hy, h⟩ := h
    cases h
    exact ⟨_, by simp [resultOf], ha.get t _ hy⟩
  | cell t ty =>
    simp only at h
    split at h <;> first | cases h | skip
    rename_i j d hj hd
    simp only [resOne, Option.bind_eq_some_iff] at h
    obtain ⟨y, hy, q, hq, h⟩ := h
    cases h
    have hv := ha.get t _ hy
    obtain ⟨u, h1, h2, _⟩ := loadA_ok hd hj rfl hq hs hv (hh.perm (loadA_hin hq))
    obtain ⟨ad, had⟩ := loadA_ptr hq hv
    refine ⟨u, ?_, h2⟩
    simp only [resultOf]
    rw [had] at h1 ⊢
    simpa [Instr.loadAt, Instr.sureAddr, asAddr] using h1

theorem resAll_ok {S : Seal} {i : Emb} {a : AAct} {ca : Act} {H : AHeap} {w : World} (ha : ActRel S i a ca) (hh : HeapRel S i H w) : ∀ {rs : List ResultVar} {xs : List AV} {s : Prop},
    resAll a.l H (rs.map fun
      | .tmp t => .tmp t
      | .cell t ty => match P.info? ty, P.underlying ty with
        | some j, some d => .cell t j.size (isAggD d)
        | _, _ => .bad) = some (xs, s) → s → ∃ vs : List Value, (rs.mapM (resultOf ca.tmps)).run P w = .ok vs w ∧ xs.length = vs.length ∧ ∀ j (h1 : j < xs.length) (h2 : j < vs.length), V S i xs[j] vs[j]
  | [], xs, s, h, hs => by
    cases h
    exact ⟨[], by simp, rfl, fun j h1 => by simp at h1⟩
  | rv :: rs, xs, s, h, hs => by
    simp only [List.map_cons, resAll, Option.bind_eq_some_iff] at h
    obtain ⟨⟨x, s1⟩, h1, ⟨ys, s2⟩, h2, h⟩ := h
    cases h
    obtain ⟨v, k1, k2⟩ := resOne_ok (P := P) ha hh h1 hs.1
    obtain ⟨vs, k3, k4, k5⟩ := resAll_ok ha hh h2 hs.2
    refine ⟨v :: vs, by simp [List.mapM_cons, k1, k3], by simp [k4], fun j h1 h2 => ?_⟩
    cases j with
    | zero => exact k2
    | succ j => exact k5 j (by simpa using h1) (by simpa using h2)

theorem results_run {S : Seal} {i : Emb} {a : AAct} {ca : Act} {H : AHeap} {w : World} (ha : ActRel S i a ca) (hh : HeapRel S i H w) {fn : Func} {xs : List AV} {s : Prop}
    (h : resAll a.l H (compFunc P fn).res = some (xs, s)) (hs : s) : ∃ v, (results fn ca.tmps).run P w = .ok v w ∧ V S i (resV xs) v := by
  obtain ⟨vs, h1, h2, h3⟩ := resAll_ok (P := P) ha hh (rs := fn.results.toList) h hs
  have hr : (fn.results.mapM (resultOf ca.tmps)).run P w = .ok vs.toArray w := by
    rw [Array.mapM_eq_mapM_toList]
    simp [h1]
  have he : results fn ca.tmps = (do
      let us ← fn.results.mapM (resultOf ca.tmps)
      pure (if h : us.size = 1 then us[0] else .tuple us)) := by
    unfold results
    congr 1
  rw [he, Sem.run_bind, hr, Result.andThen_ok]
  refine ⟨_, Sem.run_pure .., ?_⟩
  clear h hr h1 he
  match xs, vs, h2, h3 with
  | [x], [v], _, h3 => simpa [resV] using h3 0 (by simp) (by simp)
  | [], [], _, h3 => exact .tup rfl h3
  | x :: y :: r, u :: v :: q, h2, h3 => exact .tup h2 h3

/-- the list of slots at the start -/
def startL : Nat → List AV → List (Nat × AV)
  | _, [] => []
  | k, x :: r => (k, x) :: startL (k + 1) r
theorem startL_get : ∀ {l : List AV} {k t : Nat} {x : AV}, lk (startL k l) t = some x → ∃ j, ∃ h : j < l.length, t = k + j ∧ l[j] = x
  | [], k, t, x, h => by cases h
  | y :: r, k, t, x, h => by
    simp only [startL, lk] at h
    cases hb : Nat.beq k t with
    | true =>
      rw [hb] at h
      cases h
      exact ⟨0, by simp, (Nat.eq_of_beq_eq_true hb).symm, rfl⟩
    | false =>
      rw [hb] at h
      obtain ⟨j, hj, rfl, hx⟩ := startL_get h
      exact ⟨j + 1, by simpa using hj, by omega, by simpa using hx⟩

/-- less is said -/
def Sub (x y : AV) : Prop := ∀ S i v, V S i x v → V S i y v
theorem Sub.refl (x : AV) : Sub x x := fun _ _ _ h => h
theorem Sub.sl {x : AV} {l : List D} (h : toSl x = some l) : Sub x (.d (.sl l)) := fun _ _ _ hv => .d (toSl_ok h hv)
theorem Sub.any (x : AV) : Sub x .any := fun _ _ _ _ => .any

/-- how a body ends well -/
def DoneS (rs : List ARes) (r : AV) (H' : AHeap) : Exit → AAct → AHeap → Nat → Prop := fun e a H _ =>
  (e = .normal ∨ e = .ret) ∧ ∃ xs s, resAll a.l H rs = some (xs, s) ∧ s ∧ Sub (resV xs) r ∧ ∀ x ∈ H', x ∈ H
def Done (rs : List ARes) (r : AV) (H' : AHeap) : Exit → AAct → AHeap → Nat → Prop := fun e a H _ =>
  (e = .normal ∨ e = .ret) ∧ ∃ xs s, resAll a.l H rs = some (xs, s) ∧ s ∧ r = resV xs ∧ ∀ x ∈ H', x ∈ H

theorem cell_putDef {w : World} {D : Nat} {o o' : Obj} {a : Addr} {v : Value} (hD : w.heap[D]? = some o) (ho : ∀ c e f, o ≠ .cells c e f) (h : w.cell? a = some v) : (w.putObj D o').cell? a = some v := by
  have hne : a.block ≠ D := by
    intro he
    unfold World.cell? at h
    rw [he, hD] at h
    cases o <;> simp_all
  unfold World.cell? at *
  rw [World.putObj_heap_other hne]
  exact h
/-- a mark is taken -/
theorem take_mark {S S' : Seal} {i i' : Emb} {H H' : AHeap} {w w' : World} {D : Nat} (hh : HeapRel S' i' H' w') (t : Tr S i H w S' i' H' w') (hD : w.heap.size ≤ D) (hd : w'.heap[D]? = some (.deferred (some []))) :
    HeapRel S' i' H' (w'.putObj D (.deferred none)) ∧ Tr S i H w S' i' H' (w'.putObj D (.deferred none)) := by
  have hne : ∀ l o b, (l, o) ∈ H' → i' l = some b → b ≠ D := by
    rintro l o b hm hb rfl
    rcases hh.obj l o hm with ⟨b', hb', hr⟩ | ⟨hn, _⟩
    · rw [hb] at hb'; cases hb'
      exact hr.notDef _ hd
    · rw [hb] at hn; cases hn
  refine ⟨⟨fun a v h => cell_putDef hd (by simp) (hh.cell a v h), fun b n h => ?_, fun l o hm => ?_, hh.inj, fun l b hb => by simpa using hh.dom l b hb⟩,
    ⟨t.up, by simpa using t.grow, fun b hb hx => (World.putObj_heap_other (by omega)).trans (t.old b hb hx), t.newSeal, t.newEmb, t.sub, t.os, t.out, t.tape⟩⟩
  · obtain ⟨c, e, f, hc, hs⟩ := hh.size b n h
    exact ⟨c, e, f, (World.putObj_heap_other (by rintro rfl; rw [hd] at hc; cases hc)).trans hc, hs⟩
  · rcases hh.obj l o hm with ⟨b, hb, hr⟩ | hr
    · exact .inl ⟨b, hb, hr.later (.refl _) (fun _ _ h => h) (World.putObj_heap_other (hne l o b hm hb)) (fun a v h _ => h)⟩
    · exact .inr hr

/-- A FUNCTION, BY ITS BODY -/
theorem acalls_of_bodyS {k : FuncId} {F : AFunc} (hF : HasF P k F) {args : List AV} {H H' : AHeap} {r : AV} (n : Nat) (hargs : ∀ x ∈ args, x.lt n) (hH : ∀ l o, (l, o) ∈ H → l < n ∧ o.lt n)
    (hr : r.lb fun l => l < n ∨ l ∈ H'.keys ∧ l ∉ H.keys) (hH' : ∀ l o, (l, o) ∈ H' → (l < n ∨ l ∉ H.keys) ∧ o.lb fun l => l < n ∨ l ∈ H'.keys ∧ l ∉ H.keys) (hn : args.length ≤ F.n)
    (hb : AWc P none n F.body ⟨F.n, startL 0 args⟩ H n (DoneS F.res r H')) : ACalls P k args H r H' := by
  obtain ⟨fn, hfn, hname, hsome, hcomp⟩ := hF
  obtain ⟨c, hc⟩ := Option.isSome_iff_exists.1 hsome
  refine ⟨⟨fn, hfn, hname, hsome⟩, fun S i w vs hlen hvs hh hnew => ?_⟩
  have hbody : compCode P c = F.body := by rw [← hcomp]; simp [compFunc, hc]
  have hFn : fn.ntmps = F.n := by rw [← hcomp]; rfl
  have hw := hb c hbody S (i.cut n) w { tmps := vs.toArray ++ Array.replicate (fn.ntmps - vs.toArray.size) undef, defers := [] } ?_ ?_ (fun l b h => (Emb.cut_some h).1)
  rotate_left
  · refine ⟨by simp [hFn]; omega, fun t x hx => ?_⟩
    obtain ⟨j, hj, rfl, rfl⟩ := startL_get hx
    have := (hvs j hj (by omega)).cut (hargs _ (List.getElem_mem hj))
    have h2 : j < vs.length := by omega
    simpa [h2, Array.getElem?_append] using this
  · refine ⟨hh.cell, hh.size, fun l o hm => ?_, fun l o l' o' b x y hl hl' => hh.inj l o l' o' b x y (Emb.cut_some hl).2 (Emb.cut_some hl').2,
      fun l b hl => hh.dom l b (Emb.cut_some hl).2⟩
    obtain ⟨hl, ho⟩ := hH l o hm
    rcases hh.obj l o hm with ⟨b, hb, hr⟩ | ⟨hn, ho'⟩
    case inr => exact .inr ⟨by rw [Emb.cut_of hl]; exact hn, ho'⟩
    refine .inl ⟨b, by rw [Emb.cut_of hl]; exact hb, ?_⟩
    exact hr.relabel (fun _ hl => Emb.cut_of hl) ho
  refine callsIn_wide (n := 0) |>.1 (callsIn_of_wp_marks hfn hc trivial (wpIn_mono hw ?_))
  rintro ex ca' w' ⟨a', H'', n'', S', i'', ⟨hex, xs, s, hres, hs, hsubr, hsub⟩, ra, ⟨bs, hnd, hdf, hbs⟩, rh, rn, re, rt⟩
  have main : ∀ (bs : List Nat) (w' : World), bs.Nodup → (∀ D ∈ bs, w.heap.size ≤ D ∧ w'.heap[D]? = some (.deferred (some []))) → HeapRel S' i'' H'' w' → Tr S (i.cut n) H w S' i'' H'' w' →
      LeavesInM Fence.wide 0 P fn ca'.tmps (fun e w' => ∃ v, e = .returned v ∧ Post S i H w r H' v w') (bs.map markOf ++ []) .returning w' := by
    intro bs
    induction bs with
    | cons D bs ih =>
      intro w' hnd hbs rh rt
      obtain ⟨h1, h2⟩ := hbs D List.mem_cons_self
      obtain ⟨k1, k2⟩ := take_mark rh rt h1 h2
      refine ⟨by simp, .inl ⟨D, _, rfl, run_takeDeferred h2, ih _ (List.nodup_cons.1 hnd).2 (fun E hE => ⟨(hbs E (List.mem_cons_of_mem _ hE)).1, ?_⟩) k1 k2⟩⟩
      rw [World.putObj_heap_other]
      · exact (hbs E (List.mem_cons_of_mem _ hE)).2
      · rintro rfl; exact (List.nodup_cons.1 hnd).1 hE
    | nil =>
    intro w' _ _ rh rt
    obtain ⟨v, hv1, hv2⟩ := results_run (P := P) (fn := fn) ra rh (by rw [hcomp]; exact hres) hs
    refine ⟨v, hv1, v, rfl, ?_⟩
    have hv2 := hsubr _ _ _ hv2
    classical
    let j : Emb := fun l => if l ∈ H'.keys ∧ l ∉ H.keys then i'' l else i l
    have hj : ∀ l, (l < n ∨ l ∈ H'.keys ∧ l ∉ H.keys) → j l = i'' l := by
      intro l hl
      simp only [j]
      split
      · rfl
      · rename_i hno
        rcases hl with hl | hl
        · rw [re l hl, Emb.cut_of hl]
        · exact absurd hl hno
    have hjle : i.le j := by
      intro l b hl
      simp only [j]
      split
      · rename_i hy
        rw [hnew l hy.1 hy.2] at hl; cases hl
      · exact hl
    have hk : ∀ l o, (l, o) ∈ H' → j l = i'' l := by
      intro l o hm
      refine hj l ?_
      rcases (hH' l o hm).1 with h | h
      · exact .inl h
      · exact .inr ⟨mem_keys.2 ⟨o, hm⟩, h⟩
    have hblk : ∀ b, blk (i.cut n) H b → blk i H b := fun b ⟨l, o, hx, hb⟩ => ⟨l, o, hx, (Emb.cut_some hb).2⟩
    have hjd : ∀ l b, j l = some b → i l = some b ∨ (l ∈ H'.keys ∧ l ∉ H.keys ∧ i'' l = some b) := by
      intro l b hl
      simp only [j] at hl
      split at hl
      · rename_i hy; exact .inr ⟨hy.1, hy.2, hl⟩
      · exact .inl hl
    refine ⟨S', j, hv2.relabel hj hr, ⟨rh.cell, rh.size, fun l o hm => ?_, fun l o l' o' b x y hl hl' => ?_, fun l b hl => ?_⟩, hjle, ⟨rt.up, rt.grow, fun b hb hx => rt.old b hb fun h => hx (hblk b h),
      fun a v hv => (rt.newSeal a v hv).imp id (Or.imp (hblk _) id), fun l b hb => ?_, fun b ⟨l, o, hm, hb⟩ => ?_, rt.os, rt.out, rt.tape⟩, fun l b hl => (hjd l b hl).imp id fun h => ⟨h.1, h.2.1⟩⟩
    · rw [hk l o hm]
      rcases rh.obj l o (hsub _ hm) with ⟨b, hb, hro⟩ | ⟨h1, h2⟩
      · refine .inl ⟨b, hb, ?_⟩
        exact hro.relabel hj (hH' l _ hm).2
      · exact .inr ⟨h1, h2⟩
    · rw [hk l o x] at hl
      rw [hk l' o' y] at hl'
      exact rh.inj l o l' o' b (hsub _ x) (hsub _ y) hl hl'
    · rcases hjd l b hl with h | ⟨_, _, h⟩
      · exact Nat.lt_of_lt_of_le (hh.dom l b h) rt.grow
      · exact rh.dom l b h
    · rcases hjd l b hb with h | ⟨_, _, h⟩
      · exact .inl h
      · exact (rt.newEmb l b h).imp (fun h => (Emb.cut_some h).2) (Or.imp (hblk b) id)
    · rw [hk l o hm] at hb
      exact (rt.sub b ⟨l, o, hsub _ hm, hb⟩).imp (hblk b) id
  have hgo : LeavesInM Fence.wide 0 P fn ca'.tmps (fun e w' => ∃ v, e = .returned v ∧ Post S i H w r H' v w') ca'.defers .returning w' := by
    rw [hdf]
    exact main bs w' hnd hbs rh rt
  rcases hex with rfl | rfl
  · exact hgo
  · exact hgo
theorem acalls_of_body {k : FuncId} {F : AFunc} (hF : HasF P k F) {args : List AV} {H H' : AHeap} {r : AV} (n : Nat) (hargs : ∀ x ∈ args, x.lt n) (hH : ∀ l o, (l, o) ∈ H → l < n ∧ o.lt n)
    (hr : r.lb fun l => l < n ∨ l ∈ H'.keys ∧ l ∉ H.keys) (hH' : ∀ l o, (l, o) ∈ H' → (l < n ∨ l ∉ H.keys) ∧ o.lb fun l => l < n ∨ l ∈ H'.keys ∧ l ∉ H.keys) (hn : args.length ≤ F.n)
    (hb : AWc P none n F.body ⟨F.n, startL 0 args⟩ H n (Done F.res r H')) : ACalls P k args H r H' :=
  acalls_of_bodyS hF n hargs hH hr hH' hn (hb.mono fun e a H m ⟨h1, xs, s, h2, h3, h4, h5⟩ => ⟨h1, xs, s, h2, h3, h4 ▸ .refl _, h5⟩)
end
end Go.Proofs.Abs
