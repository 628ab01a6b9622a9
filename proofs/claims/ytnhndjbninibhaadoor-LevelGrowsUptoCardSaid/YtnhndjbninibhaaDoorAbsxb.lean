import Derived.Test.YtnhndjbninibhaaDoorAbsxa
import Derived.RangeFuncLeaves
import Derived.RangeFuncRecord
import Derived.Orders
import Derived.ProofKit
import Derived.Below
import Derived.OpenShut
import Derived.ChangeSlices
import Derived.Carry
import Derived.Lib.Strings
import Derived.Lib.Slices
import Derived.Lib.Walk
import Derived.Lib.Bytealg
set_option linter.unusedVariables false
set_option linter.unusedSimpArgs false
set_option linter.unusedSectionVars false
section
namespace Go.Proofs.Abs
open Go
section
variable {P:Program}

theorem run_enter {o:Oper} {c:Call} {f:Operand} {g:FuncId} {caps:Array Value} (hop:o.op = .call c) (hc:c.callee = .value f) {ρ:Operand→Value} (hρ:ρ f = .func (.func g) #[] caps)
    (hE:∃ fn,P.funcs[g]? = some fn∧(fn.name == "runtime.NumGoroutine") = false∧fn.body.isSome = true) (w:World) :
    (execOp ρ o).run P w = .ok (.enter g (c.args.map ρ ++ caps)) w:=by
  obtain ⟨fn,hf,hn,hb⟩:=hE
  have h1:¬ fn.name = "runtime.NumGoroutine":=by simpa using hn
  have h2:¬ fn.body = none:=by cases hx:fn.body <;> simp_all
  unfold execOp
  simp [hop,resolve,hc,hρ,Deferred.ofValue,invoke,callFunc,hf,h1,h2]

theorem compBin_call {op:BinOp} {t:TypeId} {x y g:Arg} {l:List Arg}:compBin P op t x y = .call g l→False:=by
  intro h
  unfold compBin at h
  repeat' (first | cases h | split at h)
theorem compConv_call {s d:TypeId} {x g:Arg} {l:List Arg}:compConv P s d x = .call g l→False:=by
  intro h
  unfold compConv at h
  repeat' (first | cases h | split at h)

theorem compOp_call {op:Op} {g:Arg} {l:List Arg} (h:compOp P op = .call g l):∃ c f,op = .call c∧c.callee = .value f∧argA f = some g∧argsA c.args.toList = some l:=by
  cases op with
  | call c =>
    simp only [compOp] at h
    rcases compCall_inv (P:=P) (c:=c) with hb | hk
    · rw [hb] at h; cases h
    · rw [h] at hk
      cases hk with
      | call hc hf ha=>exact ⟨c,_,rfl,hc,hf,ha⟩
  | binOp op t x y _ =>
    simp only [compOp] at h
    split at h
    · exact (compBin_call h).elim
    · cases h
  | convert s d x =>
    simp only [compOp] at h
    split at h
    · exact (compConv_call h).elim
    · cases h
  | makeFunc fn first caps =>
    cases fn with
    | func f =>
      simp only [compOp] at h
      repeat' (first | cases h | split at h)
    | _=>cases h
  | makeMap t r=>exfalso; cases r <;> simp [compOp] at h
  | lookup t x i ok =>
    exfalso
    simp only [compOp] at h
    repeat' (first | cases h | split at h)
  | _ =>
    simp only [compOp,szK,sbK,aggK] at h
    repeat' (first | cases h | split at h)

theorem AOpT.call {args:List (Nat×AV)} {H H':AHeap} {r:AV} {g:Arg} {l:List Arg} {f:FuncId} {vs:List AV} (hg:evA args g = some (.d (.fn f))) (hl:allAV (evA args) l = some vs)
    (h:ACalls P f vs H r H'):AOpT P (.call g l) args H r H':=by
  refine ⟨fun x hx hb=>(by subst hx; cases hb),fun o hao=>?_⟩
  obtain ⟨c,fo,hop,hc,hfo,ha⟩:=compOp_call hao
  refine ⟨by simp [hop],fun S i w ρ hev hh hfr=>?_⟩
  obtain ⟨k1,k2⟩:=all_ok ha hl
  have hρ:ρ fo = .func (.func f) #[] #[]:=by
    have:=argV hev hfo hg
    generalize ρ fo = u at this
    cases vD this; rfl
  rw [run_enter hop hc hρ h.1]
  have hcall:=h.2 S i w ((c.args.map ρ).toList) (by simp [←k1]) (fun j h1 h2=>by
    have:=k2 hev j h1 (by omega)
    simpa using this) hh hfr
  rw [show (c.args.map ρ).toList.toArray = c.args.map ρ from Array.toArray_toList] at hcall
  simpa [Ends] using hcall

theorem AOpT.callC {args:List (Nat×AV)} {H H':AHeap} {r:AV} {g:Arg} {l:List Arg} {f:FuncId} {vs cs:List AV} (hg:evA args g = some (.fn f cs)) (hl:allAV (evA args) l = some vs)
    (h:ACalls P f (vs ++ cs) H r H'):AOpT P (.call g l) args H r H':=by
  refine ⟨fun x hx hb=>(by subst hx; cases hb),fun o hao=>?_⟩
  obtain ⟨c,fo,hop,hc,hfo,ha⟩:=compOp_call hao
  refine ⟨by simp [hop],fun S i w ρ hev hh hfr=>?_⟩
  obtain ⟨k1,k2⟩:=all_ok ha hl
  have hv:=argV hev hfo hg
  generalize hu:ρ fo = u at hv
  cases hv with
  | fn hlen hcs =>
    rename_i ws
    rw [run_enter hop hc hu h.1]
    have hcall:=h.2 S i w ((c.args.map ρ).toList ++ ws) (by simp [←k1,hlen]) (fun j h1 h2=>by
      by_cases hj:j < vs.length
      · have:=k2 hev j hj (by omega)
        have h3:j < (c.args.map ρ).toList.length:=by simp; simp at k1; omega
        rw [List.getElem_append_left hj,List.getElem_append_left h3]
        simpa using this
      · have h3:¬ j < (c.args.map ρ).toList.length:=by simp; simp at k1; omega
        have e:(c.args.map ρ).toList.length = vs.length:=by simp; simp at k1; omega
        rw [List.getElem_append_right (by omega),List.getElem_append_right (by omega)]
        simp only [e]
        exact hcs _ _ _) hh hfr
    rw [show ((c.args.map ρ).toList ++ ws).toArray = c.args.map ρ ++ ws.toArray by apply Array.ext' ; simp] at hcall
    simpa [Ends] using hcall

def resOne (l:List (Nat×AV)) (H:AHeap):ARes→Option (AV×Prop)
  | .tmp t=>(lk l t).bind fun x=>some (x,True)
  | .cell t z g=>(lk l t).bind fun x=>(loadA H x z g).bind fun q=>some (q.r,q.side)
  | .bad=>none
def resAll (l:List (Nat×AV)) (H:AHeap):List ARes→Option (List AV×Prop)
  | []=>some ([],True)
  | x :: r=>(resOne l H x).bind fun (v,s)=>(resAll l H r).bind fun (vs,ss)=>some (v :: vs,s∧ss)
def resV:List AV→AV
  | [x]=>x
  | l=>.tup l

theorem loadA_hin {H:AHeap} {x:AV} {z:Nat} {g:Bool} {q:Out} (h:loadA H x z g = some q):∀ y∈q.hin,y∈H:=by
  unfold loadA at h
  split at h
  · cases g
    · simp only [cond_false] at h
      split at h <;> cases h
      intro y hy; cases hy
    · simp only [cond_true] at h
      generalize hb:(Nat.beq _ 0 && _) = bb at h
      cases bb <;> cases h <;> (intro y hy; cases hy)
  · split at h
    · rename_i hL
      cases g
      · simp only [cond_false] at h
        split at h <;> cases h
        intro y hy
        cases List.mem_singleton.1 hy
        exact lkH_mem hL
      · simp only [cond_true] at h
        cases h
        intro y hy
        cases List.mem_singleton.1 hy
        exact lkH_mem hL
    · cases h
  · cases h
theorem loadA_ptr {H:AHeap} {x:AV} {z:Nat} {g:Bool} {q:Out} (h:loadA H x z g = some q) {S:Seal} {i:Emb} {v:Value} (hv:V S i x v):∃ a,v = .pointer (some a):=by
  unfold loadA at h
  split at h
  · cases hv; exact ⟨_,rfl⟩
  · cases hv; exact ⟨_,rfl⟩
  · cases h

def resultOf (tmps:Array Value):ResultVar→Sem Value
  | .tmp t=>pure (tmps.getD t undef)
  | .cell a t=>do loadVar t (←asAddr (tmps.getD a undef))

theorem resOne_ok {S:Seal} {i:Emb} {a:AAct} {ca:Act} {H:AHeap} {w:World} (ha:ActRel S i a ca) (hh:HeapRel S i H w) {rv:ResultVar} {x:AV} {s:Prop}
    (h:resOne a.l H (match rv with
      | .tmp t=>.tmp t
      | .cell t ty=>match P.info? ty,P.underlying ty with
        | some j,some d=>.cell t j.size (isAggD d)
        | _,_=>.bad) = some (x,s)) (hs:s):∃ v,(resultOf ca.tmps rv).run P w = .ok v w∧V S i x v:=by
  cases rv with
  | tmp t =>
    simp only [resOne,Option.bind_eq_some_iff] at h
    obtain ⟨y,hy,h⟩:=h
    cases h
    exact ⟨_,by simp [resultOf],ha.get t _ hy⟩
  | cell t ty =>
    simp only at h
    split at h <;> first | cases h | skip
    rename_i j d hj hd
    simp only [resOne,Option.bind_eq_some_iff] at h
    obtain ⟨y,hy,q,hq,h⟩:=h
    cases h
    have hv:=ha.get t _ hy
    obtain ⟨u,h1,h2,_⟩:=loadA_ok hd hj rfl hq hs hv (hh.perm (loadA_hin hq))
    obtain ⟨ad,had⟩:=loadA_ptr hq hv
    refine ⟨u,?_,h2⟩
    simp only [resultOf]
    rw [had] at h1 ⊢
    simpa [Instr.loadAt,Instr.sureAddr,asAddr] using h1

theorem resAll_ok {S:Seal} {i:Emb} {a:AAct} {ca:Act} {H:AHeap} {w:World} (ha:ActRel S i a ca) (hh:HeapRel S i H w):∀ {rs:List ResultVar} {xs:List AV} {s:Prop},
    resAll a.l H (rs.map fun
      | .tmp t=>.tmp t
      | .cell t ty=>match P.info? ty,P.underlying ty with
        | some j,some d=>.cell t j.size (isAggD d)
        | _,_=>.bad) = some (xs,s)→s→∃ vs:List Value,(rs.mapM (resultOf ca.tmps)).run P w = .ok vs w∧xs.length = vs.length∧∀ j (h1:j < xs.length) (h2:j < vs.length),V S i xs[j] vs[j]
  | [],xs,s,h,hs=>by
    cases h
    exact ⟨[],by simp,rfl,fun j h1=>by simp at h1⟩
  | rv :: rs,xs,s,h,hs=>by
    simp only [List.map_cons,resAll,Option.bind_eq_some_iff] at h
    obtain ⟨⟨x,s1⟩,h1,⟨ys,s2⟩,h2,h⟩:=h
    cases h
    obtain ⟨v,k1,k2⟩:=resOne_ok (P:=P) ha hh h1 hs.1
    obtain ⟨vs,k3,k4,k5⟩:=resAll_ok ha hh h2 hs.2
    refine ⟨v :: vs,by simp [List.mapM_cons,k1,k3],by simp [k4],fun j h1 h2=>?_⟩
    cases j with
    | zero=>exact k2
    | succ j=>exact k5 j (by simpa using h1) (by simpa using h2)

theorem results_run {S:Seal} {i:Emb} {a:AAct} {ca:Act} {H:AHeap} {w:World} (ha:ActRel S i a ca) (hh:HeapRel S i H w) {fn:Func} {xs:List AV} {s:Prop}
    (h:resAll a.l H (compFunc P fn).res = some (xs,s)) (hs:s):∃ v,(results fn ca.tmps).run P w = .ok v w∧V S i (resV xs) v:=by
  obtain ⟨vs,h1,h2,h3⟩:=resAll_ok (P:=P) ha hh (rs:=fn.results.toList) h hs
  have hr:(fn.results.mapM (resultOf ca.tmps)).run P w = .ok vs.toArray w:=by
    rw [Array.mapM_eq_mapM_toList]
    simp [h1]
  have he:results fn ca.tmps = (do
      let us ←fn.results.mapM (resultOf ca.tmps)
      pure (if h:us.size = 1 then us[0] else .tuple us)):=by
    unfold results
    congr 1
  rw [he,Sem.run_bind,hr,Result.andThen_ok]
  refine ⟨_,Sem.run_pure ..,?_⟩
  clear h hr h1 he
  match xs,vs,h2,h3 with
  | [x],[v],_,h3=>simpa [resV] using h3 0 (by simp) (by simp)
  | [],[],_,h3=>exact .tup rfl h3
  | x :: y :: r,u :: v :: q,h2,h3=>exact .tup h2 h3

def startL:Nat→List AV→List (Nat×AV)
  | _,[]=>[]
  | k,x :: r=>(k,x) :: startL (k + 1) r
theorem startL_get:∀ {l:List AV} {k t:Nat} {x:AV},lk (startL k l) t = some x→∃ j,∃ h:j < l.length,t = k + j∧l[j] = x
  | [],k,t,x,h=>by cases h
  | y :: r,k,t,x,h=>by
    simp only [startL,lk] at h
    cases hb:Nat.beq k t with
    | true =>
      rw [hb] at h
      cases h
      exact ⟨0,by simp,(Nat.eq_of_beq_eq_true hb).symm,rfl⟩
    | false =>
      rw [hb] at h
      obtain ⟨j,hj,rfl,hx⟩:=startL_get h
      exact ⟨j + 1,by simpa using hj,by omega,by simpa using hx⟩

def Sub (x y:AV):Prop:=∀ S i v,V S i x v→V S i y v
theorem Sub.refl (x:AV):Sub x x:=fun _ _ _ h=>h
theorem Sub.sl {x:AV} {l:List D} (h:toSl x = some l):Sub x (.d (.sl l)):=fun _ _ _ hv=>.d (toSl_ok h hv)
theorem Sub.any (x:AV):Sub x .any:=fun _ _ _ _=>.any

def DoneS (rs:List ARes) (r:AV) (H':AHeap):Exit→AAct→AHeap→Nat→Prop:=fun e a H _ =>
  (e = .normal∨e = .ret)∧∃ xs s,resAll a.l H rs = some (xs,s)∧s∧Sub (resV xs) r∧∀ x∈H',x∈H
theorem cell_putDef {w:World} {D:Nat} {o o':Obj} {a:Addr} {v:Value} (hD:w.heap[D]? = some o) (ho:∀ c e f,o≠.cells c e f) (h:w.cell? a = some v):(w.putObj D o').cell? a = some v:=by
  have hne:a.block≠D:=by
    intro he
    unfold World.cell? at h
    rw [he,hD] at h
    cases o <;> simp_all
  unfold World.cell? at *
  rw [World.putObj_heap_other hne]
  exact h
theorem take_mark {S S':Seal} {i i':Emb} {H H':AHeap} {w w':World} {D:Nat} (hh:HeapRel S' i' H' w') (t:Tr S i H w S' i' H' w') (hD:w.heap.size≤D) (hd:w'.heap[D]? = some (.deferred (some []))) :
    HeapRel S' i' H' (w'.putObj D (.deferred none))∧Tr S i H w S' i' H' (w'.putObj D (.deferred none)):=by
  have hne:∀ l o b,(l,o)∈H'→i' l = some b→b≠D:=by
    rintro l o b hm hb rfl
    rcases hh.obj l o hm with ⟨b',hb',hr⟩ | ⟨hn,_⟩
    · rw [hb] at hb'; cases hb'
      exact hr.notDef _ hd
    · rw [hb] at hn; cases hn
  refine ⟨⟨fun a v h=>cell_putDef hd (by simp) (hh.cell a v h),fun b n h=>?_,fun l o hm=>?_,hh.inj,fun l b hb=>(by simpa using hh.dom l b hb),hh.gr⟩,
    ⟨t.up,by simpa using t.grow,fun b hb hx=>(World.putObj_heap_other (by omega)).trans (t.old b hb hx),t.newSeal,t.newEmb,t.sub,t.os,t.out,t.tape⟩⟩
  · obtain ⟨c,e,f,hc,hs⟩:=hh.size b n h
    exact ⟨c,e,f,(World.putObj_heap_other (by rintro rfl; rw [hd] at hc; cases hc)).trans hc,hs⟩
  · rcases hh.obj l o hm with ⟨b,hb,hr⟩ | hr
    · exact .inl ⟨b,hb,hr.later (.refl _) (fun _ _ h=>h) (World.putObj_heap_other (hne l o b hm hb)) (fun a v h _=>h)⟩
    · exact .inr hr

theorem acalls_of_bodyS {k:FuncId} {F:AFunc} (hF:HasF P k F) {args:List AV} {H H':AHeap} {r:AV} (n:Nat) (hargs:∀ x∈args,x.lt n) (hH:∀ l o,(l,o)∈H→l < n∧o.lt n)
    (hr:r.lb fun l=>l < n∨l∈H'.keys∧l ∉ H.keys) (hH':∀ l o,(l,o)∈H'→(l < n∨l ∉ H.keys)∧o.lb fun l=>l < n∨l∈H'.keys∧l ∉ H.keys) (hn:args.length≤F.n)
    (hb:AWc P none n F.body ⟨F.n,startL 0 args⟩ H n (DoneS F.res r H')):ACalls P k args H r H':=by
  obtain ⟨fn,hfn,hname,hsome,hcomp⟩:=hF
  obtain ⟨c,hc⟩:=Option.isSome_iff_exists.1 hsome
  refine ⟨⟨fn,hfn,hname,hsome⟩,fun S i w vs hlen hvs hh hnew=>?_⟩
  have hbody:compCode P c = F.body:=by rw [←hcomp]; simp [compFunc,hc]
  have hFn:fn.ntmps = F.n:=by rw [←hcomp]; rfl
  have hw:=hb c hbody S (i.cut n) w { tmps:=vs.toArray ++ Array.replicate (fn.ntmps - vs.toArray.size) undef,defers:=[] } ?_ ?_ (fun l b h=>(Emb.cut_some h).1)
  rotate_left
  · refine ⟨by simp [hFn]; omega,fun t x hx=>?_⟩
    obtain ⟨j,hj,rfl,rfl⟩:=startL_get hx
    have:=(hvs j hj (by omega)).cut (hargs _ (List.getElem_mem hj))
    have h2:j < vs.length:=by omega
    simpa [h2,Array.getElem?_append] using this
  · refine ⟨hh.cell,hh.size,fun l o hm=>?_,fun l o l' o' b x y hl hl'=>hh.inj l o l' o' b x y (Emb.cut_some hl).2 (Emb.cut_some hl').2,
      fun l b hl=>hh.dom l b (Emb.cut_some hl).2,hh.gr⟩
    obtain ⟨hl,ho⟩:=hH l o hm
    rcases hh.obj l o hm with ⟨b,hb,hr⟩ | ⟨hn,ho'⟩
    case inr=>exact .inr ⟨by rw [Emb.cut_of hl]; exact hn,ho'⟩
    refine .inl ⟨b,by rw [Emb.cut_of hl]; exact hb,?_⟩
    exact hr.relabel (fun _ hl=>Emb.cut_of hl) ho
  refine callsIn_wide (n:=0) |>.1 (callsIn_of_wp_marks hfn hc trivial (wpIn_mono hw ?_))
  rintro ex ca' w' ⟨a',H'',n'',S',i'',⟨hex,xs,s,hres,hs,hsubr,hsub⟩,ra,⟨bs,hnd,hdf,hbs⟩,rh,rn,re,rt⟩
  have main:∀ (bs:List Nat) (w':World),bs.Nodup→(∀ D∈bs,w.heap.size≤D∧w'.heap[D]? = some (.deferred (some [])))→HeapRel S' i'' H'' w'→Tr S (i.cut n) H w S' i'' H'' w' →
      LeavesInM Fence.wide 0 P fn ca'.tmps (fun e w'=>∃ v,e = .returned v∧Post S i H w r H' v w') (bs.map markOf ++ []) .returning w':=by
    intro bs
    induction bs with
    | cons D bs ih =>
      intro w' hnd hbs rh rt
      obtain ⟨h1,h2⟩:=hbs D List.mem_cons_self
      obtain ⟨k1,k2⟩:=take_mark rh rt h1 h2
      refine ⟨by simp,.inl ⟨D,_,rfl,run_takeDeferred h2,ih _ (List.nodup_cons.1 hnd).2 (fun E hE=>⟨(hbs E (List.mem_cons_of_mem _ hE)).1,?_⟩) k1 k2⟩⟩
      rw [World.putObj_heap_other]
      · exact (hbs E (List.mem_cons_of_mem _ hE)).2
      · rintro rfl; exact (List.nodup_cons.1 hnd).1 hE
    | nil =>
    intro w' _ _ rh rt
    obtain ⟨v,hv1,hv2⟩:=results_run (P:=P) (fn:=fn) ra rh (by rw [hcomp]; exact hres) hs
    refine ⟨v,hv1,v,rfl,?_⟩
    have hv2:=hsubr _ _ _ hv2
    classical
    let j:Emb:=fun l=>if l∈H'.keys∧l ∉ H.keys then i'' l else i l
    have hj:∀ l,(l < n∨l∈H'.keys∧l ∉ H.keys)→j l = i'' l:=by
      intro l hl
      simp only [j]
      split
      · rfl
      · rename_i hno
        rcases hl with hl | hl
        · rw [re l hl,Emb.cut_of hl]
        · exact absurd hl hno
    have hjle:i.le j:=by
      intro l b hl
      simp only [j]
      split
      · rename_i hy
        rw [hnew l hy.1 hy.2] at hl; cases hl
      · exact hl
    have hk:∀ l o,(l,o)∈H'→j l = i'' l:=by
      intro l o hm
      refine hj l ?_
      rcases (hH' l o hm).1 with h | h
      · exact .inl h
      · exact .inr ⟨mem_keys.2 ⟨o,hm⟩,h⟩
    have hblk:∀ b,blk (i.cut n) H b→blk i H b:=fun b ⟨l,o,hx,hb⟩=>⟨l,o,hx,(Emb.cut_some hb).2⟩
    have hjd:∀ l b,j l = some b→i l = some b∨(l∈H'.keys∧l ∉ H.keys∧i'' l = some b):=by
      intro l b hl
      simp only [j] at hl
      split at hl
      · rename_i hy; exact .inr ⟨hy.1,hy.2,hl⟩
      · exact .inl hl
    refine ⟨S',j,hv2.relabel hj hr,⟨rh.cell,rh.size,fun l o hm=>?_,fun l o l' o' b x y hl hl'=>?_,fun l b hl=>?_,rh.gr⟩,hjle,⟨rt.up,rt.grow,fun b hb hx=>rt.old b hb fun h=>hx (hblk b h),
      fun a v hv=>(rt.newSeal a v hv).imp id (Or.imp (hblk _) id),fun l b hb=>?_,fun b ⟨l,o,hm,hb⟩=>?_,rt.os,rt.out,rt.tape⟩,fun l b hl=>(hjd l b hl).imp id fun h=>⟨h.1,h.2.1⟩⟩
    · rw [hk l o hm]
      rcases rh.obj l o (hsub _ hm) with ⟨b,hb,hro⟩ | ⟨h1,h2⟩
      · refine .inl ⟨b,hb,?_⟩
        exact hro.relabel hj (hH' l _ hm).2
      · exact .inr ⟨h1,h2⟩
    · rw [hk l o x] at hl
      rw [hk l' o' y] at hl'
      exact rh.inj l o l' o' b (hsub _ x) (hsub _ y) hl hl'
    · rcases hjd l b hl with h | ⟨_,_,h⟩
      · exact Nat.lt_of_lt_of_le (hh.dom l b h) rt.grow
      · exact rh.dom l b h
    · rcases hjd l b hb with h | ⟨_,_,h⟩
      · exact .inl h
      · exact (rt.newEmb l b h).imp (fun h=>(Emb.cut_some h).2) (Or.imp (hblk b) id)
    · rw [hk l o hm] at hb
      exact (rt.sub b ⟨l,o,hsub _ hm,hb⟩).imp (hblk b) id
  have hgo:LeavesInM Fence.wide 0 P fn ca'.tmps (fun e w'=>∃ v,e = .returned v∧Post S i H w r H' v w') ca'.defers .returning w':=by
    rw [hdf]
    exact main bs w' hnd hbs rh rt
  rcases hex with rfl | rfl
  · exact hgo
  · exact hgo
end
end Go.Proofs.Abs
end
section
namespace Go.Proofs.Abs
open Go
section
variable {P:Program}

theorem evOp_hin {args:List (Nat×AV)} {H:AHeap} {own:Bool} {nl:Nat} {q:Out} {ao:AOp} (h:evOp own nl (evA args) H ao = some q):∀ y∈q.hin,y∈H:=by
  have hnil:∀ {q:Out},q.hin = []→∀ y∈q.hin,y∈H:=fun h y hy=>by rw [h] at hy; cases hy
  have hone:∀ {q:Out} {l:Nat} {x:AObj},lkH H l = some x→q.hin = [(l,x)]→∀ y∈q.hin,y∈H:=fun h h' y hy=>by
    rw [h'] at hy
    cases List.mem_singleton.1 hy
    exact lkH_mem h
  cases ao with
  | load x z g =>
    simp only [evOp,Option.bind_eq_some_iff] at h
    obtain ⟨y,_,h⟩:=h
    exact loadA_hin h
  | store x v z =>
    simp only [evOp] at h
    split at h <;> first | cases h | skip
    split at h <;> first | cases h | skip
    exact hone (by assumption) rfl
  | app x y z b zz =>
    simp only [evOp] at h
    split at h <;> first | cases h | skip
    · cases own <;> cases h <;> exact hnil rfl
    · generalize Nat.beq z _ = bb at h
      cases bb
      · cases h
      · simp only [cond_true] at h
        split at h <;> first | cases h | skip
        exact hone (by assumption) rfl
    · generalize Nat.beq z _ = bb at h
      cases bb
      · cases h
      · simp only [cond_true] at h
        split at h <;> first | cases h | skip
        exact hone (by assumption) rfl
  | bs2bs x =>
    simp only [evOp] at h
    split at h <;> first | cases h | skip
    split at h <;> first | cases h | skip
    split at h <;> first | cases h | skip
    exact hone (by assumption) rfl
  | bslice n z zz ps =>
    simp only [evOp] at h
    cases hb:natListBeq (ps.map (·.1)) (List.range n) <;> rw [hb] at h
    · cases h
    · simp only [cond_true] at h
      split at h <;> first | cases h | skip
      cases own
      · simp only [cond_false] at h
        split at h <;> cases h
        exact hnil rfl
      · simp only [cond_true] at h
        split at h <;> cases h
        exact hnil rfl
  | mksl l c z b zz =>
    simp only [evOp] at h
    split at h <;> first | cases h | skip
    cases own <;> cases h <;> exact hnil rfl
  | iaddr x i z =>
    simp only [evOp] at h
    split at h
    · generalize Nat.beq z _ = bb at h
      cases bb <;> cases h
      exact hnil rfl
    · simp only [Option.bind_eq_some_iff,out] at h
      obtain ⟨_,_,h⟩:=h
      cases h
      exact hnil rfl
    · cases h
  | slc x lo hi mx z =>
    cases mx with
    | some m=>cases h
    | none =>
      simp only [evOp] at h
      split at h <;> first | cases h | skip
      · generalize Nat.beq z _ = bb at h
        cases bb
        · cases h
        · simp only [cond_true,Option.bind_eq_some_iff,out] at h
          obtain ⟨_,_,h⟩:=h
          cases h
          exact hnil rfl
      · split at h
        · simp only [Option.bind_eq_some_iff,out] at h
          obtain ⟨_,_,h⟩:=h
          cases h
          exact hnil rfl
        · simp only [Option.bind_eq_some_iff,out] at h
          obtain ⟨_,_,h⟩:=h
          cases h
          exact hnil rfl
      · simp only [Option.bind_eq_some_iff,out] at h
        obtain ⟨_,_,_,_,h⟩:=h
        cases h
        exact hnil rfl
  | fld x o z g =>
    simp only [evOp] at h
    split at h <;> first | cases h | skip
    cases g
    · simp only [cond_false] at h
      split at h <;> cases h
      exact hnil rfl
    · cases h
      exact hnil rfl
  | _ =>
    simp only [evOp,out] at h
    repeat' (first | cases h | (simp only [Option.bind_eq_some_iff] at h; obtain ⟨_,_,h⟩:=h) | split at h)
    all_goals first | exact hnil rfl | skip

structure Cres where
  r:AV
  hin:AHeap:=[]
  hout:AHeap:=[]

def dstOK (d:Option Nat) (N:Nat):Bool:=match d with
  | none=>true
  | some t=>Nat.blt t N
def putL (d:Option Nat) (x:AV) (l:List (Nat×AV)):List (Nat×AV):=match d with
  | none=>l
  | some t=>(t,x) :: l
def hasK (l:Nat):AHeap→Bool
  | []=>false
  | (k,_) :: r=>bif Nat.beq k l then true else hasK l r
def topK (c:Nat):AHeap→Nat
  | []=>c
  | (l,_) :: r=>topK (bif Nat.blt l c then c else l + 1) r
def newOK (c:Nat) (hin:AHeap):AHeap→Bool
  | []=>true
  | (l,_) :: r=>bif (bif Nat.ble c l then true else hasK l hin) then newOK c hin r else false
def restK (hin hout:AHeap):AHeap→AHeap
  | []=>[]
  | (l,o) :: r=>bif hasK l hin then restK hin hout r else bif hasK l hout then restK hin hout r else (l,o) :: restK hin hout r
def appK:AHeap→AHeap→AHeap
  | [],H=>H
  | x :: r,H=>x :: appK r H

theorem hasK_iff {l:Nat} {H:AHeap}:hasK l H = true↔l∈H.keys:=by
  induction H with
  | nil=>simp [hasK,AHeap.keys]
  | cons p r ih =>
    obtain ⟨k,o⟩:=p
    simp only [hasK,AHeap.keys,List.map_cons,List.mem_cons]
    cases hb:Nat.beq k l with
    | true=>simp [Nat.eq_of_beq_eq_true hb]
    | false =>
      have:¬ l = k:=fun h=>by rw [h,Nat.beq_refl] at hb; cases hb
      simp only [cond_false,this,false_or]
      exact ih
theorem topK_le {H:AHeap}:∀ {c:Nat},c≤topK c H∧∀ l∈H.keys,l < topK c H:=by
  induction H with
  | nil=>intro c; simp [topK,AHeap.keys]
  | cons p r ih =>
    obtain ⟨k,o⟩:=p
    intro c
    simp only [topK,AHeap.keys,List.map_cons,List.mem_cons]
    obtain ⟨h1,h2⟩:=ih (c:=bif Nat.blt k c then c else k + 1)
    have hk:c≤(bif Nat.blt k c then c else k + 1)∧k < (bif Nat.blt k c then c else k + 1):=by
      cases hb:Nat.blt k c with
      | true=>simp only [cond_true]; exact ⟨Nat.le_refl _,Nat.le_of_ble_eq_true hb⟩
      | false =>
        simp only [cond_false]
        have:¬ k < c:=by
          intro h
          have:Nat.blt k c = true:=Nat.ble_eq_true_of_le h
          rw [hb] at this; cases this
        omega
    refine ⟨by omega,?_⟩
    rintro l (rfl | hl)
    · omega
    · exact h2 l hl
theorem newOK_iff {c:Nat} {hin H:AHeap} (h:newOK c hin H = true):∀ l∈H.keys,c≤l∨l∈hin.keys:=by
  induction H with
  | nil=>intro l hl; cases hl
  | cons p r ih =>
    obtain ⟨k,o⟩:=p
    simp only [newOK] at h
    cases hb:(bif Nat.ble c k then true else hasK k hin) with
    | false=>rw [hb] at h; cases h
    | true =>
      rw [hb] at h
      intro l hl
      simp only [AHeap.keys,List.map_cons,List.mem_cons] at hl
      rcases hl with rfl | hl
      · cases hc:Nat.ble c l with
        | true=>exact .inl (Nat.le_of_ble_eq_true hc)
        | false=>rw [hc] at hb; exact .inr (hasK_iff.1 hb)
      · exact ih h l hl
theorem appK_eq {A H:AHeap}:appK A H = A ++ H:=by
  induction A with
  | nil=>rfl
  | cons x r ih=>simp [appK,ih]
theorem restK_eq {hin hout H:AHeap}:restK hin hout H = restH (hin.keys ++ hout.keys) H:=by
  induction H with
  | nil=>rfl
  | cons p r ih =>
    obtain ⟨k,o⟩:=p
    simp only [restK]
    have hmem:∀ b,(hin.keys ++ hout.keys).elem k = b→restH (hin.keys ++ hout.keys) ((k,o) :: r) = bif b then restH (hin.keys ++ hout.keys) r else (k,o) :: restH (hin.keys ++ hout.keys) r:=by
      intro b hb
      simp only [restH,List.filter_cons,hb]
      cases b <;> rfl
    cases h1:hasK k hin with
    | true =>
      rw [hmem true (by simp [hasK_iff.1 h1])]
      exact ih
    | false =>
      have h1':k ∉ hin.keys:=fun h=>by rw [hasK_iff.2 h] at h1; cases h1
      cases h2:hasK k hout with
      | true =>
        rw [hmem true (by simp [hasK_iff.1 h2])]
        exact ih
      | false =>
        have h2':k ∉ hout.keys:=fun h=>by rw [hasK_iff.2 h] at h2; cases h2
        rw [hmem false (by simp [h1',h2'])]
        simp [ih]

structure RunOut where
  l:List (Nat×AV)
  H:AHeap
  c:Nat
  side:Prop

def callOf:AV→List AV→Option (FuncId×List AV)
  | .d (.fn f),vs=>some (f,vs)
  | .fn f cs,vs=>some (f,vs ++ cs)
  | _,_=>none

end
end Go.Proofs.Abs
end
section
namespace Go.Proofs.Abs
open Go

mutual
def AV.ren (s:Nat→Nat):AV→AV
  | .d x=>.d x
  | .cp x off=>.cp x off
  | .ptr l off=>.ptr (s l) off
  | .sl l off len cap z=>.sl (s l) off len cap z
  | .ap l z xs=>.ap (s l) z xs
  | .win xs n=>.win xs n
  | .nils=>.nils
  | .agg l=>.agg (AV.renL s l)
  | .tup l=>.tup (AV.renL s l)
  | .fn f l=>.fn f (AV.renL s l)
  | .mp l=>.mp (s l)
  | .lf l=>.lf (s l)
  | .dn xs=>.dn xs
  | .row l z n=>.row (s l) z n
  | .apo l z xs=>.apo (s l) z xs
  | .lit v=>.lit v
  | .any=>.any
def AV.renL (s:Nat→Nat):List AV→List AV
  | []=>[]
  | x :: r=>AV.ren s x :: AV.renL s r
end
theorem renL_eq {s:Nat→Nat}:∀ {l:List AV},AV.renL s l = l.map (AV.ren s)
  | []=>by rw [AV.renL]; rfl
  | x :: r=>by rw [AV.renL,renL_eq]; rfl

theorem V.unren {S:Seal} {i:Emb} {s:Nat→Nat} {y:AV} {v:Value} (h:V S i y v):∀ {x:AV},x.ren s = y→V S (fun l=>i (s l)) x v:=by
  have len:∀ {l:List AV} {m:List AV},AV.renL s l = m→l.length = m.length:=fun e=>by rw [←e,renL_eq]; simp
  have get:∀ {l m:List AV} (e:AV.renL s l = m) (j:Nat) (h1:j < l.length) (h2:j < m.length),(l[j]).ren s = m[j]:=by
    intro l m e j h1 h2
    subst e
    simp [renL_eq]
  induction h with
  | d h=>intro x hx; cases x <;> simp only [AV.ren,reduceCtorEq,AV.d.injEq] at hx; subst hx; exact .d h
  | cp f hg hs h=>intro x hx; cases x <;> simp only [AV.ren,reduceCtorEq,AV.cp.injEq] at hx; obtain ⟨rfl,rfl⟩:=hx; exact .cp f hg hs h
  | ptr h=>intro x hx; cases x <;> simp only [AV.ren,reduceCtorEq,AV.ptr.injEq] at hx; obtain ⟨rfl,rfl⟩:=hx; exact .ptr h
  | sl h=>intro x hx; cases x <;> simp only [AV.ren,reduceCtorEq,AV.sl.injEq] at hx; obtain ⟨rfl,rfl,rfl,rfl,rfl⟩:=hx; exact .sl h
  | apn=>intro x hx; cases x <;> simp only [AV.ren,reduceCtorEq,AV.ap.injEq] at hx; obtain ⟨rfl,rfl,rfl⟩:=hx; exact .apn
  | ap h hd hz hn hc=>intro x hx; cases x <;> simp only [AV.ren,reduceCtorEq,AV.ap.injEq] at hx; obtain ⟨rfl,rfl,rfl⟩:=hx; exact .ap h hd hz hn hc
  | win h hn=>intro x hx; cases x <;> simp only [AV.ren,reduceCtorEq,AV.win.injEq] at hx; obtain ⟨rfl,rfl⟩:=hx; exact .win h hn
  | nils=>intro x hx; cases x <;> simp only [AV.ren,reduceCtorEq] at hx; exact .nils
  | agg hl h ih =>
    intro x hx; cases x <;> simp only [AV.ren,reduceCtorEq,AV.agg.injEq] at hx
    exact .agg ((len hx).trans hl) fun j h1 h2=>ih j (by rw [←len hx]; exact h1) h2 (get hx j h1 (by rw [←len hx]; exact h1))
  | tup hl h ih =>
    intro x hx; cases x <;> simp only [AV.ren,reduceCtorEq,AV.tup.injEq] at hx
    exact .tup ((len hx).trans hl) fun j h1 h2=>ih j (by rw [←len hx]; exact h1) h2 (get hx j h1 (by rw [←len hx]; exact h1))
  | fn hl h ih =>
    intro x hx; cases x <;> simp only [AV.ren,reduceCtorEq,AV.fn.injEq] at hx
    obtain ⟨rfl,hx⟩:=hx
    exact .fn ((len hx).trans hl) fun j h1 h2=>ih j (by rw [←len hx]; exact h1) h2 (get hx j h1 (by rw [←len hx]; exact h1))
  | mp h=>intro x hx; cases x <;> simp only [AV.ren,reduceCtorEq,AV.mp.injEq] at hx; subst hx; exact .mp h
  | lf h=>intro x hx; cases x <;> simp only [AV.ren,reduceCtorEq,AV.lf.injEq] at hx; subst hx; exact .lf h
  | dn h=>intro x hx; cases x <;> simp only [AV.ren,reduceCtorEq,AV.dn.injEq] at hx; subst hx; exact .dn h
  | rown=>intro x hx; cases x <;> simp only [AV.ren,reduceCtorEq,AV.row.injEq] at hx; obtain ⟨rfl,rfl,rfl⟩:=hx; exact .rown
  | row h hn hc hl=>intro x hx; cases x <;> simp only [AV.ren,reduceCtorEq,AV.row.injEq] at hx; obtain ⟨rfl,rfl,rfl⟩:=hx; exact .row h hn hc hl
  | apo h hd hz hn hc hl=>intro x hx; cases x <;> simp only [AV.ren,reduceCtorEq,AV.apo.injEq] at hx; obtain ⟨rfl,rfl,rfl⟩:=hx; exact .apo h hd hz hn hc hl
  | lit=>intro x hx; cases x <;> simp only [AV.ren,reduceCtorEq,AV.lit.injEq] at hx; subst hx; exact .lit
  | any=>intro x hx; cases x <;> simp only [AV.ren,reduceCtorEq] at hx; exact .any

theorem V.ren {S:Seal} {i:Emb} {s:Nat→Nat} {x:AV} {v:Value} (h:V S (fun l=>i (s l)) x v):V S i (x.ren s) v:=by
  generalize hj:(fun l=>i (s l)) = j at h
  have hj':∀ l,j l = i (s l):=fun l=>by rw [←hj]
  clear hj
  have get:∀ {l:List AV} {vs:List Value},(∀ j (h1:j < l.length) (h2:j < vs.length),V S i (l[j].ren s) vs[j])→∀ j (h1:j < (AV.renL s l).length) (h2:j < vs.length),V S i (AV.renL s l)[j] vs[j]:=by
    intro l vs h j h1 h2
    have:=h j (by simpa [renL_eq] using h1) h2
    simpa [renL_eq] using this
  induction h with
  | d h=>rw [AV.ren]; exact .d h
  | cp f hg hs h=>rw [AV.ren]; exact .cp f hg hs h
  | ptr h=>rw [AV.ren]; exact .ptr (hj' _ ▸ h)
  | sl h=>rw [AV.ren]; exact .sl (hj' _ ▸ h)
  | apn=>rw [AV.ren]; exact .apn
  | ap h hd hz hn hc=>rw [AV.ren]; exact .ap (hj' _ ▸ h) hd hz hn hc
  | win h hn=>rw [AV.ren]; exact .win h hn
  | nils=>rw [AV.ren]; exact .nils
  | agg hl h ih=>rw [AV.ren]; exact .agg (by simpa [renL_eq] using hl) (get ih)
  | tup hl h ih=>rw [AV.ren]; exact .tup (by simpa [renL_eq] using hl) (get ih)
  | fn hl h ih=>rw [AV.ren]; exact .fn (by simpa [renL_eq] using hl) (get ih)
  | mp h=>rw [AV.ren]; exact .mp (hj' _ ▸ h)
  | lf h=>rw [AV.ren]; exact .lf (hj' _ ▸ h)
  | dn h=>rw [AV.ren]; exact .dn h
  | rown=>rw [AV.ren]; exact .rown
  | row h hn hc hl=>rw [AV.ren]; exact .row (hj' _ ▸ h) hn hc hl
  | apo h hd hz hn hc hl=>rw [AV.ren]; exact .apo (hj' _ ▸ h) hd hz hn hc hl
  | lit=>rw [AV.ren]; exact .lit
  | any=>rw [AV.ren]; exact .any

def AObj.ren (s:Nat→Nat):AObj→AObj
  | .cells l=>.cells (AV.renL s l)
  | .tok n=>.tok n
  | .rowD ds=>.rowD ds
  | .rowP ds=>.rowP ds
  | .row l=>.row (AV.renL s l)
  | .rowQ f z vs sp ds=>.rowQ f z vs (sp.map fun x=>(x.1,x.2.ren s)) ds
  | .tokv n ds=>.tokv n ds
  | .mp es=>.mp es
  | .mpb es k=>.mpb es k
  | .lp N sl ps asg bd st pend=>.lp N (sl.map fun x=>(x.1,x.2.ren s)) ps asg bd st pend
theorem AObj.nil0_ren {s:Nat→Nat} {o:AObj}:(o.ren s).nil0↔o.nil0:=by
  cases o with
  | cells l=>exact Iff.rfl
  | tok n=>exact Iff.rfl
  | rowD ds=>exact Iff.rfl
  | rowP ds=>exact Iff.rfl
  | row l=>cases l <;> simp [AObj.ren,AObj.nil0,renL_eq]
  | rowQ f z vs sp ds=>cases sp <;> simp [AObj.ren,AObj.nil0]
  | tokv n ds=>exact Iff.rfl
  | mp es=>exact Iff.rfl
  | mpb es k=>exact Iff.rfl
  | lp N sl ps asg bd st pend=>exact Iff.rfl
def AHeap.ren (s:Nat→Nat):AHeap→AHeap
  | []=>[]
  | (l,o) :: r=>(s l,o.ren s) :: AHeap.ren s r
theorem AHeap.ren_eq {s:Nat→Nat}:∀ {H:AHeap},H.ren s = H.map fun x=>(s x.1,x.2.ren s)
  | []=>rfl
  | (l,o) :: r=>by rw [AHeap.ren,AHeap.ren_eq]; rfl
theorem mem_ren {s:Nat→Nat} {H:AHeap} {l:Nat} {o:AObj} (h:(l,o)∈H):(s l,o.ren s)∈H.ren s:=by
  rw [AHeap.ren_eq]; exact List.mem_map.2 ⟨_,h,rfl⟩
theorem of_mem_ren {s:Nat→Nat} {H:AHeap} {l:Nat} {o:AObj} (h:(l,o)∈H.ren s):∃ k p,(k,p)∈H∧s k = l∧p.ren s = o:=by
  rw [AHeap.ren_eq] at h
  obtain ⟨⟨k,p⟩,hm,he⟩:=List.mem_map.1 h
  cases he
  exact ⟨k,p,hm,rfl,rfl⟩
theorem keys_ren {s:Nat→Nat} {H:AHeap} {l:Nat}:l∈(H.ren s).keys↔∃ k∈H.keys,s k = l:=by
  constructor
  · intro h
    obtain ⟨o,ho⟩:=mem_keys.1 h
    obtain ⟨k,p,hm,hk,_⟩:=of_mem_ren ho
    exact ⟨k,mem_keys.2 ⟨p,hm⟩,hk⟩
  · rintro ⟨k,hk,rfl⟩
    obtain ⟨o,ho⟩:=mem_keys.1 hk
    exact mem_keys.2 ⟨_,mem_ren ho⟩

theorem ObjRel.unren {S:Seal} {i:Emb} {s:Nat→Nat} {w:World} {b:Nat} {o:AObj} (h:ObjRel S i w b (o.ren s)):ObjRel S (fun l=>i (s l)) w b o:=by
  cases o with
  | cells L =>
    obtain ⟨c,e,hc,hs,hv,hf⟩:=h
    have hl:(AV.renL s L).length = L.length:=by rw [renL_eq]; simp
    refine ⟨c,e,hc,hs.trans hl,fun j h1 h2=>?_,hf⟩
    exact (hv j (by rw [hl]; exact h1) h2).unren (by simp [renL_eq])
  | tok n=>exact h
  | rowP ds=>exact h
  | tokv n ds=>exact h
  | rowD ds=>obtain ⟨c,e,hc,hs,hv,hf⟩:=h; exact ⟨c,e,hc,hs,fun j h1 h2=>(hv j h1 h2).unren (by rw [List.getElem_map]; rfl),hf⟩
  | row L =>
    obtain ⟨c,e,hc,hs,hv,hf⟩:=h
    have hl:(AV.renL s L).length = L.length:=by rw [renL_eq]; simp
    refine ⟨c,e,hc,hl ▸ hs,fun j h1 h2=>?_,hf⟩
    exact (hv j (by rw [hl]; exact h1) h2).unren (by simp [renL_eq])
  | rowQ f z vs sp ds =>
    obtain ⟨c,e,hc,hs,hv,hq,hsp,hn0,hf⟩:=h
    exact ⟨c,e,hc,hs,hv,hq,fun x hx=>(hsp (x.1,x.2.ren s) (List.mem_map.2 ⟨x,hx,rfl⟩)).unren rfl,hn0,hf⟩
  | mp es=>exact h
  | mpb es k=>exact h
  | lp N sl ps asg bd st pend =>
    obtain ⟨r,hr,h1,h2,h3,h4,h5,h6,hv,hf⟩:=h
    exact ⟨r,hr,h1,h2,h3,h4,h5,h6,fun x hx=>(hv (x.1,x.2.ren s) (List.mem_map.2 ⟨x,hx,rfl⟩)).unren rfl,hf⟩
theorem ObjRel.ren {S:Seal} {i:Emb} {s:Nat→Nat} {w:World} {b:Nat} {o:AObj} (h:ObjRel S (fun l=>i (s l)) w b o):ObjRel S i w b (o.ren s):=by
  cases o with
  | cells L =>
    obtain ⟨c,e,hc,hs,hv,hf⟩:=h
    have hl:(AV.renL s L).length = L.length:=by rw [renL_eq]; simp
    refine ⟨c,e,hc,hs.trans hl.symm,fun j h1 h2=>?_,hf⟩
    have:=(hv j (by rw [←hl]; exact h1) h2).ren
    simpa [renL_eq] using this
  | tok n=>exact h
  | rowP ds=>exact h
  | tokv n ds=>exact h
  | rowD ds=>obtain ⟨c,e,hc,hs,hv,hf⟩:=h; exact ⟨c,e,hc,hs,fun j h1 h2=>(by have:=(hv j h1 h2).ren; rw [List.getElem_map] at this ⊢; exact this),hf⟩
  | row L =>
    obtain ⟨c,e,hc,hs,hv,hf⟩:=h
    have hl:(AV.renL s L).length = L.length:=by rw [renL_eq]; simp
    refine ⟨c,e,hc,hl.symm ▸ hs,fun j h1 h2=>?_,hf⟩
    have:=(hv j (by rw [←hl]; exact h1) h2).ren
    simpa [renL_eq] using this
  | rowQ f z vs sp ds =>
    obtain ⟨c,e,hc,hs,hv,hq,hsp,hn0,hf⟩:=h
    refine ⟨c,e,hc,hs,hv,hq,fun x hx=>?_,hn0,hf⟩
    obtain ⟨y,hy,rfl⟩:=List.mem_map.1 hx
    exact (hsp y hy).ren
  | mp es=>exact h
  | mpb es k=>exact h
  | lp N sl ps asg bd st pend =>
    obtain ⟨r,hr,h1,h2,h3,h4,h5,h6,hv,hf⟩:=h
    refine ⟨r,hr,h1,h2,h3,h4,h5,h6,fun x hx=>?_,hf⟩
    obtain ⟨y,hy,rfl⟩:=List.mem_map.1 hx
    exact (hv y hy).ren

section
variable {P:Program} {ro:Option Nat} {a:AAct} {H:AHeap} {n m:Nat} {Q:Exit→AAct→AHeap→Nat→Prop}

theorem ACalls.args {f:FuncId} {xs ys:List AV} {r:AV} {H':AHeap} (h:ACalls P f ys H r H') (hl:xs.length = ys.length) (hs:∀ j (h1:j < xs.length) (h2:j < ys.length),Sub xs[j] ys[j]):ACalls P f xs H r H' :=
  ⟨h.1,fun S i w vs hvs hv hh hf=>h.2 S i w vs (hl ▸ hvs) (fun j h1 h2=>hs j (by omega) h1 _ _ _ (hv j (by omega) h2)) hh hf⟩

theorem ACalls.res {f:FuncId} {xs:List AV} {r r':AV} {H':AHeap} (h:ACalls P f xs H r H') (hs:Sub r r'):ACalls P f xs H r' H' :=
  ⟨h.1,fun S i w vs hvs hv hh hf=>Calls.mono (h.2 S i w vs hvs hv hh hf) fun e w' ⟨v,he,S',i',h1,h2⟩=>⟨v,he,S',i',hs _ _ _ h1,h2⟩⟩

theorem ACalls.rename {f:FuncId} {xs:List AV} {r:AV} {H':AHeap} (h:ACalls P f xs H r H') (s:Nat→Nat) (K:Nat) (hinj:∀ a,a < K→∀ b,b < K→s a = s b→a = b)
    (hr:r.lt K) (hK:∀ l o,(l,o)∈H→l < K) (hK':∀ l o,(l,o)∈H'→l < K∧o.lt K):ACalls P f (xs.map (AV.ren s)) (H.ren s) (r.ren s) (H'.ren s):=by
  have kH:∀ {l},l∈H.keys→l < K:=fun hl=>by obtain ⟨o,ho⟩:=mem_keys.1 hl; exact hK _ _ ho
  have kH':∀ {l},l∈H'.keys→l < K:=fun hl=>by obtain ⟨o,ho⟩:=mem_keys.1 hl; exact (hK' _ _ ho).1
  refine ⟨h.1,fun S i w vs hvs hv hh hf=>?_⟩
  have hnew:∀ l,l∈H'.keys→l ∉ H.keys→s l∈(H'.ren s).keys∧s l ∉ (H.ren s).keys:=by
    intro l h1 h2
    refine ⟨keys_ren.2 ⟨l,h1,rfl⟩,fun hx=>?_⟩
    obtain ⟨k,hk,he⟩:=keys_ren.1 hx
    exact h2 (hinj k (kH hk) l (kH' h1) he ▸ hk)
  have hc:=h.2 S (fun l=>i (s l)) w vs (by simpa using hvs) (fun j h1 h2=>by
    have:=hv j (by simpa using h1) h2
    exact this.unren (by simp)) ?_ (fun l h1 h2=>hf _ (hnew l h1 h2).1 (hnew l h1 h2).2)
  · refine Calls.mono hc fun e w' ⟨v,he,S',i',h1,h2,h3,h4,h5⟩=>⟨v,he,?_⟩
    classical
    let j:Emb:=fun m=>if hx:∃ l,l∈H'.keys∧l ∉ H.keys∧s l = m then i' (Classical.choose hx) else i m
    have jnew:∀ l,l∈H'.keys→l ∉ H.keys→j (s l) = i' l:=by
      intro l k1 k2
      have hx:∃ l',l'∈H'.keys∧l' ∉ H.keys∧s l' = s l:=⟨l,k1,k2,rfl⟩
      simp only [j]
      rw [dif_pos hx]
      obtain ⟨c1,c2,c3⟩:=Classical.choose_spec hx
      rw [hinj _ (kH' c1) l (kH' k1) c3]
    have jold:∀ l,l < K→¬ (l∈H'.keys∧l ∉ H.keys)→j (s l) = i' l:=by
      intro l hl hno
      have hx:¬ ∃ l',l'∈H'.keys∧l' ∉ H.keys∧s l' = s l:=by
        rintro ⟨l',c1,c2,c3⟩
        have:=hinj l' (kH' c1) l hl c3
        subst this
        exact hno ⟨c1,c2⟩
      simp only [j]
      rw [dif_neg hx]
      cases hi:i' l with
      | none =>
        cases h0:i (s l) with
        | none=>rfl
        | some b=>rw [h3 l b h0] at hi; cases hi
      | some b =>
        rcases h5 l b hi with h | h
        · exact h
        · exact absurd h hno
    have jall:∀ l,l < K→j (s l) = i' l:=fun l hl=>by
      by_cases hx:l∈H'.keys∧l ∉ H.keys
      · exact jnew l hx.1 hx.2
      · exact jold l hl hx
    have jup:i.le j:=by
      intro m b hb
      simp only [j]
      split
      · rename_i hx
        obtain ⟨c1,c2,c3⟩:=Classical.choose_spec hx
        have:=hf _ (hnew _ c1 c2).1 (hnew _ c1 c2).2
        rw [c3] at this
        rw [this] at hb; cases hb
      · exact hb
    have jinv:∀ m b,j m = some b→i m = some b∨∃ l,l∈H'.keys∧l ∉ H.keys∧s l = m∧i' l = some b:=by
      intro m b hb
      simp only [j] at hb
      split at hb
      · rename_i hx
        obtain ⟨c1,c2,c3⟩:=Classical.choose_spec hx
        exact .inr ⟨_,c1,c2,c3,hb⟩
      · exact .inl hb
    have hblk:∀ b,blk (fun l=>i (s l)) H b→blk i (H.ren s) b:=fun b ⟨l,o,hm,hb⟩=>⟨s l,_,mem_ren hm,hb⟩
    refine ⟨S',j,V.ren (h1.relabel (K:=(· < K)) (fun l hl=>jall l hl) hr),⟨h2.cell,h2.size,fun l o hm=>?_,fun l o l' o' b x y hl hl'=>?_,fun l b hl=>?_,h2.gr⟩,jup,
      ⟨h4.up,h4.grow,fun b hb hx=>h4.old b hb fun h=>hx (hblk b h),fun a v hv=>(h4.newSeal a v hv).imp id (Or.imp (hblk _) id),fun m b hb=>?_,fun b ⟨l,o,hm,hb⟩=>?_,h4.os,h4.out,h4.tape⟩,fun m b hb=>?_⟩
    · obtain ⟨k,p,hm',rfl,rfl⟩:=of_mem_ren hm
      obtain ⟨hk,hp⟩:=hK' k p hm'
      rcases h2.obj k p hm' with ⟨b,hb,hro⟩ | ⟨q1,q2⟩
      · refine .inl ⟨b,(jall k hk).trans hb,ObjRel.ren ?_⟩
        exact hro.relabel (K:=(· < K)) (fun l hl=>jall l hl) hp
      · exact .inr ⟨(jall k hk).trans q1,AObj.nil0_ren.2 q2⟩
    · obtain ⟨k,p,hm,rfl,rfl⟩:=of_mem_ren x
      obtain ⟨k',p',hm',rfl,rfl⟩:=of_mem_ren y
      rw [jall k (hK' k p hm).1] at hl
      rw [jall k' (hK' k' p' hm').1] at hl'
      rw [h2.inj k p k' p' b hm hm' hl hl']
    · rcases jinv l b hl with h | ⟨k,_,_,_,h⟩
      · exact Nat.lt_of_lt_of_le (hh.dom l b h) h4.grow
      · exact h2.dom k b h
    · rcases jinv m b hb with h | ⟨k,c1,c2,c3,h⟩
      · exact .inl h
      · rcases h4.newEmb k b h with h | h | h
        · rw [c3] at h; exact .inl h
        · exact .inr (.inl (hblk b h))
        · exact .inr (.inr h)
    · obtain ⟨k,p,hm',rfl,rfl⟩:=of_mem_ren hm
      rw [jall k (hK' k p hm').1] at hb
      exact (h4.sub b ⟨k,p,hm',hb⟩).imp (hblk b) id
    · rcases jinv m b hb with h | ⟨k,c1,c2,c3,h⟩
      · exact .inl h
      · rw [←c3]
        exact .inr (hnew k c1 c2)
  · refine ⟨hh.cell,hh.size,fun l o hm=>?_,fun l o l' o' b x y hl hl'=>?_,fun l b hl=>hh.dom _ b hl,hh.gr⟩
    · rcases hh.obj _ _ (mem_ren hm) with ⟨b,hb,hro⟩ | ⟨q1,q2⟩
      · exact .inl ⟨b,hb,hro.unren⟩
      · exact .inr ⟨q1,AObj.nil0_ren.1 q2⟩
    · exact hinj l (hK l o x) l' (hK l' o' y) (hh.inj _ _ _ _ b (mem_ren x) (mem_ren y) hl hl')

end
end Go.Proofs.Abs
end
section
namespace Go.Proofs.Abs
open Go

def qcan (r:Rec) (a:AAct):Prop:=(∀ t x,lk r.args t = some x→lk a.l t = some x)∧∀ t,r.dst = some t→t < a.n
def qchain:List Rec→AAct→AAct→Prop
  | [],a,a'=>a'.n = a.n∧∀ t,lk a'.l t = lk a.l t
  | r :: rs,a,a'=>qcan r a∧qchain rs (a.put r.dst r.r) a'

theorem put_n (a:AAct) (d:Option Nat) (x:AV):(a.put d x).n = a.n:=by cases d <;> rfl
theorem lk_put (a:AAct) (d:Option Nat) (x:AV) (t:Nat):lk (a.put d x).l t = if d = some t then some x else lk a.l t:=by
  cases d with
  | none=>simp [AAct.put]
  | some u =>
    simp only [AAct.put,lk]
    by_cases h:u = t
    · subst h; simp
    · have:Nat.beq u t = false:=by
        cases hb:Nat.beq u t with
        | false=>rfl
        | true=>exact absurd (Nat.eq_of_beq_eq_true hb) h
      simp [this,h]

theorem qchain_eqv:∀ {rs:List Rec} {a b a':AAct},a.n = b.n→(∀ t,lk a.l t = lk b.l t)→qchain rs a a'→qchain rs b a'
  | [],a,b,a',h1,h2,h=>⟨h.1.trans h1,fun t=>(h.2 t).trans (h2 t)⟩
  | r :: rs,a,b,a',h1,h2,h=>by
    refine ⟨⟨fun t x hx=>(h2 t).symm.trans (h.1.1 t x hx),fun t ht=>h1 ▸ h.1.2 t ht⟩,?_⟩
    refine qchain_eqv (by rw [put_n,put_n,h1]) (fun t=>?_) h.2
    rw [lk_put,lk_put,h2 t]

def indep (p r:Rec):Prop:=(∀ t,p.dst = some t→lk r.args t = none∧r.dst≠some t)∧∀ t,r.dst = some t→lk p.args t = none

theorem q_swap {p r:Rec} {rs:List Rec} {a a':AAct} (hi:indep p r) (h:qchain (p :: r :: rs) a a'):qchain (r :: p :: rs) a a':=by
  obtain ⟨hp,hr,h⟩:=h
  have lkr:∀ t x,lk r.args t = some x→lk a.l t = some x:=by
    intro t x hx
    have:=hr.1 t x hx
    rw [lk_put] at this
    split at this
    · rename_i ht
      rw [(hi.1 t ht).1] at hx; cases hx
    · exact this
  refine ⟨⟨lkr,fun t ht=>by have:=hr.2 t ht; rwa [put_n] at this⟩,⟨fun t x hx=>?_,fun t ht=>by rw [put_n]; exact hp.2 t ht⟩,qchain_eqv (by simp [put_n]) (fun t=>?_) h⟩
  · rw [lk_put]
    split
    · rename_i ht
      rw [hi.2 t ht] at hx; cases hx
    · exact hp.1 t x hx
  · rw [lk_put,lk_put,lk_put,lk_put]
    by_cases h1:p.dst = some t
    · have h2:¬ r.dst = some t:=(hi.1 t h1).2
      simp [h1,h2]
    · simp [h1]

def aft (ops:Array Oper) (i:Nat):List Nat:=match ops[i]? with
  | some o=>(o.after.toList.filter (Region.binds .any)).map (·.on)
  | none=>[]

end Go.Proofs.Abs
end
section
namespace Go.Proofs.Abs
open Go

def Fun (H:AHeap):Prop:=∀ x∈H,∀ y∈H,x.1 = y.1→x = y

def argsOf:AOp→List Arg
  | .mv x=>[x]
  | .pick c a b=>[c,a,b]
  | .bin _ x y=>[x,y]
  | .beq _ x y=>[x,y]
  | .nileq _ _ x y=>[x,y]
  | .aggeq _ _ x y=>[x,y]
  | .un _ x=>[x]
  | .cvi _ x=>[x]
  | .bs2s x=>[x]
  | .s2bs x=>[x]
  | .s2rs x=>[x]
  | .i2s x=>[x]
  | .ext x _=>[x]
  | .faddr x _=>[x]
  | .fld x _ _ _=>[x]
  | .idx x i=>[x,i]
  | .aidx x i _ _ _=>[x,i]
  | .iaddr x i _=>[x,i]
  | .aaddr x i _ _=>[x,i]
  | .ssl x lo hi=>x :: (lo.toList ++ hi.toList)
  | .slc x lo hi mx _=>x :: (lo.toList ++ (hi.toList ++ mx.toList))
  | .len x=>[x]
  | .slen x=>[x]
  | .cap x=>[x]
  | .app x y _ _ _=>[x,y]
  | .mm _ x=>x
  | .call f x=>f :: x
  | .mkmap=>[]
  | .mget x k _=>[x,k]
  | .mset x k v=>[x,k,v]
  | .mgetp x k _ _ _=>[x,k]
  | .msetp x k v _=>[x,k,v]
  | .mentp x k _ _=>[x,k]
  | .mestp x s v=>[x,s,v]
  | .load x _ _=>[x]
  | .build _ ps=>ps.map fun p=>p.2.2
  | .bslice _ _ _ ps=>ps.map fun p=>p.2
  | .mksl l c _ _ _=>[l,c]
  | .mkfn _ cs=>cs
  | .nilchk x=>[x]
  | .store x v _=>[x,v]
  | .box x=>[x]
  | .copy x y _=>[x,y]
  | .grow x n _ _ _=>[x,n]
  | .bs2bs x=>[x]
  | .alloc _=>[]
  | .bad=>[]
def slots:List Arg→List Nat
  | []=>[]
  | .t n :: r=>n :: slots r
  | .k _ :: r=>slots r
def usesO (o:AOper):List Nat:=match o.guard with
  | some (t,_)=>t :: slots (argsOf o.op)
  | none=>slots (argsOf o.op)
def pickL (l:List (Nat×AV)):List Nat→List (Nat×AV)
  | []=>[]
  | t :: r=>match lk l t with
    | some x=>(t,x) :: pickL l r
    | none=>pickL l r
theorem pickL_some {l:List (Nat×AV)}:∀ {ts:List Nat} {t:Nat} {x:AV},lk (pickL l ts) t = some x→lk l t = some x∧t∈ts
  | [],t,x,h=>by cases h
  | u :: r,t,x,h=>by
    simp only [pickL] at h
    split at h
    · rename_i y hy
      simp only [lk] at h
      cases hb:Nat.beq u t with
      | true =>
        rw [hb] at h
        cases h
        cases Nat.eq_of_beq_eq_true hb
        exact ⟨hy,List.mem_cons_self⟩
      | false =>
        rw [hb] at h
        obtain ⟨h1,h2⟩:=pickL_some h
        exact ⟨h1,List.mem_cons_of_mem _ h2⟩
    · obtain ⟨h1,h2⟩:=pickL_some h
      exact ⟨h1,List.mem_cons_of_mem _ h2⟩

def memN (x:Nat):List Nat→Bool
  | []=>false
  | y :: r=>bif Nat.beq x y then true else memN x r
theorem memN_iff {x:Nat}:∀ {l:List Nat},memN x l = true↔x∈l
  | []=>by simp [memN]
  | y :: r=>by
    simp only [memN,List.mem_cons]
    cases hb:Nat.beq x y with
    | true=>simp [Nat.eq_of_beq_eq_true hb]
    | false =>
      have:¬ x = y:=fun h=>by rw [h,Nat.beq_refl] at hb; cases hb
      simp only [cond_false,this,false_or]
      exact memN_iff
def apartA (p r:AOper):Bool :=
  (match p.dst with
   | none=>true
   | some t=>!memN t (usesO r) && (match r.dst with | none=>true | some u=>!Nat.beq t u)) &&
  (match r.dst with
   | none=>true
   | some t=>!memN t (usesO p))
def nodupH:AHeap→Bool
  | []=>true
  | (l,_) :: r=>!hasK l r && nodupH r
theorem nodupH_fun:∀ {H:AHeap},nodupH H = true→Fun H
  | [],_=>fun x hx=>by cases hx
  | (l,o) :: r,h=>by
    simp only [nodupH,Bool.and_eq_true,Bool.not_eq_true'] at h
    obtain ⟨h1,h2⟩:=h
    have hn:l ∉ AHeap.keys r:=fun hl=>by rw [hasK_iff.2 hl] at h1; cases h1
    intro x hx y hy he
    rcases List.mem_cons.1 hx with rfl | hx <;> rcases List.mem_cons.1 hy with rfl | hy
    · rfl
    · exact absurd (mem_keys.2 ⟨y.2,by rw [show l = y.1 from he]; exact hy⟩) hn
    · exact absurd (mem_keys.2 ⟨x.2,by rw [show l = x.1 from he.symm]; exact hx⟩) hn
    · exact nodupH_fun h2 x hx y hy he

structure QOut where
  l:List (Nat×AV)
  side:Prop
structure QRec (P:Program) (aops:List AOper) (H:AHeap) (r:Rec):Prop where
  ok:RecOK P aops r
  quiet:r.hin = r.hout
  sub:∀ x∈r.hin,x∈H
  uses:∃ ao,aops[r.idx]? = some ao∧ao.dst = r.dst∧∀ t x,lk r.args t = some x→t∈usesO ao

theorem HeapRel.drawn {S:Seal} {i:Emb} {H:AHeap} {w:World} (h:HeapRel S i H w) (k:Nat):HeapRel S i H { w with drawn:=k } :=
  ⟨h.cell,h.size,h.obj,h.inj,h.dom,h.gr⟩
theorem Tr.drawn {S S':Seal} {i i':Emb} {H H':AHeap} {w w':World} {k:Nat} (h:Tr S i H { w with drawn:=k } S' i' H' w'):Tr S i H w S' i' H' w' :=
  ⟨h.up,h.grow,h.old,h.newSeal,h.newEmb,h.sub,h.os,h.out,h.tape⟩

end Go.Proofs.Abs
end
section
namespace Go.Proofs.Abs
open Go

mutual
def AV.ltb (k:Nat):AV→Bool
  | .d _=>true
  | .cp _ _=>true
  | .ptr l _=>Nat.blt l k
  | .sl l _ _ _ _=>Nat.blt l k
  | .ap l _ _=>Nat.blt l k
  | .win _ _=>true
  | .nils=>true
  | .agg l=>AV.ltbL k l
  | .tup l=>AV.ltbL k l
  | .fn _ l=>AV.ltbL k l
  | .mp l=>Nat.blt l k
  | .lf l=>Nat.blt l k
  | .dn _=>true
  | .row l _ _=>Nat.blt l k
  | .apo l _ _=>Nat.blt l k
  | .lit _=>true
  | .any=>true
def AV.ltbL (k:Nat):List AV→Bool
  | []=>true
  | x :: r=>bif AV.ltb k x then AV.ltbL k r else false
end
mutual
theorem AV.lt_of {k:Nat}:∀ {x:AV},AV.ltb k x = true→x.lt k
  | .d _,_=>.d
  | .cp _ _,_=>.cp
  | .ptr l _,h=>.ptr (by rw [AV.ltb] at h; exact Nat.le_of_ble_eq_true h)
  | .sl l _ _ _ _,h=>.sl (by rw [AV.ltb] at h; exact Nat.le_of_ble_eq_true h)
  | .ap l _ _,h=>.ap (by rw [AV.ltb] at h; exact Nat.le_of_ble_eq_true h)
  | .win _ _,_=>.win
  | .nils,_=>.nils
  | .agg l,h=>.agg (AV.ltL_of (by rw [AV.ltb] at h; exact h))
  | .tup l,h=>.tup (AV.ltL_of (by rw [AV.ltb] at h; exact h))
  | .fn _ l,h=>.fn (AV.ltL_of (by rw [AV.ltb] at h; exact h))
  | .mp l,h=>.mp (by rw [AV.ltb] at h; exact Nat.le_of_ble_eq_true h)
  | .lf l,h=>.lf (by rw [AV.ltb] at h; exact Nat.le_of_ble_eq_true h)
  | .dn _,_=>.dn
  | .row l _ _,h=>.row (by rw [AV.ltb] at h; exact Nat.le_of_ble_eq_true h)
  | .apo l _ _,h=>.apo (by rw [AV.ltb] at h; exact Nat.le_of_ble_eq_true h)
  | .lit _,_=>.lit
  | .any,_=>.any
theorem AV.ltL_of {k:Nat}:∀ {l:List AV},AV.ltbL k l = true→∀ x∈l,AV.lt k x
  | [],_=>fun x hx=>by cases hx
  | y :: r,h=>fun x hx=>by
    rw [AV.ltbL] at h
    cases hb:AV.ltb k y with
    | false=>rw [hb] at h; cases h
    | true =>
      rw [hb] at h
      rcases List.mem_cons.1 hx with hx | hx
      · rw [hx]; exact AV.lt_of hb
      · exact AV.ltL_of h x hx
end
def AObj.ltb (k:Nat):AObj→Bool
  | .cells l=>AV.ltbL k l
  | .tok _=>true
  | .rowD _=>true
  | .rowP _=>true
  | .row l=>AV.ltbL k l
  | .rowQ _ _ _ sp _=>sp.all fun x=>AV.ltb k x.2
  | .tokv _ _=>true
  | .mp _=>true
  | .mpb _ _=>true
  | .lp _ sl _ _ _ _ _=>sl.all fun x=>AV.ltb k x.2
theorem AObj.lt_of {k:Nat} {o:AObj} (h:AObj.ltb k o = true):o.lt k:=by
  cases o with
  | cells l=>exact AV.ltL_of h
  | tok n=>exact trivial
  | rowD ds=>exact trivial
  | rowP ds=>exact trivial
  | row l=>exact AV.ltL_of h
  | rowQ f z vs sp ds=>exact fun x hx=>AV.lt_of (List.all_eq_true.1 h x hx)
  | tokv n ds=>exact trivial
  | mp es=>exact trivial
  | mpb es k=>exact trivial
  | lp N sl ps asg bd st pend=>exact fun x hx=>AV.lt_of (List.all_eq_true.1 h x hx)

def sub1:List (Nat×Nat)→Nat→Nat
  | [],l=>l
  | (a,b) :: r,l=>bif Nat.beq a l then b else sub1 r l

def slotsIn (l:List (Nat×AV)) (s:Nat→Nat) (k:Nat):List (Nat×AV)→Prop
  | []=>True
  | (t,v) :: r=>lk l t = some (v.ren s)∧AV.ltb k v = true∧slotsIn l s k r
def objsIn (H:AHeap) (s:Nat→Nat) (k:Nat):AHeap→Prop
  | []=>True
  | (t,o) :: r=>lkH H (s t) = some (o.ren s)∧Nat.blt t k = true∧AObj.ltb k o = true∧objsIn H s k r
def allB (p:Nat→Bool):Nat→Bool
  | 0=>true
  | n + 1=>bif p n then allB p n else false
theorem allB_of {p:Nat→Bool}:∀ {n:Nat},allB p n = true→∀ l,l < n→p l = true
  | 0,_,l,h=>by omega
  | n + 1,h,l,hl=>by
    rw [allB] at h
    cases hb:p n with
    | false=>rw [hb] at h; cases h
    | true =>
      rw [hb] at h
      rcases Nat.lt_or_eq_of_le (Nat.le_of_lt_succ hl) with h' | h'
      · exact allB_of h l h'
      · rw [h']; exact hb
def subOK (m k:Nat) (ps:List (Nat×Nat)) (H':AHeap):Bool :=
  allB (fun l=>Nat.beq (sub1 ps l) l) m && allB (fun l=>hasK l H' || Nat.beq (sub1 ps l) l) k &&
  H'.all fun x=>H'.all fun y=>!Nat.beq (sub1 ps x.1) (sub1 ps y.1) || Nat.beq x.1 y.1

structure InC (m N k:Nat) (l':List (Nat×AV)) (H':AHeap) (a:AAct) (H:AHeap):Prop where
  n:a.n = N
  ren:∃ ps,subOK m k ps H' = true∧slotsIn a.l (sub1 ps) k l'∧objsIn H (sub1 ps) k H'

section
variable {P:Program} {ro:Option Nat} {a:AAct} {H:AHeap} {n m:Nat} {Q:Exit→AAct→AHeap→Nat→Prop}

end

end Go.Proofs.Abs
end
section
namespace Go.Proofs.Abs
open Go
section
variable {P:Program} {ro:Option Nat} {m n N:Nat} {aops:List AOper} {l:List (Nat×AV)} {H:AHeap} {Q:Exit→AAct→AHeap→Nat→Prop}

end
end Go.Proofs.Abs
end
section
namespace Go.Proofs.Abs
open Go Go.ChangeShapes Go.WideShapes Go.ChangeAt Go.RowKit

def sealOf (W:World):Seal where
  cell:=W.cell?
  size b:=match W.heap[b]? with
    | some (.cells c _ _)=>some c.size
    | _=>none
theorem heap0 (W:World) (hg:∀ a v,gT a = some v→W.cell? a = some v):HeapRel (sealOf W) (fun _=>none) [] W where
  cell:=fun _ _ h=>h
  size:=fun b n h=>by
    simp only [sealOf] at h
    split at h
    · rename_i c e f hc
      cases h
      exact ⟨c,e,f,hc,rfl⟩
    · cases h
  obj:=fun _ _ h=>by cases h
  inj:=fun _ _ _ _ _ h=>by cases h
  dom:=fun _ _ h=>by cases h
  gr:=hg

theorem law_calls {P:Program} {f:FuncId} {args:List AV} (h:ACalls P f args [] (.d (.bool true)) []) {vs:List Value} (W:World) (hg:∀ a v,gT a = some v→W.cell? a = some v) (hlen:args.length = vs.length)
    (hv:∀ j (h1:j < args.length) (h2:j < vs.length),V (sealOf W) (fun _=>none) args[j] vs[j]):Calls P f vs.toArray W fun e w'=>e = .returned (.bool true)∧Below W.heap.size W w':=by
  refine Calls.mono (h.2 (sealOf W) (fun _=>none) W vs hlen hv (heap0 W hg) (fun l hl=>by cases hl)) fun e w' ⟨v,he,S',i',h1,h2,h3,h4,h5⟩=>⟨?_,?_⟩
  · rw [he,vBool h1]
  · refine ⟨h4.os,h4.tape,h4.out,h4.grow,fun k hk=>h4.old k hk ?_⟩
    rintro ⟨l,o,hm,_⟩
    cases hm

end Go.Proofs.Abs
end
section
namespace Go.Proofs.Abs
open Go
abbrev noGo (Q:Exit→AAct→AHeap→Nat→Prop):Exit→AAct→AHeap→Nat→Prop
  | .goto _=>fun _ _ _=>False
  | e=>Q e
def noGoC (Q:Exit→Act→World→Prop):Exit→Act→World→Prop
  | .goto _=>fun _ _=>False
  | e=>Q e

theorem stepR_scope {P:Program} {b:Frame} {a:Act} {k:List Item} {cs:List Frame} {w:World} {c:Code} :
    step P (lone (b.atR a (.code (.scope c) :: k)) cs w) = .next (lone (b.atR a (.code c :: .inScope c :: k)) cs w) :=
  step_lone_go (by simp [stepG,stepG.exec,Frame.atR])
theorem stepR_inScope {P:Program} {b:Frame} {a:Act} {k:List Item} {cs:List Frame} {w:World} {c:Code} :
    step P (lone (b.atR a (.inScope c :: k)) cs w) = .next (lone (b.atR a k) cs w) :=
  step_lone_go (by simp [stepG,stepG.exec,Frame.atR])

theorem wpIn_scope {F:Fence} {n:Nat} {P:Program} {Q:Exit→Act→World→Prop} {a:Act} {w:World} {c:Code} (h:c.wpIn F n P (noGoC Q) a w):(Code.scope c).wpIn F n P Q a w:=by
  intro b k cs hro hb hr
  have h0:(lone (b.atR a (.code (.scope c) :: k)) cs w).fenced P F:=fenced_calm hb hr rfl
  obtain ⟨e,a₁,w₁,hq,harr⟩:=h b (.inScope c :: k) cs hro hb hr
  cases e with
  | normal=>exact ⟨.normal,a₁,w₁,hq,.head h0 stepR_scope (StepsIn.trans harr (.one (fenced_calm hb hr rfl) stepR_inScope))⟩
  | exit id =>
    have hx:exitTo id (.inScope c :: k) = exitTo id k:=by simp [exitTo]
    exact ⟨_,a₁,w₁,hq,fun k' hk=>.head h0 stepR_scope (harr.1 k' (by rw [hx]; exact hk)),
      fun hr' hk=>let ⟨k₁,h1,h2⟩:=harr.2 hr' (by rw [hx]; exact hk); ⟨k₁,h1,.head h0 stepR_scope h2⟩⟩
  | goto l=>exact hq.elim
  | ret=>exact ⟨_,a₁,w₁,hq,.of_steps (.one h0 stepR_scope) harr⟩
  | panic ch=>exact ⟨_,a₁,w₁,hq,.of_steps (.one h0 stepR_scope) harr⟩
  | outgrown=>exact ⟨_,a₁,w₁,hq,.of_steps (.one h0 stepR_scope) harr⟩

theorem AWc.scope {P:Program} {ro:Option Nat} {m n:Nat} {a:AAct} {H:AHeap} {Q:Exit→AAct→AHeap→Nat→Prop} {c:ACode} (h:AWc P ro m c a H n (noGo Q)):AWc P ro m (.scope c) a H n Q:=by
  intro cc hcc
  cases cc <;> simp only [compCode] at hcc
  case scope u =>
    injection hcc with h1
    intro S i w ca ha hh hn
    refine wpIn_scope (wpIn_mono (h u h1 S i w ca ha hh hn) ?_)
    rintro ex ca' w' ⟨a',H',n',S',i',q,r⟩
    cases ex with
    | goto l=>exact q.elim
    | normal=>exact ⟨a',H',n',S',i',q,r⟩
    | exit j=>exact ⟨a',H',n',S',i',q,r⟩
    | ret=>exact ⟨a',H',n',S',i',q,r⟩
    | panic ch=>exact ⟨a',H',n',S',i',q,r⟩
    | outgrown=>exact ⟨a',H',n',S',i',q,r⟩
  all_goals first | (split at hcc <;> cases hcc) | cases hcc
end Go.Proofs.Abs
end
section
namespace Go.Proofs.Abs
open Go

def hcan (r:Rec) (a:AAct) (H:AHeap):Prop:=qcan r a∧(∀ x∈r.hin,x∈H)∧Fun r.hout
def hchain:List Rec→AAct→AHeap→AAct→AHeap→Prop
  | [],a,H,a',H'=>(a'.n = a.n∧∀ t,lk a'.l t = lk a.l t)∧∀ x,x∈H'↔x∈H
  | r :: rs,a,H,a',H'=>hcan r a H∧hchain rs (a.put r.dst r.r) (stepH r H) a' H'

theorem stepH_mem {r:Rec} {H:AHeap} {x:Nat×AObj}:x∈stepH r H↔x∈r.hout∨(x∈H∧x.1 ∉ r.lab):=by
  simp only [stepH,List.mem_append,mem_restH]
theorem fun_step {r:Rec} {H:AHeap} (hF:Fun H) (hr:Fun r.hout):Fun (stepH r H):=by
  intro x hx y hy he
  have inlab:∀ {z:Nat×AObj},z∈r.hout→z.1∈r.lab:=fun {z} hz=>List.mem_append.2 (.inr (mem_keys.2 ⟨z.2,hz⟩))
  rcases stepH_mem.1 hx with hx | hx <;> rcases stepH_mem.1 hy with hy | hy
  · exact hr x hx y hy he
  · exact absurd (he ▸ inlab hx) hy.2
  · exact absurd (he ▸ inlab hy) hx.2
  · exact hF x hx.1 y hy.1 he
theorem hchain_eqv:∀ {rs:List Rec} {a b a':AAct} {H G H':AHeap},a.n = b.n→(∀ t,lk a.l t = lk b.l t)→(∀ x,x∈H↔x∈G)→hchain rs a H a' H'→hchain rs b G a' H'
  | [],a,b,a',H,G,H',h1,h2,h3,h=>⟨⟨h.1.1.trans h1,fun t=>(h.1.2 t).trans (h2 t)⟩,fun x=>(h.2 x).trans (h3 x)⟩
  | r :: rs,a,b,a',H,G,H',h1,h2,h3,h=>by
    obtain ⟨⟨⟨c1,c2⟩,c3,c4⟩,h⟩:=h
    refine ⟨⟨⟨fun t x hx=>(h2 t).symm.trans (c1 t x hx),fun t ht=>h1 ▸ c2 t ht⟩,fun x hx=>(h3 x).1 (c3 x hx),c4⟩,?_⟩
    refine hchain_eqv (by rw [put_n,put_n,h1]) (fun t=>?_) (fun x=>?_) h
    · rw [lk_put,lk_put,h2 t]
    · rw [stepH_mem,stepH_mem,h3 x]

def labApart (p r:Rec):Prop:=(∀ l∈p.lab,l ∉ r.lab)∨(p.hin = p.hout∧r.hin = r.hout)

theorem quiet_step {r:Rec} {H:AHeap} (hF:Fun H) (hq:r.hin = r.hout) (hsub:∀ x∈r.hin,x∈H) (x:Nat×AObj):x∈stepH r H↔x∈H:=by
  rw [stepH_mem]
  constructor
  · rintro (hx | ⟨hx,_⟩)
    · exact hsub x (hq ▸ hx)
    · exact hx
  · intro hx
    by_cases hl:x.1∈r.lab
    · left
      have:∃ y∈r.hin,y.1 = x.1:=by
        rcases List.mem_append.1 hl with hl | hl
        · obtain ⟨o,ho⟩:=mem_keys.1 hl
          exact ⟨_,ho,rfl⟩
        · obtain ⟨o,ho⟩:=mem_keys.1 hl
          exact ⟨(x.1,o),by rw [hq]; exact ho,rfl⟩
      obtain ⟨y,hy,he⟩:=this
      have:=hF y (hsub y hy) x hx he
      subst this
      exact hq ▸ hy
    · exact .inr ⟨hx,hl⟩

theorem h_swap {p r:Rec} {rs:List Rec} {a a':AAct} {H H':AHeap} (hF:Fun H) (hi:indep p r) (hl:labApart p r) (h:hchain (p :: r :: rs) a H a' H'):hchain (r :: p :: rs) a H a' H':=by
  obtain ⟨⟨hp1,hp2,hp3⟩,⟨hr1,hr2,hr3⟩,h⟩:=h
  have hq:qchain (p :: r :: []) a ((a.put p.dst p.r).put r.dst r.r):=⟨hp1,hr1,rfl,fun _=>rfl⟩
  obtain ⟨k1,k2,k3⟩:=q_swap hi hq
  have inhin:∀ {q:Rec} {x:Nat×AObj},x∈q.hin→x.1∈q.lab:=fun {q x} hz=>List.mem_append.2 (.inl (mem_keys.2 ⟨x.2,hz⟩))
  have inhout:∀ {q:Rec} {x:Nat×AObj},x∈q.hout→x.1∈q.lab:=fun {q x} hz=>List.mem_append.2 (.inr (mem_keys.2 ⟨x.2,hz⟩))
  rcases hl with hl | ⟨q1,q2⟩
  · have hrH:∀ x∈r.hin,x∈H:=fun x hx=>by
      rcases stepH_mem.1 (hr2 x hx) with h | h
      · exact absurd (inhin hx) (hl _ (inhout h))
      · exact h.1
    refine ⟨⟨k1,hrH,hr3⟩,⟨k2,fun x hx=>stepH_mem.2 (.inr ⟨hp2 x hx,hl _ (inhin hx)⟩),hp3⟩,hchain_eqv k3.1 (fun t=>k3.2 t) (fun x=>?_) h |> fun h=>hchain_eqv rfl (fun _=>rfl) (fun _=>Iff.rfl) h⟩
    simp only [stepH_mem]
    constructor
    · rintro (h | ⟨h | ⟨h1,h2⟩,h3⟩)
      · exact .inr ⟨.inl h,fun hx=>hl _ hx (inhout h)⟩
      · exact .inl h
      · exact .inr ⟨.inr ⟨h1,h3⟩,h2⟩
    · rintro (h | ⟨h | ⟨h1,h2⟩,h3⟩)
      · exact .inr ⟨.inl h,hl _ (inhout h)⟩
      · exact .inl h
      · exact .inr ⟨.inr ⟨h1,h3⟩,h2⟩
  · have e1:=quiet_step hF q1 hp2
    have hrH:∀ x∈r.hin,x∈H:=fun x hx=>(e1 x).1 (hr2 x hx)
    have e2:=quiet_step hF q2 hrH
    have e3:=quiet_step (fun_step hF hp3) q2 hr2
    have e4:=quiet_step (fun_step hF hr3) q1 (fun x hx=>(e2 x).2 (hp2 x hx))
    exact ⟨⟨k1,hrH,hr3⟩,⟨k2,fun x hx=>(e2 x).2 (hp2 x hx),hp3⟩,hchain_eqv k3.1 (fun t=>k3.2 t) (fun x=>by rw [e3 x,e1 x,e4 x,e2 x]) h⟩
end Go.Proofs.Abs
end
section
namespace Go.Proofs.Abs
open Go
theorem h_front {r:Rec} {post:List Rec}:∀ {pre:List Rec} {a a':AAct} {H H':AHeap},Fun H→(∀ p∈pre,indep p r∧labApart p r)→hchain (pre ++ r :: post) a H a' H'→hchain (r :: (pre ++ post)) a H a' H'
  | [],_,_,_,_,_,_,h=>h
  | p :: pre,a,a',H,H',hF,hi,h=>by
    have h1:=h_front (fun_step hF h.1.2.2) (fun q hq=>hi q (List.mem_cons_of_mem _ hq)) h.2
    exact h_swap hF (hi p List.mem_cons_self).1 (hi p List.mem_cons_self).2 ⟨h.1,h1⟩

inductive Cl (ops:Array Oper):Nat→Nat→Prop
  | one {i j:Nat} (h:j∈aft ops i):Cl ops i j
  | tr {i q j:Nat} (h:q∈aft ops i) (hr:Cl ops q j):Cl ops i j
def ClosedL (ops:Array Oper) (listed:Array Bool):Prop:=∀ i,listed.getD i false = true→∀ j∈aft ops i,listed.getD j false = true
theorem Cl.listed {ops:Array Oper} {listed:Array Bool} (hc:ClosedL ops listed) {i j:Nat} (h:Cl ops i j) (hb:∀ j∈aft ops i,listed.getD j false = true):listed.getD j false = true:=by
  induction h with
  | one h=>exact hb _ h
  | tr h hr ih=>exact ih (hc _ (hb _ h))
theorem lin_okH {ops:Array Oper} {a':AAct} {H':AHeap}:∀ (fuel t:Nat) (listed:Array Bool) (rs:List Rec) (a:AAct) (H:AHeap),Fun H→ClosedL ops listed→rs.length≤fuel→listed.size = ops.size→(∀ i,i < ops.size→(listed.getD i true = false↔∃ r∈rs,r.idx = i)) →
    (∀ r∈rs,r.idx < ops.size)→rs.Pairwise (fun p r=>p.idx < r.idx)→rs.Pairwise (fun p r=>Cl ops r.idx p.idx∨(indep p r∧labApart p r))→(∀ r∈rs,∀ j∈aft ops r.idx,j < r.idx)→hchain rs a H a' H' →
    ∃ rs',rs'.map (·.idx) = Region.linearise.go .any ops fuel t listed []∧rs'.Perm rs∧hchain rs' a H a' H'
  | 0,t,listed,rs,a,H,hF,hcl,hf,_,_,_,_,_,_,hq=>by
    have:rs = []:=List.eq_nil_of_length_eq_zero (Nat.le_zero.1 hf)
    subst this
    exact ⟨[],rfl,.refl _,hq⟩
  | fuel + 1,t,listed,rs,a,H,hF,hcl,hf,hsz,hl,hlt,hsort,hpw,haf,hq=>by
    have hgo:Region.linearise.go .any ops (fuel + 1) t listed [] = match (Region.ready .any ops listed)[t % (Region.ready .any ops listed).length]? with
        | some i=>Region.linearise.go .any ops fuel (t / (Region.ready .any ops listed).length) (listed.setIfInBounds i true) [i]
        | none=>[]:=by
      rw [Region.linearise.go]
      rfl
    rw [hgo]
    have hready:∀ i,i∈Region.ready .any ops listed↔(∃ r∈rs,r.idx = i)∧∀ j∈aft ops i,listed.getD j false = true:=by
      intro i
      rw [mem_ready]
      constructor
      · rintro ⟨h1,o,ho,h2⟩
        have hi:i < ops.size:=(Array.getElem?_eq_some_iff.1 ho).1
        refine ⟨(hl i hi).1 h1,fun j hj=>?_⟩
        simp only [aft,ho,List.mem_map,List.mem_filter,Array.mem_toList_iff] at hj
        obtain ⟨e,⟨he,hb⟩,rfl⟩:=hj
        exact h2 e he hb
      · rintro ⟨⟨r,hr,rfl⟩,h2⟩
        have hi:=hlt r hr
        refine ⟨(hl _ hi).2 ⟨r,hr,rfl⟩,ops[r.idx],by simp [hi],fun e he hb=>h2 _ ?_⟩
        simp only [aft,Array.getElem?_eq_getElem hi,List.mem_map,List.mem_filter,Array.mem_toList_iff]
        exact ⟨e,⟨he,hb⟩,rfl⟩
    cases hrs:rs with
    | nil =>
      subst hrs
      have hnil:Region.ready .any ops listed = []:=by
        apply List.eq_nil_iff_forall_not_mem.2
        intro i hi
        obtain ⟨⟨r,hr,_⟩,_⟩:=(hready i).1 hi
        cases hr
      rw [hnil]
      exact ⟨[],by simp,.refl _,hq⟩
    | cons r0 rt =>
      rw [←hrs]
      have h0:r0∈rs:=by rw [hrs]; exact List.mem_cons_self
      have hmem0:r0.idx∈Region.ready .any ops listed:=by
        refine (hready _).2 ⟨⟨r0,h0,rfl⟩,fun j hj=>?_⟩
        have hjl:=haf r0 h0 j hj
        have hjs:j < ops.size:=Nat.lt_trans hjl (hlt r0 h0)
        cases hv:listed.getD j true with
        | false =>
          exfalso
          obtain ⟨r,hr,he⟩:=(hl j hjs).1 hv
          rw [hrs] at hr hsort
          rcases List.mem_cons.1 hr with rfl | hr
          · omega
          · have:=(List.pairwise_cons.1 hsort).1 r hr
            omega
        | true =>
          have:j < listed.size:=by omega
          simpa [Array.getD,this] using hv
      have hpos:0 < (Region.ready .any ops listed).length:=List.length_pos_of_mem hmem0
      have hmod:=Nat.mod_lt t hpos
      rw [List.getElem?_eq_getElem hmod]
      generalize hi:(Region.ready .any ops listed)[t % (Region.ready .any ops listed).length] = i
      have hir:i∈Region.ready .any ops listed:=by rw [←hi]; exact List.getElem_mem hmod
      obtain ⟨⟨r,hr,rfl⟩,hbef⟩:=(hready i).1 hir
      obtain ⟨pre,post,hsplit⟩:=List.append_of_mem hr
      simp only
      rw [linearise_go_acc]
      have hpre:∀ p∈pre,indep p r∧labApart p r:=by
        intro p hp
        rw [hsplit] at hpw
        rcases (List.pairwise_append.1 hpw).2.2 p hp r List.mem_cons_self with h | h
        · exfalso
          have:=h.listed hcl hbef
          have hp':p∈rs:=by rw [hsplit]; exact List.mem_append.2 (.inl hp)
          have h2:=(hl _ (hlt p hp')).2 ⟨p,hp',rfl⟩
          have h3:p.idx < listed.size:=by have:=hlt p hp'; omega
          simp [Array.getD,h3] at this h2
          rw [h2] at this; cases this
        · exact h
      have hfront:=h_front hF hpre (hsplit ▸ hq)
      have hsub:(pre ++ post).Sublist rs:=by rw [hsplit]; exact List.Sublist.append (List.Sublist.refl _) (List.sublist_cons_self _ _)
      have hlen:(pre ++ post).length + 1 = rs.length:=by rw [hsplit]; simp; omega
      have hnotin:∀ q∈pre ++ post,q.idx≠r.idx:=by
        intro q hq he
        rw [hsplit] at hsort
        obtain ⟨_,s2,s3⟩:=List.pairwise_append.1 hsort
        rcases List.mem_append.1 hq with h | h
        · have:=s3 q h r List.mem_cons_self; omega
        · have:=(List.pairwise_cons.1 s2).1 q h; omega
      have hcl':ClosedL ops (listed.setIfInBounds r.idx true):=by
        have up:∀ j,listed.getD j false = true→(listed.setIfInBounds r.idx true).getD j false = true:=by
          intro j hj
          by_cases hjr:j = r.idx
          · subst hjr
            have:r.idx < listed.size:=by have:=hlt r hr; omega
            simp [Array.getD,this]
          · rw [getD_set_ne false (fun h=>hjr h.symm)]; exact hj
        intro i hi j hj
        by_cases hir:i = r.idx
        · subst hir; exact up _ (hbef j hj)
        · rw [getD_set_ne false (fun h=>hir h.symm)] at hi
          exact up _ (hcl i hi j hj)
      obtain ⟨rs',k1,k2,k3⟩:=lin_okH fuel (t / (Region.ready .any ops listed).length) (listed.setIfInBounds r.idx true) (pre ++ post) (a.put r.dst r.r) (stepH r H) (fun_step hF hfront.1.2.2) hcl' (by omega) (by simpa using hsz) (fun j hj=>by
        by_cases hjr:j = r.idx
        · subst hjr
          have:r.idx < listed.size:=by omega
          simp only [Array.getD,Array.size_setIfInBounds,this,dif_pos]
          simp only [Array.getInternal_eq_getElem,Array.getElem_setIfInBounds_self,Bool.true_eq_false,false_iff,not_exists,not_and]
          exact fun q hq=>hnotin q hq
        · rw [getD_set_ne true (fun h=>hjr h.symm),hl j hj]
          constructor
          · rintro ⟨q,hq,rfl⟩
            rw [hsplit] at hq
            refine ⟨q,?_,rfl⟩
            rcases List.mem_append.1 hq with h | h
            · exact List.mem_append.2 (.inl h)
            · rcases List.mem_cons.1 h with rfl | h
              · exact absurd rfl hjr
              · exact List.mem_append.2 (.inr h)
          · rintro ⟨q,hq,rfl⟩
            exact ⟨q,hsub.subset hq,rfl⟩) (fun q hq=>hlt q (hsub.subset hq)) (hsort.sublist hsub) (hpw.sublist hsub) (fun q hq=>haf q (hsub.subset hq)) hfront.2
      exact ⟨r :: rs',by rw [List.map_cons,k1]; rfl,by rw [hsplit]; exact (List.Perm.cons r k2).trans List.perm_middle.symm,hfront.1,k3⟩

theorem h_chain:∀ {rs:List Rec} {a a':AAct} {H H':AHeap},hchain rs a H a' H'→∃ a'' H'',chain rs a H a'' H''∧(∀ x,x∈H'↔x∈H'')∧a''.n = a'.n∧∀ t,lk a'.l t = lk a''.l t
  | [],a,a',H,H',h=>⟨a,H,⟨rfl,rfl⟩,h.2,h.1.1.symm,h.1.2⟩
  | r :: rs,a,a',H,H',h=>by
    obtain ⟨a'',H'',k1,k2,k3,k4⟩:=h_chain h.2
    exact ⟨a'',H'',⟨⟨h.1.1.1,h.1.2.1,h.1.1.2⟩,k1⟩,k2,k3,k4⟩
theorem fresh_of {n:Nat}:∀ {rs:List Rec} {L:List Nat},(∀ r∈rs,∀ l∈newLab r,n≤l∧l ∉ L)→rs.Pairwise (fun p r=>∀ l∈newLab p,l ∉ newLab r)→freshL n L rs
  | [],_,_,_=>trivial
  | r :: rs,L,h1,h2=>by
    obtain ⟨p1,p2⟩:=List.pairwise_cons.1 h2
    refine ⟨h1 r List.mem_cons_self,fresh_of (fun q hq l hl=>⟨(h1 q (List.mem_cons_of_mem _ hq) l hl).1,fun hx=>?_⟩) p2⟩
    rcases List.mem_append.1 hx with hx | hx
    · exact p1 q hq l hx hl
    · exact (h1 q (List.mem_cons_of_mem _ hq) l hl).2 hx
end Go.Proofs.Abs
end
section
namespace Go.Proofs.Abs
open Go

structure Tk where
  lab:List Nat
  quiet:Bool
def TkR (t:Tk) (r:Rec):Prop:=(∀ x∈r.lab,x∈t.lab)∧(t.quiet = true→r.hin = r.hout)
inductive TkL:List Tk→List Rec→Prop
  | nil:TkL [] []
  | cons {t r T rs}:TkR t r→TkL T rs→TkL (t :: T) (r :: rs)

def URec (P:Program) (aops:List AOper) (r:Rec):Prop:=RecOK P aops r∧∃ ao,aops[r.idx]? = some ao∧ao.dst = r.dst∧∀ t x,lk r.args t = some x→t∈usesO ao

structure UOut where
  l:List (Nat×AV)
  H:AHeap
  c:Nat
def UOK (P:Program) (aops:List AOper) (N k m:Nat) (c:Nat) (l:List (Nat×AV)) (H:AHeap) (T:List Tk) (o:UOut):Prop :=
  ∃ rs:List Rec,rs.map (·.idx) = List.range' k m∧(∀ r∈rs,URec P aops r)∧hchain rs ⟨N,l⟩ H ⟨N,o.l⟩ o.H∧TkL T rs∧c≤o.c∧(∀ r∈rs,∀ x∈newLab r,c≤x∧x < o.c)∧rs.Pairwise fun p r=>∀ x∈newLab p,x ∉ newLab r

def RegU (P:Program) (aops:List AOper) (N k:Nat) (os:List AOper) (c:Nat) (l:List (Nat×AV)) (H:AHeap) (T:List Tk) (Q:AAct→AHeap→Nat→Prop):Prop :=
  aops.drop k = os→∃ o:UOut,UOK P aops N k os.length c l H T o∧Q ⟨N,o.l⟩ o.H o.c

section
variable {P:Program} {aops os:List AOper} {N k c:Nat} {l:List (Nat×AV)} {H:AHeap} {T:List Tk} {Q:AAct→AHeap→Nat→Prop}

theorem RegU.nil (h:Q ⟨N,l⟩ H c):RegU P aops N k [] c l H [] Q :=
  fun _=>⟨⟨l,H,c⟩,⟨[],rfl,fun r hr=>(by cases hr),⟨⟨rfl,fun _=>rfl⟩,fun _=>Iff.rfl⟩,.nil,Nat.le_refl _,fun r hr=>(by cases hr),.nil⟩,h⟩

theorem UOK.cons {m:Nat} {d:Option Nat} {args:List (Nat×AV)} {hin hout:AHeap} {r:AV} {o:UOut} {ao:AOper} (hget:aops[k]? = some ao) (hdst:ao.dst = d) (huse:∀ t x,lk args t = some x→t∈usesO ao)
    (hargs:∀ t x,lk args t = some x→lk l t = some x) (hd:dstOK d N = true) (hn:newOK c hin hout = true) (hok:RecOK P aops ⟨k,d,args,hin,hout,r⟩) (hsub:∀ x∈hin,x∈H) (hF:nodupH hout = true) {q:Bool} (hq:q = true→hin = hout)
    (h:UOK P aops N (k + 1) m (topK c hout) (putL d r l) (appK hout (restK hin hout H)) T o):UOK P aops N k (m + 1) c l H (⟨hin.keys ++ hout.keys,q⟩ :: T) o:=by
  obtain ⟨rs,r1,r2,r3,r4,r5,r6,r7⟩:=h
  obtain ⟨t1,t2⟩:=topK_le (c:=c) (H:=hout)
  have hnew:∀ x∈newLab ⟨k,d,args,hin,hout,r⟩,c≤x∧x < topK c hout:=by
    intro x hx
    obtain ⟨h1,h2⟩:=mem_newLab.1 hx
    refine ⟨?_,t2 x h1⟩
    rcases newOK_iff hn x h1 with h | h
    · exact h
    · exact absurd h h2
  have e1:(AAct.put ⟨N,l⟩ d r) = ⟨N,putL d r l⟩:=by cases d <;> rfl
  have e2:stepH ⟨k,d,args,hin,hout,r⟩ H = appK hout (restK hin hout H):=by rw [appK_eq,restK_eq]; rfl
  refine ⟨⟨k,d,args,hin,hout,r⟩ :: rs,by simp [r1,List.range'],fun x hx=>?_,⟨⟨⟨hargs,fun t ht=>?_⟩,hsub,nodupH_fun hF⟩,by rw [e1,e2]; exact r3⟩,.cons ⟨fun x hx=>hx,hq⟩ r4,by omega,fun x hx y hy=>?_,?_⟩
  · rcases List.mem_cons.1 hx with rfl | hx
    · exact ⟨hok,ao,hget,hdst,huse⟩
    · exact r2 x hx
  · dsimp only at ht
    subst ht
    exact Nat.le_of_ble_eq_true hd
  · rcases List.mem_cons.1 hx with rfl | hx
    · have:=hnew y hy; omega
    · have:=r6 x hx y hy; omega
  · refine List.pairwise_cons.2 ⟨fun x hx y hy hy'=>?_,r7⟩
    have:=(hnew y hy).2
    have:=(r6 x hx y hy').1
    omega

theorem RegU.op {d:Option Nat} {op:AOp} {g:Option (Nat×Bool)} {af:List Nat} {v v':AV} {hin hout H':AHeap} {c':Nat} {q:Bool} (hg:gOn g (pickL l (usesO ⟨d,op,g,af⟩)) = some true)
    (ht:AOpT P op (pickL l (usesO ⟨d,op,g,af⟩)) hin v hout) (hd:dstOK d N = true) (hsub:∀ x∈hin,x∈H) (hn:newOK c hin hout = true) (hF:nodupH hout = true) (hq:q = true→hin = hout) (hv:v = v')
    (hH:appK hout (restK hin hout H) = H') (hc:topK c hout = c') (h:RegU P aops N (k + 1) os c' (putL d v' l) H' T Q):RegU P aops N k (⟨d,op,g,af⟩ :: os) c l H (⟨hin.keys ++ hout.keys,q⟩ :: T) Q:=by
  intro hdrop
  subst hv hH hc
  have hget:aops[k]? = some ⟨d,op,g,af⟩:=by
    have:=List.getElem?_drop (xs:=aops) (i:=k) (j:=0)
    rw [hdrop] at this
    simpa using this.symm
  obtain ⟨o,h1,h2⟩:=h (by rw [←List.drop_drop,hdrop]; rfl)
  exact ⟨o,UOK.cons hget rfl (fun t x hx=>(pickL_some hx).2) (fun t x hx=>(pickL_some hx).1) hd hn ⟨_,hget,rfl,.inl ⟨hg,ht⟩⟩ hsub hF hq h1,h2⟩
theorem RegU.no {d:Option Nat} {op:AOp} {g:Option (Nat×Bool)} {af:List Nat} (hg:gOn g (pickL l (usesO ⟨d,op,g,af⟩)) = some false) (hd:dstOK d N = true)
    (h:RegU P aops N (k + 1) os c (putL d (.tup []) l) H T Q):RegU P aops N k (⟨d,op,g,af⟩ :: os) c l H (⟨[],true⟩ :: T) Q:=by
  intro hdrop
  have hget:aops[k]? = some ⟨d,op,g,af⟩:=by
    have:=List.getElem?_drop (xs:=aops) (i:=k) (j:=0)
    rw [hdrop] at this
    simpa using this.symm
  obtain ⟨o,h1,h2⟩:=h (by rw [←List.drop_drop,hdrop]; rfl)
  have e:appK ([]:AHeap) (restK [] [] H) = H:=by
    rw [appK_eq,restK_eq]
    simp [restH,AHeap.keys]
  refine ⟨o,UOK.cons (hin:=[]) (hout:=[]) (r:=.tup []) hget rfl (fun t x hx=>(pickL_some hx).2) (fun t x hx=>(pickL_some hx).1) hd rfl ⟨_,hget,rfl,.inr ⟨hg,rfl,rfl,rfl⟩⟩ (fun x hx=>by cases hx) rfl (fun _=>rfl) ?_,h2⟩
  rw [e]
  exact h1

variable {op:AOp} {g:Option (Nat×Bool)} {af:List Nat} {t:Nat}
theorem restK_nil (H:AHeap):appK ([]:AHeap) (restK [] [] H) = H:=by
  rw [appK_eq,restK_eq]
  simp [restH,AHeap.keys]
theorem RegU.p1 {v v':AV} {s:Prop} (hg:gOn g (pickL l (usesO ⟨some t,op,g,af⟩)) = some true) (h:evOp false 0 (evA (pickL l (usesO ⟨some t,op,g,af⟩))) H op = some ⟨v,[],[],s⟩) (hs:s) (hd:Nat.blt t N = true) (hv:v = v')
    (hn:RegU P aops N (k + 1) os c ((t,v') :: l) H T Q):RegU P aops N k (⟨some t,op,g,af⟩ :: os) c l H (⟨[],true⟩ :: T) Q :=
  RegU.op (hin:=[]) (hout:=[]) hg (evOp_ok h hs) hd (fun x hx=>by cases hx) rfl rfl (fun _=>rfl) hv (restK_nil H) rfl hn
theorem RegU.p0 {v:AV} (hg:gOn g (pickL l (usesO ⟨some t,op,g,af⟩)) = some true) (h:evOp false 0 (evA (pickL l (usesO ⟨some t,op,g,af⟩))) H op = some ⟨v,[],[],True⟩) (hd:Nat.blt t N = true)
    (hn:RegU P aops N (k + 1) os c ((t,v) :: l) H T Q):RegU P aops N k (⟨some t,op,g,af⟩ :: os) c l H (⟨[],true⟩ :: T) Q:=RegU.p1 hg h trivial hd rfl hn
theorem RegU.ev {d:Option Nat} {own:Bool} {v v':AV} {s:Prop} {hin hout H':AHeap} {c':Nat} (hg:gOn g (pickL l (usesO ⟨d,op,g,af⟩)) = some true) (h:evOp own c (evA (pickL l (usesO ⟨d,op,g,af⟩))) H op = some ⟨v,hin,hout,s⟩) (hs:s)
    (hd:dstOK d N = true) (hn:newOK c hin hout = true) (hF:nodupH hout = true) (hv:v = v') (hH:appK hout (restK hin hout H) = H') (hc:topK c hout = c')
    (hn':RegU P aops N (k + 1) os c' (putL d v' l) H' T Q):RegU P aops N k (⟨d,op,g,af⟩ :: os) c l H (⟨hin.keys ++ hout.keys,false⟩ :: T) Q :=
  RegU.op hg (evOp_ok h hs) hd (evOp_hin h) hn hF (fun h=>by cases h) hv hH hc hn'
inductive SubL:List AV→List AV→Prop
  | nil:SubL [] []
  | cons {x y xs ys}:Sub x y→SubL xs ys→SubL (x :: xs) (y :: ys)
theorem SubL.refl:∀ l:List AV,SubL l l
  | []=>.nil
  | _ :: r=>.cons (.refl _) (SubL.refl r)
theorem SubL.get:∀ {xs ys:List AV},SubL xs ys→xs.length = ys.length∧∀ j (h1:j < xs.length) (h2:j < ys.length),Sub xs[j] ys[j]
  | _,_,.nil=>⟨rfl,fun j h1=>by simp at h1⟩
  | _,_,.cons h hs=>by
    obtain ⟨a,b⟩:=SubL.get hs
    refine ⟨by simp [a],fun j h1 h2=>?_⟩
    cases j with
    | zero=>exact h
    | succ j=>exact b j (by simpa using h1) (by simpa using h2)
theorem RegU.call {d:Option Nat} {gg:Arg} {as:List Arg} {fv:AV} {vs ws ys:List AV} {f:FuncId} {r r':AV} {hin hout H':AHeap} {c':Nat} {q:Bool} (hcall:ACalls P f ys hin r hout)
    (hg:gOn g (pickL l (usesO ⟨d,.call gg as,g,af⟩)) = some true) (hf:evA (pickL l (usesO ⟨d,.call gg as,g,af⟩)) gg = some fv) (has:allAV (evA (pickL l (usesO ⟨d,.call gg as,g,af⟩))) as = some vs) (hco:callOf fv vs = some (f,ws)) (hsub:SubL ws ys)
    (hr:Sub r r') (hq:q = true→hin = hout) (hd:dstOK d N = true) (hin':∀ x∈hin,lkH H x.1 = some x.2) (hn:newOK c hin hout = true) (hF:nodupH hout = true) (hH:appK hout (restK hin hout H) = H') (hc:topK c hout = c')
    (hn':RegU P aops N (k + 1) os c' (putL d r' l) H' T Q):RegU P aops N k (⟨d,.call gg as,g,af⟩ :: os) c l H (⟨hin.keys ++ hout.keys,q⟩ :: T) Q:=by
  have h1:=(hcall.args hsub.get.1 hsub.get.2).res hr
  refine RegU.op hg ?_ hd (fun x hx=>lkH_mem (hin' x hx)) hn hF hq rfl hH hc hn'
  unfold callOf at hco
  split at hco <;> cases hco
  · exact AOpT.call hf has h1
  · exact AOpT.callC hf has h1
def disjL (a b:List Nat):Bool:=a.all fun x=>!memN x b
def reachB (aops:List AOper):Nat→Nat→Nat→Bool
  | 0,_,_=>false
  | f + 1,i,j=>match aops[i]? with
    | some r=>memN j r.after || r.after.any fun q=>Nat.blt j q && reachB aops f q j
    | none=>false
def indepT:List Tk→List AOper→Bool:=fun T aops =>
  (List.range aops.length).all fun i=>match aops[i]?,T[i]? with
    | some r,some tr=>(r.after.all fun j=>Nat.blt j i) && (List.range i).all fun j=>match aops[j]?,T[j]? with
      | some p,some tp=>memN j r.after || (apartA p r && (disjL tp.lab tr.lab || (tp.quiet && tr.quiet))) || reachB aops 12 i j
      | _,_=>false
    | _,_=>false

inductive ClA (aops:List AOper):Nat→Nat→Prop
  | one {i j:Nat} {r:AOper} (hr:aops[i]? = some r) (h:j∈r.after):ClA aops i j
  | tr {i q j:Nat} {r:AOper} (hr:aops[i]? = some r) (h:q∈r.after) (hq:ClA aops q j):ClA aops i j
theorem reachB_ok {aops:List AOper}:∀ {f i j:Nat},reachB aops f i j = true→ClA aops i j
  | 0,_,_,h=>by cases h
  | f + 1,i,j,h=>by
    simp only [reachB] at h
    split at h
    · rename_i r hr
      simp only [Bool.or_eq_true,List.any_eq_true,Bool.and_eq_true] at h
      rcases h with h | ⟨q,hq,_,h⟩
      · exact .one hr (memN_iff.1 h)
      · exact .tr hr hq (reachB_ok h)
    · cases h
theorem TkL.len:∀ {T:List Tk} {rs:List Rec},TkL T rs→T.length = rs.length
  | _,_,.nil=>rfl
  | _,_,.cons _ h=>by simp [TkL.len h]
theorem TkL.get:∀ {T:List Tk} {rs:List Rec},TkL T rs→∀ (i:Nat) (t:Tk) (r:Rec),T[i]? = some t→rs[i]? = some r→TkR t r
  | _,_,.nil,i,t,r,h,_=>by simp at h
  | _,_,.cons h hs,i,t,r,h1,h2=>by
    cases i with
    | zero=>simp at h1 h2; subst h1 h2; exact h
    | succ i=>exact TkL.get hs i t r (by simpa using h1) (by simpa using h2)
end

section
variable {P:Program} {aops:List AOper} {ro:Option Nat} {N m n:Nat} {l:List (Nat×AV)} {H:AHeap} {T:List Tk} {Q:Exit→AAct→AHeap→Nat→Prop}

theorem reg_end {rs':List Rec} {ops:Array Oper} {o:UOut} {w0:World} (hm:m≤n) (hok:∀ r∈rs',RecOK P (ops.toList.map (compOper P ops)) r) (hch:hchain rs' ⟨N,l⟩ H ⟨N,o.l⟩ o.H) (hno:n≤o.c)
    (hnew:∀ r∈rs',∀ x∈newLab r,n≤x∧x < o.c) (hpw:rs'.Pairwise fun p r=>∀ x∈newLab p,x ∉ newLab r) (hQ:Q .normal ⟨N,o.l⟩ o.H o.c) {S:Seal} {i:Emb} {w:World} {ca:Act} (ha:ActRel S i ⟨N,l⟩ ca) (hh:HeapRel S i H w)
    (hd:∀ l b,i l = some b→l < n) (hw:∀ {S' i' H' w'},Tr S i H w S' i' H' w'→Tr S i H w0 S' i' H' w') :
    wpOpsIn (fen ro) 0 P ops (fun ex ca' w'=>∃ a' H' n' S' i',Q ex a' H' n'∧ActRel S' i' a' ca'∧Marks w0 w' ca.defers ca'.defers∧HeapRel S' i' H' w'∧(∀ l b,i' l = some b→l < n') ∧
      (∀ l,l < m→i' l = i l)∧Tr S i H w0 S' i' H' w') (rs'.map (·.idx)) ca w:=by
  obtain ⟨a'',H'',c1,c2,c3,c4⟩:=h_chain hch
  refine recs_ok n rs' _ _ a'' H'' [] hok c1 (fresh_of (fun r hr x hx=>⟨(hnew r hr x hx).1,by simp⟩) hpw) S i w ca ha hh (fun l b hl=>.inl (hd l b hl)) ?_
  intro S' i' w' ca' hact hdef hhp hle hdom hag htr
  refine ⟨⟨N,o.l⟩,o.H,o.c,S',i',hQ,⟨hact.size.trans c3,fun t x hx=>hact.get t x ((c4 t).symm.trans hx)⟩,.of_eq hdef,hhp.perm fun x hx=>(c2 x).1 hx,fun l b hl=>?_,fun l hl=>hag l (by omega),
    hw (htr.perm (fun _ h=>h) (fun x hx=>(c2 x).1 hx))⟩
  rcases hdom l b hl with h | h | h
  · omega
  · cases h
  · obtain ⟨r,hr,hx⟩:=List.mem_flatMap.1 h
    exact (hnew r hr l hx).2

theorem AWc.reg {draw:Bool} (hmix:P.follows .mixedOrders = true) (hm:m≤n) (hH:nodupH H = true) (h:RegU P aops N 0 aops n l H T (Q .normal)) (hT:draw = true→indepT T aops = true):AWc P ro m (.region draw aops) ⟨N,l⟩ H n Q:=by
  obtain ⟨o,⟨rs,r1,r2,r3,r4,r5,r6,r7⟩,hQ⟩:=h rfl
  intro cc hcc
  cases cc <;> simp only [compCode] at hcc
  case region id ops dr =>
    injection hcc with h1 h2
    subst h1 h2
    have hlen:(ops.toList.map (compOper P ops)).length = ops.size:=by simp
    cases dr with
    | false =>
      intro S i w ca ha hh hd
      refine wpIn_region ?_
      have hsz:ops.size = (ops.toList.map (compOper P ops)).length:=by simp
      rw [hsz,List.range_eq_range',←r1]
      exact reg_end hm (fun r hr=>(r2 r hr).1) r3 r5 r6 r7 hQ ha hh hd fun t=>t
    | true =>
      have hind:=hT rfl
      have hidx:∀ r∈rs,r.idx < ops.size:=by
        intro r hr
        have:r.idx∈rs.map (·.idx):=List.mem_map.2 ⟨r,hr,rfl⟩
        rw [r1] at this
        simpa [hlen,List.mem_range'_1] using this
      have hmemall:∀ i,i < ops.size→∃ r∈rs,r.idx = i:=by
        intro i hi
        have:i∈rs.map (·.idx):=by rw [r1]; simpa [hlen,List.mem_range'_1] using hi
        obtain ⟨r,hr,he⟩:=List.mem_map.1 this
        exact ⟨r,hr,he⟩
      have hsort:rs.Pairwise (fun p r=>p.idx < r.idx):=by
        have:(rs.map (·.idx)).Pairwise (· < ·):=by rw [r1]; exact List.pairwise_lt_range'
        exact List.pairwise_map.1 this
      have hrl:rs.length = ops.size:=by
        have:=congrArg List.length r1
        simpa [hlen] using this
      have hat:∀ r∈rs,rs[r.idx]? = some r:=by
        intro r hr
        obtain ⟨j,hj,rfl⟩:=List.getElem_of_mem hr
        have:(rs.map (·.idx))[j]? = some j:=by
          rw [r1]
          have:j < ops.size:=by omega
          simp [hlen,this]
        simp only [List.getElem?_map,List.getElem?_eq_getElem hj,Option.map_some] at this
        injection this with this
        rw [this]
        exact List.getElem?_eq_getElem hj
      have hcheck:∀ r∈rs,∀ ar,(ops.toList.map (compOper P ops))[r.idx]? = some ar→(∀ j∈ar.after,j < r.idx)∧∀ p∈rs,∀ ap,p.idx < r.idx→(ops.toList.map (compOper P ops))[p.idx]? = some ap→ClA (ops.toList.map (compOper P ops)) r.idx p.idx∨(apartA ap ar = true∧labApart p r):=by
        intro r hr ar har
        have hi:r.idx < (ops.toList.map (compOper P ops)).length:=(List.getElem?_eq_some_iff.1 har).1
        have h0:=List.all_eq_true.1 hind r.idx (List.mem_range.2 hi)
        rw [har] at h0
        have hTi:∃ tr,T[r.idx]? = some tr:=by
          have:r.idx < T.length:=by rw [r4.len]; have:=hidx r hr; omega
          exact ⟨_,List.getElem?_eq_getElem this⟩
        obtain ⟨tr,htr⟩:=hTi
        rw [htr] at h0
        simp only [Bool.and_eq_true] at h0
        refine ⟨fun j hj=>Nat.le_of_ble_eq_true (List.all_eq_true.1 h0.1 j hj),fun p hp ap hlt hap=>?_⟩
        have h3:=List.all_eq_true.1 h0.2 p.idx (List.mem_range.2 hlt)
        rw [hap] at h3
        have hTp:∃ tp,T[p.idx]? = some tp:=by
          have:p.idx < T.length:=by rw [r4.len]; have:=hidx p hp; omega
          exact ⟨_,List.getElem?_eq_getElem this⟩
        obtain ⟨tp,htp⟩:=hTp
        rw [htp] at h3
        simp only [Bool.or_eq_true,Bool.and_eq_true] at h3
        rcases h3 with (h3 | h3) | h3
        · exact .inl (.one har (memN_iff.1 h3))
        case inr=>exact .inl (reachB_ok h3)
        obtain ⟨h4,h5⟩:=h3
        refine .inr ⟨h4,?_⟩
        obtain ⟨pa,pb⟩:=r4.get p.idx tp p htp (hat p hp)
        obtain ⟨ra,rb⟩:=r4.get r.idx tr r htr (hat r hr)
        rcases h5 with h5 | h5
        · refine .inl fun x hx hx'=>?_
          have:=List.all_eq_true.1 h5 x (pa x hx)
          rw [memN_iff.2 (ra x hx')] at this
          cases this
        · exact .inr ⟨pb h5.1,rb h5.2⟩
      have haft:∀ i r,(ops.toList.map (compOper P ops))[i]? = some r→∀ j,j∈aft ops i↔j∈r.after:=by
        intro i r hr j
        simp only [List.getElem?_map,Option.map_eq_some_iff] at hr
        obtain ⟨o,ho,rfl⟩:=hr
        have ho':ops[i]? = some o:=by simpa using ho
        simp only [aft,ho',compOper,List.mem_eraseDups]
      have hclA:∀ {i j},ClA (ops.toList.map (compOper P ops)) i j→Cl ops i j:=by
        intro i j h
        induction h with
        | one hr hj=>exact .one ((haft _ _ hr _).2 hj)
        | tr hr hq _ ih=>exact .tr ((haft _ _ hr _).2 hq) ih
      intro S i w ca ha hh hd
      refine wpIn_region_draw fun t=>?_
      rw [hmix]
      have hsch:Region.schedule true ops t = Region.linearise.go .any ops ops.size t (Array.replicate ops.size false) []:=rfl
      rw [hsch]
      obtain ⟨rs',k1,k2,k3⟩:=lin_okH (ops:=ops) ops.size t (Array.replicate ops.size false) rs ⟨N,l⟩ H (nodupH_fun hH) (fun i hi=>by simp [Array.getD] at hi) (by omega) (by simp) (fun i hi=>by simp [hi]; exact hmemall i hi) hidx hsort (by
        refine List.Pairwise.imp_of_mem ?_ hsort
        intro p r hp hr hlt
        obtain ⟨ap,ap1,ap2,ap3⟩:=(r2 p hp).2
        obtain ⟨ar,ar1,ar2,ar3⟩:=(r2 r hr).2
        rcases (hcheck r hr ar ar1).2 p hp ap hlt ap1 with h | ⟨h,hlab⟩
        · exact .inl (hclA h)
        · right
          have hno:∀ {ao:AOper} {q:Rec},(∀ t x,lk q.args t = some x→t∈usesO ao)→∀ t,memN t (usesO ao) = false→lk q.args t = none:=by
            intro ao q hq t ht
            cases hx:lk q.args t with
            | none=>rfl
            | some x=>rw [memN_iff.2 (hq t x hx)] at ht; cases ht
          simp only [apartA,Bool.and_eq_true] at h
          obtain ⟨h1,h2⟩:=h
          refine ⟨⟨fun t ht=>?_,fun t ht=>?_⟩,hlab⟩
          · rw [←ap2] at ht
            rw [ht] at h1
            simp only [Bool.and_eq_true,Bool.not_eq_true'] at h1
            refine ⟨hno ar3 t h1.1,fun hr'=>?_⟩
            rw [←ar2] at hr'
            rw [hr'] at h1
            have:=h1.2
            simp at this
          · rw [←ar2] at ht
            rw [ht] at h2
            simp only [Bool.not_eq_true'] at h2
            exact hno ap3 t h2) (fun r hr j hj=>by
        obtain ⟨ar,ar1,ar2,ar3⟩:=(r2 r hr).2
        exact (hcheck r hr ar ar1).1 j ((haft _ _ ar1 j).1 hj)) r3
      rw [←k1]
      have hmem:∀ r∈rs',r∈rs:=fun r hr=>k2.mem_iff.1 hr
      refine reg_end (w0:=w) hm (fun r hr=>(r2 r (hmem r hr)).1) k3 r5 (fun r hr=>r6 r (hmem r hr)) ?_ hQ ha (hh.drawn _) hd fun t=>t.drawn
      exact (k2.pairwise_iff (fun {p r} hpr x hx hx'=>hpr x hx' hx)).2 r7
  all_goals first | (split at hcc <;> cases hcc) | cases hcc
end
end Go.Proofs.Abs
end
section
namespace Go.Proofs.Abs
open Go

theorem Sub.trans {x y z:AV} (h:Sub x y) (g:Sub y z):Sub x z:=fun S i v hv=>g S i v (h S i v hv)
theorem Sub.of_eq {x y:AV} (h:x = y):Sub x y:=h ▸ .refl x
theorem Sub.nil {l z:Nat}:Sub .nils (.ap l z []):=fun _ _ _ h=>by cases h; exact .apn
theorem Sub.nilr {l z:Nat}:Sub .nils (.row l z 0):=fun _ _ _ h=>by cases h; exact .rown
theorem Sub.tup {xs ys:List AV} (h:SubL xs ys):Sub (.tup xs) (.tup ys):=fun S i v hv=>by
  obtain ⟨h1,h2⟩:=h.get
  cases hv with
  | tup hl hs=>exact .tup (h1.symm.trans hl) fun j k1 k2=>h2 j (by omega) k1 _ _ _ (hs j (by omega) k2)
theorem Sub.agg {xs ys:List AV} (h:SubL xs ys):Sub (.agg xs) (.agg ys):=fun S i v hv=>by
  obtain ⟨h1,h2⟩:=h.get
  cases hv with
  | agg hl hs=>exact .agg (h1.symm.trans hl) fun j k1 k2=>h2 j (by omega) k1 _ _ _ (hs j (by omega) k2)
theorem Sub.dagg {ds:List D}:Sub (.d (.agg ds)) (.agg (ds.map .d)):=by
  intro S i v hv
  have h:=vD hv
  cases h with
  | agg hl hs h =>
    refine .agg (by simpa using hl) fun j k1 k2=>?_
    rw [List.getElem_map]
    exact .d (h j (by simpa using k1) k2)
theorem toDs_get:∀ {l:List AV} {ds:List D},toDs l = some ds→l.length = ds.length∧∀ j (h1:j < l.length) (h2:j < ds.length),toD l[j] = some ds[j]
  | [],ds,h=>by cases h; exact ⟨rfl,fun j h1=>by simp at h1⟩
  | x :: r,ds,h=>by
    simp only [toDs] at h
    split at h <;> cases h
    rename_i a l h1 h2
    obtain ⟨k1,k2⟩:=toDs_get h2
    refine ⟨by simp [k1],fun j g1 g2=>?_⟩
    cases j with
    | zero=>exact h1
    | succ j=>exact k2 j (by simpa using g1) (by simpa using g2)
theorem Sub.aggd {xs:List AV} {ds:List D} (h:toDs xs = some ds):Sub (.agg xs) (.d (.agg ds)):=fun S i v hv=>by
  obtain ⟨h1,h2⟩:=toDs_get h
  cases hv with
  | agg hl hs =>
    refine .d (.agg (h1.symm.trans hl) (fun d hd=>?_) fun j k1 k2=>?_)
    · obtain ⟨j,hj,rfl⟩:=List.getElem_of_mem hd
      exact (toD_ok (h2 j (by omega) hj) (hs j (by omega) (by omega))).2
    · exact (toD_ok (h2 j (by omega) k1) (hs j (by omega) k2)).1

def SubO (p q:AObj):Prop:=(∀ S i w b,ObjRel S i w b p→ObjRel S i w b q)∧(p.nil0→q.nil0)
theorem SubO.refl (p:AObj):SubO p p:=⟨fun _ _ _ _ h=>h,fun h=>h⟩
theorem SubO.cells {xs ys:List AV} (h:SubL xs ys):SubO (.cells xs) (.cells ys):=by
  obtain ⟨h1,h2⟩:=h.get
  refine ⟨fun S i w b ⟨c,e,hc,hs,hv,hf⟩=>⟨c,e,hc,hs.trans h1,fun j k1 k2=>h2 j (by omega) k1 _ _ _ (hv j (by omega) k2),hf⟩,fun h=>h⟩

def slotsS (l:List (Nat×AV)) (s:Nat→Nat) (k:Nat):List (Nat×AV)→Prop
  | []=>True
  | (t,v) :: r=>(∃ u,lk l t = some u∧Sub u (v.ren s))∧AV.ltb k v = true∧slotsS l s k r
def objsS (H:AHeap) (s:Nat→Nat) (k:Nat):AHeap→Prop
  | []=>True
  | (t,o) :: r=>(∃ p,lkH H (s t) = some p∧SubO p (o.ren s))∧Nat.blt t k = true∧AObj.ltb k o = true∧objsS H s k r
theorem slotsS_lk {l:List (Nat×AV)} {s:Nat→Nat} {k:Nat}:∀ {l':List (Nat×AV)},slotsS l s k l'→∀ t x,lk l' t = some x→(∃ u,lk l t = some u∧Sub u (x.ren s))∧x.lt k
  | [],_,t,x,h=>by cases h
  | (u,v) :: r,h,t,x,hx=>by
    simp only [lk] at hx
    cases hb:Nat.beq u t with
    | true =>
      rw [hb] at hx
      cases hx
      cases Nat.eq_of_beq_eq_true hb
      exact ⟨h.1,AV.lt_of h.2.1⟩
    | false =>
      rw [hb] at hx
      exact slotsS_lk h.2.2 t x hx
theorem objsS_mem {H:AHeap} {s:Nat→Nat} {k:Nat}:∀ {H':AHeap},objsS H s k H'→∀ l o,(l,o)∈H'→(∃ p,(s l,p)∈H∧SubO p (o.ren s))∧l < k∧o.lt k
  | [],_,l,o,h=>by cases h
  | (u,v) :: r,h,l,o,hx=>by
    rcases List.mem_cons.1 hx with hx | hx
    · cases hx
      obtain ⟨⟨p,h1,h2⟩,h3,h4,_⟩:=h
      exact ⟨⟨p,lkH_mem h1,h2⟩,Nat.le_of_ble_eq_true h3,AObj.lt_of h4⟩
    · exact objsS_mem h.2.2.2 l o hx
def zsH:Nat→List AObj→AHeap
  | _,[]=>[]
  | n,o :: r=>(n,o) :: zsH (n + 1) r
theorem zsH_mem:∀ {zs:List AObj} {n l:Nat} {o:AObj},(l,o)∈zsH n zs→n≤l∧o∈zs
  | [],_,_,_,h=>by cases h
  | x :: r,n,l,o,h=>by
    rcases List.mem_cons.1 h with h | h
    · cases h; exact ⟨Nat.le_refl _,List.mem_cons_self⟩
    · obtain ⟨h1,h2⟩:=zsH_mem h
      exact ⟨by omega,List.mem_cons_of_mem _ h2⟩
def nilB:AObj→Bool
  | .tok n=>Nat.beq n 0
  | .row []=>true
  | .rowP []=>true
  | .rowQ _ _ [] [] []=>true
  | _=>false
theorem nilB_ok {o:AObj} (h:nilB o = true):o.nil0:=by
  unfold nilB at h
  split at h
  · exact Nat.eq_of_beq_eq_true h
  · rfl
  · rfl
  · exact ⟨rfl,rfl,rfl⟩
  · cases h

structure InS (m N k:Nat) (l':List (Nat×AV)) (H':AHeap) (a:AAct) (H:AHeap) (n:Nat):Prop where
  size:a.n = N
  ren:∃ zs ps,zs.all nilB = true∧subOK m k ps H' = true∧slotsS a.l (sub1 ps) k l'∧objsS (zsH n zs ++ H) (sub1 ps) k H'

section
variable {P:Program} {ro:Option Nat} {a:AAct} {H:AHeap} {n m:Nat} {Q:Exit→AAct→AHeap→Nat→Prop}

theorem AWc.toS {c:ACode} {N k:Nat} {l':List (Nat×AV)} {H':AHeap} (hm:m≤k) (hin:InS m N k l' H' a H n) (h:AWc P ro m c ⟨N,l'⟩ H' k Q):AWc P ro m c a H n Q:=by
  obtain ⟨hN,zs,ps,hzs,hps,hsl,hob⟩:=hin
  simp only [subOK,Bool.and_eq_true] at hps
  obtain ⟨⟨p1,p2⟩,p3⟩:=hps
  generalize hsdef:sub1 ps = s at *
  have hs:∀ l,l < m→s l = l:=fun l hl=>Nat.eq_of_beq_eq_true (allB_of p1 l hl)
  have hs':∀ l,l < k→l∈H'.keys∨s l = l:=fun l hl=>by
    have:=allB_of p2 l hl
    simp only [Bool.or_eq_true] at this
    exact this.imp hasK_iff.1 Nat.eq_of_beq_eq_true
  have hinj:∀ l l',l∈H'.keys→l'∈H'.keys→s l = s l'→l = l':=fun l l' hl hl' he=>by
    obtain ⟨o,ho⟩:=mem_keys.1 hl
    obtain ⟨o',ho'⟩:=mem_keys.1 hl'
    have:=List.all_eq_true.1 (List.all_eq_true.1 p3 _ ho) _ ho'
    simp only [Bool.or_eq_true,Bool.not_eq_true'] at this
    rcases this with h | h
    · rw [he,Nat.beq_refl] at h; cases h
    · exact Nat.eq_of_beq_eq_true h
  intro cc hcc S i w ca hact hh hn
  have hH:∀ l o,(l,o)∈H'→(∃ p,((s l,p)∈H∨(n≤s l∧p.nil0))∧SubO p (o.ren s))∧l < k∧o.lt k:=fun l o hm=>by
    obtain ⟨⟨p,h1,h2⟩,h3⟩:=objsS_mem hob l o hm
    refine ⟨⟨p,?_,h2⟩,h3⟩
    rcases List.mem_append.1 h1 with h1 | h1
    · obtain ⟨k1,k2⟩:=zsH_mem h1
      exact .inr ⟨k1,nilB_ok (List.all_eq_true.1 hzs _ k2)⟩
    · exact .inl h1
  have hin':∀ l o b,(l,o)∈H'→i (s l) = some b→∃ p,(s l,p)∈H:=fun l o b hm hb=>by
    obtain ⟨⟨p,hp | ⟨hp,_⟩,_⟩,_⟩:=hH l o hm
    · exact ⟨p,hp⟩
    · have:=hn _ _ hb; omega
  let j:Emb:=Emb.cut (fun l=>i (s l)) k
  have hj:∀ l b,j l = some b→l < k∧i (s l) = some b:=fun l b h=>Emb.cut_some h
  have hjl:∀ l,l < k→j l = i (s l):=fun l h=>Emb.cut_of h
  have h1:ActRel S j ⟨N,l'⟩ ca:=⟨hact.size.trans hN,fun t x hx=>by
    obtain ⟨⟨u,hu,hsub⟩,hlt⟩:=slotsS_lk hsl t x hx
    exact ((hsub _ _ _ (hact.get t _ hu)).unren rfl).cut hlt⟩
  have h2:HeapRel S j H' w:=by
    refine ⟨hh.cell,hh.size,fun l o hm=>?_,fun l o l' o' b x y hl hl'=>?_,fun l b hl=>hh.dom _ b (hj l b hl).2,hh.gr⟩
    · obtain ⟨⟨p,h0,hsub⟩,hl,ho⟩:=hH l o hm
      rcases h0 with h0 | ⟨h0,hz⟩
      · rcases hh.obj _ _ h0 with ⟨b,hb,hr⟩ | ⟨hn,ho'⟩
        · refine .inl ⟨b,by rw [hjl l hl]; exact hb,?_⟩
          exact ((hsub.1 _ _ _ _ hr).unren).relabel (K:=(· < k)) (fun l hl=>Emb.cut_of hl) ho
        · exact .inr ⟨by rw [hjl l hl]; exact hn,AObj.nil0_ren.1 (hsub.2 ho')⟩
      · refine .inr ⟨?_,AObj.nil0_ren.1 (hsub.2 hz)⟩
        rw [hjl l hl]
        cases hi:i (s l) with
        | none=>rfl
        | some b=>have:=hn _ _ hi; omega
    · obtain ⟨k1,e1⟩:=hj l b hl
      obtain ⟨k2,e2⟩:=hj l' b hl'
      obtain ⟨p,hp⟩:=hin' l o b x e1
      obtain ⟨p',hp'⟩:=hin' l' o' b y e2
      exact hinj l l' (mem_keys.2 ⟨o,x⟩) (mem_keys.2 ⟨o',y⟩) (hh.inj _ _ _ _ b hp hp' e1 e2)
  have hblk:∀ b,blk j H' b→blk i H b:=by
    rintro b ⟨l,o,hx,hb⟩
    obtain ⟨p,hp⟩:=hin' l o b hx (hj l b hb).2
    exact ⟨s l,p,hp,(hj l b hb).2⟩
  refine wpIn_mono (h cc hcc S j w ca h1 h2 fun l b hl=>(hj l b hl).1) ?_
  rintro ex ca' w' ⟨a'',H'',n'',S'',i'',q,ra,rd,rh,rn,re,rt⟩
  refine ⟨a'',H'',n'',S'',i'',q,ra,rd,rh,rn,fun l hl=>?_,?_⟩
  · rw [re l hl,hjl l (Nat.lt_of_lt_of_le hl hm),hs l hl]
  · refine ⟨rt.up,rt.grow,fun b hb hx=>rt.old b hb fun h=>hx (hblk b h),fun a v hv=>(rt.newSeal a v hv).imp id (Or.imp (hblk _) id),
      fun l b hb=>?_,fun b hb=>(rt.sub b hb).imp (hblk b) id,rt.os,rt.out,rt.tape⟩
    rcases rt.newEmb l b hb with h | h | h
    · obtain ⟨k1,e1⟩:=hj l b h
      rcases hs' l k1 with hk | hk
      · obtain ⟨o,ho⟩:=mem_keys.1 hk
        obtain ⟨p,hp⟩:=hin' l o b ho e1
        exact .inr (.inl ⟨s l,p,hp,e1⟩)
      · rw [hk] at e1; exact .inl e1
    · exact .inr (.inl (hblk b h))
    · exact .inr (.inr h)

theorem AWc.loopS {α:Type} {c:ACode} {N:Nat} (k:Nat) (L:α→List (Nat×AV)) (Hc:α→AHeap) (I:α→Prop) (μ:α→Nat) (x₀:α) (hm:m≤k) (h₀:I x₀) (hin:InS m N k (L x₀) (Hc x₀) a H n)
    (round:∀ x,I x→AWc P ro m c ⟨N,L x⟩ (Hc x) k (then' (fun a H n=>∃ y,I y∧μ y < μ x∧InS m N k (L y) (Hc y) a H n) Q)):AWc P ro m (.loop c) a H n Q:=by
  refine AWc.loop (fun x a H n=>I x∧InS m N k (L x) (Hc x) a H n) μ x₀ ⟨h₀,hin⟩ fun x a H n hI=>?_
  refine (AWc.toS hm hI.2 (round x hI.1)).mono fun ex a H n q=>?_
  cases ex with
  | normal=>obtain ⟨y,h1,h2,h3⟩:=q; exact ⟨y,⟨h1,h3⟩,h2⟩
  | exit j=>exact q
  | goto l=>exact q
  | ret=>exact q
  | panic ch=>exact q
  | outgrown=>exact q

theorem AWc.seqS {α:Type} {x y:ACode} {N:Nat} (k:Nat) (L:α→List (Nat×AV)) (Hc:α→AHeap) (I:α→Prop) (hm:m≤k)
    (hx:AWc P ro m x a H n (then' (fun a H n=>∃ y,I y∧InS m N k (L y) (Hc y) a H n) Q)) (hy:∀ z,I z→AWc P ro m y ⟨N,L z⟩ (Hc z) k Q):AWc P ro m (.seq x y) a H n Q :=
  AWc.seq (hx.mono fun ex a H n q=>by
    cases ex with
    | normal=>obtain ⟨z,h1,h2⟩:=q; exact AWc.toS hm h2 (hy z h1)
    | exit j=>exact q
    | goto l=>exact q
    | ret=>exact q
    | panic ch=>exact q
    | outgrown=>exact q)

def bodyOK (n K N:Nat) (args:List AV) (H:AHeap) (r:AV) (H':AHeap):Bool :=
  AV.ltbL n args && (H.all fun x=>Nat.blt x.1 n && AObj.ltb n x.2) && AV.ltb K r && (H'.all fun x=>Nat.blt x.1 K && AObj.ltb K x.2 && (Nat.blt x.1 n || !hasK x.1 H)) &&
  allB (fun l=>Nat.blt l n || (hasK l H' && !hasK l H)) K && Nat.ble args.length N
theorem acalls_gen {k:FuncId} {F:AFunc} (hF:HasF P k F) {args:List AV} {H H':AHeap} {r:AV} (n K:Nat) (hchk:bodyOK n K F.n args H r H' = true)
    (hb:AWc P none n F.body ⟨F.n,startL 0 args⟩ H n (DoneS F.res r H')):ACalls P k args H r H':=by
  simp only [bodyOK,Bool.and_eq_true] at hchk
  obtain ⟨⟨⟨⟨⟨h1,h2⟩,h3⟩,h4⟩,h5⟩,h6⟩:=hchk
  have hK:∀ l,l < K→l < n∨l∈H'.keys∧l ∉ H.keys:=fun l hl=>by
    have:=allB_of h5 l hl
    simp only [Bool.or_eq_true,Bool.and_eq_true,Bool.not_eq_true'] at this
    refine this.imp Nat.le_of_ble_eq_true fun ⟨k1,k2⟩=>⟨hasK_iff.1 k1,fun hx=>?_⟩
    rw [hasK_iff.2 hx] at k2; cases k2
  have up:∀ {x:AV},x.lt K→x.lb fun l=>l < n∨l∈H'.keys∧l ∉ H.keys:=by
    intro x hx
    induction hx with
    | d=>exact .d
    | cp=>exact .cp
    | ptr h=>exact .ptr (hK _ h)
    | sl h=>exact .sl (hK _ h)
    | ap h=>exact .ap (hK _ h)
    | win=>exact .win
    | nils=>exact .nils
    | agg _ ih=>exact .agg ih
    | tup _ ih=>exact .tup ih
    | fn _ ih=>exact .fn ih
    | mp h=>exact .mp (hK _ h)
    | lf h=>exact .lf (hK _ h)
    | dn=>exact .dn
    | row h=>exact .row (hK _ h)
    | apo h=>exact .apo (hK _ h)
    | lit=>exact .lit
    | any=>exact .any
  have upo:∀ {o:AObj},o.lt K→o.lb fun l=>l < n∨l∈H'.keys∧l ∉ H.keys:=by
    intro o ho
    cases o with
    | cells l=>exact fun x hx=>up (ho x hx)
    | tok n=>exact trivial
    | rowD ds=>exact trivial
    | rowP ds=>exact trivial
    | row l=>exact fun x hx=>up (ho x hx)
    | rowQ f z vs sp ds=>exact fun x hx=>up (ho x hx)
    | tokv n ds=>exact trivial
    | mp es=>exact trivial
    | mpb es k=>exact trivial
    | lp N sl ps asg bd st pend=>exact fun x hx=>up (ho x hx)
  refine acalls_of_bodyS hF n (AV.ltL_of h1) (fun l o hm=>?_) (up (AV.lt_of h3)) (fun l o hm=>?_) (Nat.le_of_ble_eq_true h6) hb
  · have:=List.all_eq_true.1 h2 _ hm
    simp only [Bool.and_eq_true] at this
    exact ⟨Nat.le_of_ble_eq_true this.1,AObj.lt_of this.2⟩
  · have:=List.all_eq_true.1 h4 _ hm
    simp only [Bool.and_eq_true,Bool.or_eq_true,Bool.not_eq_true'] at this
    refine ⟨this.2.imp Nat.le_of_ble_eq_true fun h hx=>?_,upo (AObj.lt_of this.1.2)⟩
    rw [hasK_iff.2 hx] at h; cases h

def useOK (ps:List (Nat×Nat)) (K:Nat) (H:AHeap) (r:AV) (H':AHeap):Bool :=
  allB (fun a=>allB (fun b=>!Nat.beq (sub1 ps a) (sub1 ps b) || Nat.beq a b) K) K && AV.ltb K r && (H.all fun x=>Nat.blt x.1 K) && (H'.all fun x=>Nat.blt x.1 K && AObj.ltb K x.2)
theorem ACalls.use {f:FuncId} {xs:List AV} {r:AV} {H H':AHeap} (h:ACalls P f xs H r H') (ps:List (Nat×Nat)) (K:Nat) (hchk:useOK ps K H r H' = true) :
    ACalls P f (AV.renL (sub1 ps) xs) (H.ren (sub1 ps)) (r.ren (sub1 ps)) (H'.ren (sub1 ps)):=by
  simp only [useOK,Bool.and_eq_true] at hchk
  obtain ⟨⟨⟨h1,h2⟩,h3⟩,h4⟩:=hchk
  rw [renL_eq]
  refine h.rename (sub1 ps) K (fun a ha b hb he=>?_) (AV.lt_of h2) (fun l o hm=>Nat.le_of_ble_eq_true (List.all_eq_true.1 h3 _ hm)) (fun l o hm=>?_)
  · have:=allB_of (allB_of h1 a ha) b hb
    simp only [Bool.or_eq_true,Bool.not_eq_true'] at this
    rcases this with h | h
    · rw [he,Nat.beq_refl] at h; cases h
    · exact Nat.eq_of_beq_eq_true h
  · have:=List.all_eq_true.1 h4 _ hm
    simp only [Bool.and_eq_true] at this
    exact ⟨Nat.le_of_ble_eq_true this.1,AObj.lt_of this.2⟩

theorem doneS {a:AAct} {H:AHeap} {n:Nat} {rs:List ARes} {r:AV} {H':AHeap} {xs:List AV} {s:Prop} {e:Exit} (he:e = .normal∨e = .ret) (h:resAll a.l H rs = some (xs,s)) (hs:s) (hsub:Sub (resV xs) r)
    (hH:∀ x∈H',lkH H x.1 = some x.2):DoneS rs r H' e a H n:=⟨he,xs,s,h,hs,hsub,fun x hx=>lkH_mem (hH x hx)⟩
end
end Go.Proofs.Abs
end
section
namespace Go.Proofs.Abs
open Go
set_option linter.unusedVariables false

def rd {α:Type} [Inhabited α] (xs:List α) (i:Int):α:=xs.getD i.toNat default
def gd {α:Type} (p:Prop) [Decidable p] (x:Option α):Option α:=if p then x else none
theorem gd_some {α:Type} {p:Prop} [Decidable p] {x:Option α} {r:α} (h:gd p x = some r):p∧x = some r:=by
  unfold gd at h
  split at h
  · exact ⟨by assumption,h⟩
  · cases h
theorem cond_pos {α:Type} {c:Bool} {x y:α} {r:α} (hc:c = true) (h:cond c x y = r):x = r:=by rw [hc] at h; exact h
theorem cond_neg {α:Type} {c:Bool} {x y:α} {r:α} (hc:c = false) (h:cond c x y = r):y = r:=by rw [hc] at h; exact h
theorem bind_some {α β:Type} {o:Option α} {f:α→Option β} {r:β} (h:o.bind f = some r):∃ x,o = some x∧f x = some r:=by
  cases o with
  | none=>cases h
  | some x=>exact ⟨x,rfl,h⟩
inductive LR (σ ρ:Type) where
  | b (n:Nat) (s:σ)
  | r (x:ρ)

theorem at_map {α:Type} [Inhabited α] {e:α→D} {xs:List α} {i:Int} (hb:0≤i∧i < (xs.length:Int)):at' (xs.map e) i.toNat = e (rd xs i):=by
  have h:i.toNat < xs.length:=by omega
  simp [at',rd,h]
theorem map_app {α β:Type} (f:α→β) (xs ys:List α):xs.map f ++ ys.map f = (xs ++ ys).map f:=List.map_append.symm

def RegV (P:Program) (aops:List AOper) (draw:Bool) (N k:Nat) (os:List AOper) (c:Nat) (l:List (Nat×AV)) (H:AHeap) (A:List Tk) (Q:AAct→AHeap→Nat→Prop):Prop :=
  ∃ T,RegU P aops N k os c l H T Q∧(draw = true→indepT (A.reverse ++ T) aops = true)

section
variable {P:Program} {aops os:List AOper} {draw:Bool} {N k c:Nat} {l:List (Nat×AV)} {H:AHeap} {A:List Tk} {Q:AAct→AHeap→Nat→Prop}
variable {op:AOp} {g:Option (Nat×Bool)} {af:List Nat} {t:Nat}

theorem AWc.rg {ro:Option Nat} {m n:Nat} {Q:Exit→AAct→AHeap→Nat→Prop} (hmix:P.follows .mixedOrders = true) (hm:Nat.ble m n = true) (hH:nodupH H = true) (h:RegV P aops draw N 0 aops n l H [] (Q .normal)) :
    AWc P ro m (.region draw aops) ⟨N,l⟩ H n Q:=by
  obtain ⟨T,h1,h2⟩:=h
  exact AWc.reg hmix (Nat.le_of_ble_eq_true hm) hH h1 h2
theorem RegV.nil0 (h:Q ⟨N,l⟩ H c):RegV P aops false N k [] c l H A Q:=⟨[],RegU.nil h,fun h=>by cases h⟩
theorem RegV.nil1 (hT:indepT A.reverse aops = true) (h:Q ⟨N,l⟩ H c):RegV P aops true N k [] c l H A Q:=⟨[],RegU.nil h,fun _=>by rw [List.append_nil]; exact hT⟩
theorem RegV.up {x:AOper} {t:Tk} {c':Nat} {l':List (Nat×AV)} {H':AHeap} (hs:∀ T,RegU P aops N (k + 1) os c' l' H' T Q→RegU P aops N k (x :: os) c l H (t :: T) Q) (h:RegV P aops draw N (k + 1) os c' l' H' (t :: A) Q) :
    RegV P aops draw N k (x :: os) c l H A Q:=by
  obtain ⟨T,h1,h2⟩:=h
  exact ⟨t :: T,hs T h1,fun hd=>by have:=h2 hd; rw [List.reverse_cons,List.append_assoc] at this; exact this⟩

abbrev us (l:List (Nat×AV)) (x:AOper):List (Nat×AV):=pickL l (usesO x)
theorem RegV.p1 {v v':AV} {s:Prop} (hg:gOn g (us l ⟨some t,op,g,af⟩) = some true) (h:evOp false 0 (evA (us l ⟨some t,op,g,af⟩)) H op = some ⟨v,[],[],s⟩) (hs:s) (hd:Nat.blt t N = true) (hv:v = v')
    (hn:RegV P aops draw N (k + 1) os c ((t,v') :: l) H (⟨[],true⟩ :: A) Q):RegV P aops draw N k (⟨some t,op,g,af⟩ :: os) c l H A Q :=
  RegV.up (fun _=>RegU.p1 hg h hs hd hv) hn
theorem RegV.p0 {v:AV} (hg:gOn g (us l ⟨some t,op,g,af⟩) = some true) (h:evOp false 0 (evA (us l ⟨some t,op,g,af⟩)) H op = some ⟨v,[],[],True⟩) (hd:Nat.blt t N = true)
    (hn:RegV P aops draw N (k + 1) os c ((t,v) :: l) H (⟨[],true⟩ :: A) Q):RegV P aops draw N k (⟨some t,op,g,af⟩ :: os) c l H A Q :=
  RegV.up (fun _=>RegU.p0 hg h hd) hn
theorem RegV.no {d:Option Nat} (hg:gOn g (us l ⟨d,op,g,af⟩) = some false) (hd:dstOK d N = true) (hn:RegV P aops draw N (k + 1) os c (putL d (.tup []) l) H (⟨[],true⟩ :: A) Q) :
    RegV P aops draw N k (⟨d,op,g,af⟩ :: os) c l H A Q:=RegV.up (fun _=>RegU.no hg hd) hn
theorem RegV.ld {v v':AV} {s:Prop} {x:Nat×AObj} (hg:gOn g (us l ⟨some t,op,g,af⟩) = some true) (h:evOp false 0 (evA (us l ⟨some t,op,g,af⟩)) H op = some ⟨v,[x],[x],s⟩) (hs:s) (hd:Nat.blt t N = true) (hv:v = v')
    {H':AHeap} (hH:appK [x] (restK [x] [x] H) = H') (hn:newOK c [x] [x] = true) (hc:topK c [x] = c)
    (hn':RegV P aops draw N (k + 1) os c ((t,v') :: l) H' (⟨AHeap.keys [x] ++ AHeap.keys [x],true⟩ :: A) Q):RegV P aops draw N k (⟨some t,op,g,af⟩ :: os) c l H A Q :=
  RegV.up (fun _=>RegU.op (hin:=[x]) (hout:=[x]) hg (evOp_ok h hs) hd (evOp_hin h) hn rfl (fun _=>rfl) hv hH hc) hn'
theorem RegV.ev {d:Option Nat} {own:Bool} {v v':AV} {s:Prop} {hin hout H':AHeap} {c':Nat} {l':List (Nat×AV)} (hg:gOn g (us l ⟨d,op,g,af⟩) = some true) (h:evOp own c (evA (us l ⟨d,op,g,af⟩)) H op = some ⟨v,hin,hout,s⟩) (hs:s)
    (hd:dstOK d N = true) (hn:newOK c hin hout = true) (hF:nodupH hout = true) (hv:v = v') (hl:putL d v' l = l') (hH:appK hout (restK hin hout H) = H') (hc:topK c hout = c')
    (hn':RegV P aops draw N (k + 1) os c' l' H' (⟨hin.keys ++ hout.keys,false⟩ :: A) Q):RegV P aops draw N k (⟨d,op,g,af⟩ :: os) c l H A Q :=
  RegV.up (fun _ h'=>RegU.ev hg h hs hd hn hF hv hH hc (by rw [hl]; exact h')) hn'
theorem RegV.call {d:Option Nat} {gg:Arg} {as:List Arg} {fv:AV} {vs ws ys:List AV} {f:FuncId} {r r':AV} {hin hout H':AHeap} {c':Nat} {l':List (Nat×AV)} {q:Bool} (hcall:ACalls P f ys hin r hout)
    (hg:gOn g (us l ⟨d,.call gg as,g,af⟩) = some true) (hf:evA (us l ⟨d,.call gg as,g,af⟩) gg = some fv) (has:allAV (evA (us l ⟨d,.call gg as,g,af⟩)) as = some vs) (hco:callOf fv vs = some (f,ws)) (hsub:SubL ws ys)
    (hr:Sub r r') (hq:q = true→hin = hout) (hd:dstOK d N = true) (hin':∀ x∈hin,lkH H x.1 = some x.2) (hn:newOK c hin hout = true) (hF:nodupH hout = true) (hl:putL d r' l = l') (hH:appK hout (restK hin hout H) = H') (hc:topK c hout = c')
    (hn':RegV P aops draw N (k + 1) os c' l' H' (⟨hin.keys ++ hout.keys,q⟩ :: A) Q):RegV P aops draw N k (⟨d,.call gg as,g,af⟩ :: os) c l H A Q :=
  RegV.up (fun _ h'=>RegU.call hcall hg hf has hco hsub hr hq hd hin' hn hF hH hc (by rw [hl]; exact h')) hn'
variable {α:Type} {e:α→D} {z:Nat}
theorem RegV.iad [Inhabited α] {x i:Arg} {y:AV} {xs:List α} {kd:IntKind} {n:Int} (hg:gOn g (us l ⟨some t,.iaddr x i z,g,af⟩) = some true) (hx:evA (us l ⟨some t,.iaddr x i z,g,af⟩) x = some y) (hy:toSl y = some (xs.map e))
    (hi:evA (us l ⟨some t,.iaddr x i z,g,af⟩) i = some (.d (.int kd n))) (hz:∀ a,(e a).cells.length = z) (hb:0≤n∧n < (xs.length:Int)) (hd:Nat.blt t N = true)
    (hn:RegV P aops draw N (k + 1) os c ((t,.cp (e (rd xs n)) 0) :: l) H (⟨[],true⟩ :: A) Q):RegV P aops draw N k (⟨some t,.iaddr x i z,g,af⟩ :: os) c l H A Q:=by
  refine RegV.p1 (v:=.cp (at' (xs.map e) n.toNat) 0) (s:=0≤n∧n < ((xs.map e).length:Nat)∧(at' (xs.map e) n.toNat).cells.length = z) hg ?_ ⟨hb.1,by simpa using hb.2,by rw [at_map hb]; exact hz _⟩ hd (by rw [at_map hb]) hn
  simp only [evOp,hx,hi]
  cases y <;> simp only [toSl,reduceCtorEq] at hy <;> first | (simp only [toSl,hy,Option.bind_some]; rfl) | (cases hy; rfl)
theorem RegV.len {x:Arg} {y:AV} {xs:List α} (hg:gOn g (us l ⟨some t,.len x,g,af⟩) = some true) (hx:evA (us l ⟨some t,.len x,g,af⟩) x = some y) (hy:toSl y = some (xs.map e)) (hd:Nat.blt t N = true)
    (hn:RegV P aops draw N (k + 1) os c ((t,.d (.int .i64 (xs.length:Int))) :: l) H (⟨[],true⟩ :: A) Q):RegV P aops draw N k (⟨some t,.len x,g,af⟩ :: os) c l H A Q:=by
  refine RegV.p1 (v:=.d (.int .i64 ((xs.map e).length:Nat))) (s:=True) hg ?_ trivial hd (by rw [List.length_map]) hn
  simp only [evOp,hx]
  cases y <;> simp only [toSl,reduceCtorEq] at hy <;> first | (simp only [toSl,hy,Option.bind_some]; rfl) | (cases hy; rfl)

def sl {α:Type} (xs:List α) (lo hi:Int):List α:=(xs.take hi.toNat).drop lo.toNat
theorem mapLen {xs:List α} (hz:∀ a,(e a).cells.length = z):∀ d∈xs.map e,d.cells.length = z:=fun d hd=>by
  obtain ⟨a,_,rfl⟩:=List.mem_map.1 hd
  exact hz a
theorem topK_one {o:AObj}:topK c [(c,o)] = c + 1:=by
  have:Nat.blt c c = false:=by
    cases h:Nat.blt c c with
    | false=>rfl
    | true=>have:=Nat.le_of_ble_eq_true h; omega
  simp only [topK,this,cond_false]
theorem RegV.split {b:Bool} (ht:b = true→RegV P aops draw N k os c ((t,.d (.bool true)) :: l) H A Q) (hf:b = false→RegV P aops draw N k os c ((t,.d (.bool false)) :: l) H A Q):RegV P aops draw N k os c ((t,.d (.bool b)) :: l) H A Q:=by
  cases b with
  | true=>exact ht rfl
  | false=>exact hf rfl
theorem map_byteOf (b:List UInt8):(b.map byteD).map byteOf = b:=by
  rw [List.map_map]
  conv=>rhs; rw [←List.map_id b]
  apply List.map_congr_left
  intro x _
  simp [byteD,byteOf]
end

section
variable {P:Program} {ro:Option Nat} {a:AAct} {H:AHeap} {n m:Nat} {Q:Exit→AAct→AHeap→Nat→Prop}
theorem inBlk_eq {id:Nat} (h:Q .normal a H n):inBlk id Q (.exit id) a H n:=by simp only [inBlk,if_true]; exact h
theorem inBlk_ne {id j:Nat} (hne:Nat.beq j id = false) (h:Q (.exit j) a H n):inBlk id Q (.exit j) a H n:=by
  have:j≠id:=fun h=>by rw [h,Nat.beq_refl] at hne; cases hne
  simp only [inBlk,if_neg this]; exact h
end
end Go.Proofs.Abs
end
section
namespace Go.Proofs.Abs
open Go
set_option linter.unusedVariables false

def eqDs:List Nat→List D→List D→Option Bool
  | [],[],[]=>some true
  | 0 :: ks,.int k a :: xs,.int k' b :: ys=>bif decide (k = k') then (eqDs ks xs ys).map (decide (a = b) && ·) else none
  | 1 :: ks,.str a :: xs,.str b :: ys=>(eqDs ks xs ys).map (decide (a = b) && ·)
  | 2 :: ks,.bool a :: xs,.bool b :: ys=>(eqDs ks xs ys).map ((a == b) && ·)
  | _,_,_=>none

section
variable {P:Program}
theorem ba_beq (a c:List UInt8):((⟨a.toArray⟩:ByteArray) == ⟨c.toArray⟩) = decide (a = c):=by
  show (a.toArray == c.toArray) = _
  rw [Bool.eq_iff_iff]; simp
theorem run_part {t:TypeId} {d:TypeDesc} {cs:Array Value} {off:Nat} {v:Value} {w:World} (hd:P.underlying t = some d) (ha:isAggD d = false) (h:cs[off]? = some v):(part t cs off).run P w = .ok v w:=by
  simp only [part,Sem.run_bind,run_isAgg hd,Result.andThen_ok,ha,h]
  rfl
theorem plainKinds_cons {f:Field} {r:List Field} {n:Nat} {ks:List Nat} (h:plainKinds P (f :: r) n = some ks):f.offset = n∧f.name≠"_"∧∃ k ks',ks = k :: ks'∧plainKinds P r (n + 1) = some ks' ∧
    ∃ d,P.underlying f.type = some d∧isAggD d = false∧((k = 0∧∃ kd,d = .int kd)∨(k = 1∧d = .string)∨(k = 2∧d = .bool)):=by
  simp only [plainKinds] at h
  split at h
  · rename_i hc
    simp only [Bool.and_eq_true,beq_iff_eq,bne_iff_ne] at hc
    refine ⟨hc.1,hc.2,?_⟩
    split at h <;> cases h
    · rename_i kd l hu hl
      exact ⟨0,l,rfl,hl,_,und_some hu (by simp),rfl,.inl ⟨rfl,kd,rfl⟩⟩
    · rename_i l hu hl
      exact ⟨1,l,rfl,hl,_,und_some hu (by simp),rfl,.inr (.inl ⟨rfl,rfl⟩)⟩
    · rename_i l hu hl
      exact ⟨2,l,rfl,hl,_,und_some hu (by simp),rfl,.inr (.inr ⟨rfl,rfl⟩)⟩
  · cases h
theorem eq_loop {S:Seal} {w:World} {d:Nat} {us vs:List Value}:∀ (fs:List Field) (n:Nat) (ks:List Nat) (xs ys:List D) (b:Bool),plainKinds P fs n = some ks→eqDs ks xs ys = some b →
    (∀ j (hj:j < xs.length),∃ u,us[n + j]? = some u∧DV S xs[j] u)→(∀ j (hj:j < ys.length),∃ u,vs[n + j]? = some u∧DV S ys[j] u) →
    (forIn fs ((none,()):Option Bool×Unit) fun f r=>if f.name≠"_" then do
      let __do_lift ←part f.type us.toArray f.offset
      let __do_lift_1 ←part f.type vs.toArray f.offset
      let __do_lift_2 ←Op.equalIn (d + 1) f.type __do_lift __do_lift_1
      if (!__do_lift_2) = true then pure (ForInStep.done (some false,())) else do
        pure PUnit.unit
        pure (ForInStep.yield (none,())) else do
      pure PUnit.unit
      pure (ForInStep.yield (none,())):Sem _).run P w = .ok (bif b then none else some false,()) w
  | [],n,ks,xs,ys,b,hk,h,_,_=>by
    cases hk
    cases xs <;> cases ys <;> simp [eqDs] at h
    subst h
    rfl
  | f :: r,n,ks,xs,ys,b,hk,h,hx,hy=>by
    obtain ⟨h1,h2,k,ks',rfl,hk',dd,hd,ha,hcase⟩:=plainKinds_cons hk
    have main:∀ (x y:D) (xs' ys':List D) (b1 b2:Bool),xs = x :: xs'→ys = y :: ys'→eqDs ks' xs' ys' = some b2→b = (b1 && b2)→(∀ u v,DV S x u→DV S y v→(Op.equalIn (d + 1) f.type u v).run P w = .ok b1 w) →
        (forIn (f :: r) ((none,()):Option Bool×Unit) fun f r=>if f.name≠"_" then do
      let __do_lift ←part f.type us.toArray f.offset
      let __do_lift_1 ←part f.type vs.toArray f.offset
      let __do_lift_2 ←Op.equalIn (d + 1) f.type __do_lift __do_lift_1
      if (!__do_lift_2) = true then pure (ForInStep.done (some false,())) else do
        pure PUnit.unit
        pure (ForInStep.yield (none,())) else do
      pure PUnit.unit
      pure (ForInStep.yield (none,())):Sem _).run P w = .ok (bif b then none else some false,()) w:=by
      rintro x y xs' ys' b1 b2 rfl rfl hrec rfl he
      obtain ⟨u,hu,hxu⟩:=hx 0 (by simp)
      obtain ⟨v,hv,hyv⟩:=hy 0 (by simp)
      have p1:=run_part (P:=P) (w:=w) (cs:=us.toArray) (off:=f.offset) hd ha (by rw [h1]; simpa using hu)
      have p2:=run_part (P:=P) (w:=w) (cs:=vs.toArray) (off:=f.offset) hd ha (by rw [h1]; simpa using hv)
      have he':=he u v hxu hyv
      have ih:=eq_loop (d:=d) (w:=w) r (n + 1) ks' xs' ys' b2 hk' hrec (fun j hj=>by
        have:=hx (j + 1) (by simpa using hj)
        rw [show n + 1 + j = n + (j + 1) by omega]
        exact this) (fun j hj=>by
        have:=hy (j + 1) (by simpa using hj)
        rw [show n + 1 + j = n + (j + 1) by omega]
        exact this)
      rw [List.forIn_cons]
      simp only [ne_eq,h2,not_false_eq_true,if_true,Sem.run_bind,p1,p2,he',Result.andThen_ok]
      cases b1 with
      | true =>
        simp only [Bool.not_true,Bool.false_eq_true,if_false,Sem.run_bind,Sem.run_pure,Result.andThen_ok,Bool.true_and]
        exact ih
      | false =>
        simp only [Bool.not_false,if_true,Sem.run_pure,Result.andThen_ok,Bool.false_and]
        rfl
    have eqi:∀ {u v:Value} {bb:Bool} {dd},P.underlying f.type = some dd→(∀ (K:TypeDesc→Sem Bool),K dd = pure bb→True)→True:=fun _ _=>trivial
    rcases hcase with ⟨rfl,kd,rfl⟩ | ⟨rfl,rfl⟩ | ⟨rfl,rfl⟩
    · obtain ⟨k,a,k',c,xs',ys',rfl,rfl⟩:∃ k a k' c xs' ys',xs = D.int k a :: xs'∧ys = D.int k' c :: ys':=by
        cases xs with
        | nil=>simp [eqDs] at h
        | cons x xs' =>
          cases ys with
          | nil=>cases x <;> simp [eqDs] at h
          | cons y ys'=>cases x <;> cases y <;> simp only [eqDs,reduceCtorEq] at h <;> exact ⟨_,_,_,_,_,_,rfl,rfl⟩
      · 
        simp only [eqDs] at h
        cases hkk:decide (k = k') <;> rw [hkk] at h <;> simp only [cond_true,cond_false,Option.map_eq_some_iff,reduceCtorEq] at h
        obtain ⟨b2,hb2,rfl⟩:=h
        refine main _ _ _ _ _ b2 rfl rfl hb2 rfl fun u v hu hv=>?_
        cases hu; cases hv
        have hund:(underlying f.type).run P w = .ok (.int kd) w:=by simp [underlying,hd]
        rw [Op.equalIn]
        simp only [Sem.run_bind,hund,Result.andThen_ok]
        rw [if_pos (of_decide_eq_true hkk)]
        rw [show decide (a = c) = (a == c) by rw [Bool.eq_iff_iff]; simp]
        rfl
    · obtain ⟨a,c,xs',ys',rfl,rfl⟩:∃ a c xs' ys',xs = D.str a :: xs'∧ys = D.str c :: ys':=by
        cases xs with
        | nil=>simp [eqDs] at h
        | cons x xs' =>
          cases ys with
          | nil=>cases x <;> simp [eqDs] at h
          | cons y ys'=>cases x <;> cases y <;> simp only [eqDs,reduceCtorEq] at h <;> exact ⟨_,_,_,_,rfl,rfl⟩
      · 
        simp only [eqDs,Option.map_eq_some_iff] at h
        obtain ⟨b2,hb2,rfl⟩:=h
        refine main _ _ _ _ _ b2 rfl rfl hb2 rfl fun u v hu hv=>?_
        cases hu; cases hv
        have hund:(underlying f.type).run P w = .ok .string w:=by simp [underlying,hd]
        rw [Op.equalIn]
        simp only [Sem.run_bind,hund,Result.andThen_ok]
        rw [←ba_beq]
        rfl
    · obtain ⟨a,c,xs',ys',rfl,rfl⟩:∃ a c xs' ys',xs = D.bool a :: xs'∧ys = D.bool c :: ys':=by
        cases xs with
        | nil=>simp [eqDs] at h
        | cons x xs' =>
          cases ys with
          | nil=>cases x <;> simp [eqDs] at h
          | cons y ys'=>cases x <;> cases y <;> simp only [eqDs,reduceCtorEq] at h <;> exact ⟨_,_,_,_,rfl,rfl⟩
      · 
        simp only [eqDs,Option.map_eq_some_iff] at h
        obtain ⟨b2,hb2,rfl⟩:=h
        refine main _ _ _ _ _ b2 rfl rfl hb2 rfl fun u v hu hv=>?_
        cases hu; cases hv
        have hund:(underlying f.type).run P w = .ok .bool w:=by simp [underlying,hd]
        rw [Op.equalIn]
        simp only [Sem.run_bind,hund,Result.andThen_ok]
        rfl

theorem compBin_agg {op:BinOp} {t:TypeId} {x y x' y':Arg} {neg:Bool} {ks:List Nat} (h:compBin P op t x y = .aggeq neg ks x' y'):x' = x∧y' = y∧(op = .eql∧neg = false∨op = .neq∧neg = true) ∧
    ∃ fs,P.underlying t = some (.struct fs)∧plainKinds P fs.toList 0 = some ks∧P.eqGuardType P.depth t = false∧P.stoodInHeld t = false:=by
  unfold compBin at h
  split at h
  case h_8 fs hu =>
    split at h
    · rename_i ks' hks
      split at h
      · rename_i hc
        simp only [Bool.and_eq_true,Bool.not_eq_true'] at hc
        split at h <;> cases h
        · exact ⟨rfl,rfl,.inl ⟨rfl,rfl⟩,fs,und_some hu (by simp),hks,hc.1,hc.2⟩
        · exact ⟨rfl,rfl,.inr ⟨rfl,rfl⟩,fs,und_some hu (by simp),hks,hc.1,hc.2⟩
      · cases h
    · cases h
  all_goals (repeat' (first | cases h | split at h))
theorem compConv_agg {s d:TypeId} {x x' y':Arg} {neg:Bool} {ks:List Nat}:compConv P s d x = .aggeq neg ks x' y'→False:=by
  intro h
  unfold compConv at h
  repeat' (first | cases h | split at h)
theorem compCall_agg {c:Call} {x' y':Arg} {neg:Bool} {ks:List Nat}:compCall P c = .aggeq neg ks x' y'→False:=by
  intro h
  unfold compCall at h
  repeat' (first | cases h | split at h)
  all_goals (simp only [sbK,szK] at h; repeat' (first | cases h | split at h))
theorem compOp_agg {op:Op} {x' y':Arg} {neg:Bool} {ks:List Nat} (h:compOp P op = .aggeq neg ks x' y'):∃ bop t x y t',op = .binOp bop t x y t'∧argA x = some x'∧argA y = some y'∧compBin P bop t x' y' = .aggeq neg ks x' y':=by
  cases op with
  | call c=>simp only [compOp] at h; exact (compCall_agg h).elim
  | binOp op t x y t' =>
    simp only [compOp] at h
    split at h
    · rename_i a b ha hb
      obtain ⟨rfl,rfl,_⟩:=compBin_agg h
      exact ⟨op,t,x,y,t',rfl,ha,hb,h⟩
    · cases h
  | convert s d x =>
    simp only [compOp] at h
    split at h
    · exact (compConv_agg h).elim
    · cases h
  | makeFunc fn first caps =>
    cases fn with
    | func f =>
      simp only [compOp] at h
      repeat' (first | cases h | split at h)
    | _=>cases h
  | makeMap t r=>exfalso; cases r <;> simp [compOp] at h
  | lookup t x i ok =>
    exfalso
    simp only [compOp] at h
    repeat' (first | cases h | split at h)
  | _ =>
    simp only [compOp,szK,sbK,aggK] at h
    repeat' (first | cases h | split at h)

theorem AOpT.agq {args:List (Nat×AV)} {x y:Arg} {neg:Bool} {ks:List Nat} {xs ys:List D} {b:Bool} (hx:evA args x = some (.d (.agg xs))) (hy:evA args y = some (.d (.agg ys))) (h:eqDs ks xs ys = some b) :
    AOpT P (.aggeq neg ks x y) args [] (.d (.bool (bif neg then !b else b))) []:=by
  refine ⟨fun z hz hb=>(by subst hz; cases hb),fun o hao=>?_⟩
  obtain ⟨bop,t,x0,y0,t',hop,ha,hb,hcomp⟩:=compOp_agg hao
  obtain ⟨_,_,hneg,fs,hfs,hks,hg1,hg2⟩:=compBin_agg hcomp
  refine .pure (by simp [hop]) fun S i w ρ hev hh=>⟨.bool (bif neg then !b else b),?_,.d .bool⟩
  have h1:=vD (argV hev ha hx)
  have h2:=vD (argV hev hb hy)
  obtain ⟨us,hu,hul,_,hus⟩:=dAgg_cells h1
  obtain ⟨vs,hv,hvl,_,hvs⟩:=dAgg_cells h2
  have hq:(Op.equal t (ρ x0) (ρ y0)).run P w = .ok b w:=by
    rw [hu,hv]
    have hund:(underlying t).run P w = .ok (.struct fs) w:=by simp [underlying,hfs]
    show (Op.equalIn (9998 + 1 + 1) t _ _).run P w = _
    rw [Op.equalIn]
    simp only [Sem.run_bind,hund,Result.andThen_ok]
    have hpr:(program:Sem Program).run P w = .ok P w:=rfl
    simp only [hpr,Result.andThen_ok,hg2,Bool.false_eq_true,if_false]
    have:=eq_loop (P:=P) (S:=S) (w:=w) (d:=9998) (us:=us) (vs:=vs) fs.toList 0 ks xs ys b hks h (fun j hj=>⟨us[j],by simp,hus j hj (by omega)⟩) (fun j hj=>⟨vs[j],by simp,hvs j hj (by omega)⟩)
    rw [←Array.forIn_toList]
    simp only [Sem.run_bind]
    rw [this,Result.andThen_ok]
    cases b <;> rfl
  have hg:(eqGuard bop t x0 y0 (ρ x0) (ρ y0)).run P w = .ok () w:=by
    rw [hu,hv]
    have hpr:(program:Sem Program).run P w = .ok P w:=rfl
    rcases hneg with ⟨rfl,_⟩ | ⟨rfl,_⟩ <;> simp [eqGuard,Sem.run_bind,hpr,hg1]
  rcases hneg with ⟨rfl,rfl⟩ | ⟨rfl,rfl⟩
  · have:(binOp .eql t (ρ x0) (ρ y0)).run P w = .ok (.bool b) w:=by
      rw [hu,hv] at hq ⊢
      simp only [binOp,Sem.run_bind,hq,Result.andThen_ok]; rfl
    simp only [execOp,hop,Sem.run_bind,hg,Result.andThen_ok,this]; rfl
  · have:(binOp .neq t (ρ x0) (ρ y0)).run P w = .ok (.bool (!b)) w:=by
      rw [hu,hv] at hq ⊢
      simp only [binOp,Sem.run_bind,hq,Result.andThen_ok]; rfl
    simp only [execOp,hop,Sem.run_bind,hg,Result.andThen_ok,this]; rfl
end
end Go.Proofs.Abs
end
section
namespace Go.Proofs.Abs
open Go
set_option linter.unusedVariables false
theorem rfl_le {a b:Nat} (h:Nat.ble a b = true:=by rfl):a≤b:=Nat.le_of_ble_eq_true h
abbrev slE {α:Type} (e:α→D) (xs:List α):D:=.sl (xs.map e)
inductive LR2 (σ τ ρ:Type) where
  | b0 (s:σ)
  | b1 (s:τ)
  | r (x:ρ)
def u8 (n:Int):UInt8:=UInt8.ofNat n.toNat
theorem u8_eq {n:Int} (h:0≤n∧n < 256):(D.int .u8 n) = .int .u8 ((u8 n).toNat:Nat):=by
  have:((u8 n).toNat:Int) = n:=by
    simp only [u8,UInt8.toNat_ofNat']
    omega
  rw [this]
theorem u8_wrap (n:Int):0≤IntKind.u8.wrap n∧IntKind.u8.wrap n < 256:=by
  simp only [IntKind.wrap,IntKind.signed,IntKind.bits]
  simp
  omega
theorem u8_bits (op:BinOp) (a b:Int):0≤bitsA op .u8 a b∧bitsA op .u8 a b < 256:=by
  unfold bitsA
  dsimp only
  split <;> exact u8_wrap _
theorem Sub.u8 {n:Int} (h:0≤n∧n < 256):Sub (.d (.int .u8 n)) (.d (.int .u8 ((u8 n).toNat:Nat))):=.of_eq (congrArg AV.d (u8_eq h))

theorem AWc.loopK {P:Program} {ro:Option Nat} {a:AAct} {H:AHeap} {n m:Nat} {Q:Exit→AAct→AHeap→Nat→Prop} {σ:Type} {c:ACode} {N:Nat} (K:Nat) (L:σ→List (Nat×AV)) (Hc:σ→AHeap) (I:Nat→σ→Prop) (k₀:Nat) (x₀:σ) (hm:m≤K)
    (h0:∀ x,¬ I 0 x) (h₀:I k₀ x₀) (hin:InS m N K (L x₀) (Hc x₀) a H n)
    (round:∀ k x,I (k + 1) x→AWc P ro m c ⟨N,L x⟩ (Hc x) K (then' (fun a H n=>∃ y,I k y∧InS m N K (L y) (Hc y) a H n) Q)):AWc P ro m (.loop c) a H n Q:=by
  refine AWc.loopS (α:=Nat×σ) K (fun x=>L x.2) (fun x=>Hc x.2) (fun x=>I x.1 x.2) (fun x=>x.1) (k₀,x₀) hm h₀ hin ?_
  rintro ⟨k,x⟩ h
  cases k with
  | zero=>exact (h0 x h).elim
  | succ k =>
    refine (round k x h).mono fun ex a H n q=>?_
    cases ex with
    | normal=>obtain ⟨y,h1,h2⟩:=q; exact ⟨(k,y),h1,Nat.lt_succ_self k,h2⟩
    | exit j=>exact q
    | goto l=>exact q
    | ret=>exact q
    | panic ch=>exact q
    | outgrown=>exact q
def HasAll (H:AHeap):AHeap→Prop
  | []=>True
  | (l,o) :: r=>lkH H l = some o∧HasAll H r
theorem hasNil {H:AHeap}:HasAll H []:=trivial
theorem hasCons {H r:AHeap} {l:Nat} {o:AObj} (h:lkH H l = some o) (hr:HasAll H r):HasAll H ((l,o) :: r):=⟨h,hr⟩
theorem HasAll.get {H:AHeap}:∀ {G:AHeap},HasAll H G→∀ x∈G,lkH H x.1 = some x.2
  | [],_,x,hx=>by cases hx
  | (l,o) :: r,h,x,hx=>by
    rcases List.mem_cons.1 hx with rfl | hx
    · exact h.1
    · exact HasAll.get h.2 x hx
theorem doneA {a:AAct} {H:AHeap} {n:Nat} {rs:List ARes} {r:AV} {H':AHeap} {xs:List AV} {s:Prop} {e:Exit} (he:e = .normal∨e = .ret) (h:resAll a.l H rs = some (xs,s)) (hs:s) (hsub:Sub (resV xs) r)
    (hH:HasAll H H'):DoneS rs r H' e a H n:=doneS he h hs hsub hH.get

section
variable {P:Program} {aops os:List AOper} {draw:Bool} {N k c:Nat} {l:List (Nat×AV)} {H:AHeap} {A:List Tk} {Q:AAct→AHeap→Nat→Prop}
variable {op:AOp} {g:Option (Nat×Bool)} {af:List Nat} {t:Nat}
theorem RegV.evS {own:Bool} {v v':AV} {s:Prop} {hin hout H':AHeap} {c':Nat} (hg:gOn g (us l ⟨some t,op,g,af⟩) = some true) (h:evOp own c (evA (us l ⟨some t,op,g,af⟩)) H op = some ⟨v,hin,hout,s⟩) (hs:s)
    (hd:Nat.blt t N = true) (hn:newOK c hin hout = true) (hF:nodupH hout = true) (hv:v = v') (hH:appK hout (restK hin hout H) = H') (hc:topK c hout = c')
    (hn':RegV P aops draw N (k + 1) os c' ((t,v') :: l) H' (⟨hin.keys ++ hout.keys,false⟩ :: A) Q):RegV P aops draw N k (⟨some t,op,g,af⟩ :: os) c l H A Q:=RegV.ev hg h hs hd hn hF hv rfl hH hc hn'
theorem RegV.evN {own:Bool} {v:AV} {s:Prop} {hin hout H':AHeap} {c':Nat} (hg:gOn g (us l ⟨none,op,g,af⟩) = some true) (h:evOp own c (evA (us l ⟨none,op,g,af⟩)) H op = some ⟨v,hin,hout,s⟩) (hs:s)
    (hn:newOK c hin hout = true) (hF:nodupH hout = true) (hH:appK hout (restK hin hout H) = H') (hc:topK c hout = c')
    (hn':RegV P aops draw N (k + 1) os c' l H' (⟨hin.keys ++ hout.keys,false⟩ :: A) Q):RegV P aops draw N k (⟨none,op,g,af⟩ :: os) c l H A Q:=RegV.ev hg h hs rfl hn hF rfl rfl hH hc hn'
theorem RegV.noS (hg:gOn g (us l ⟨some t,op,g,af⟩) = some false) (hd:Nat.blt t N = true) (hn:RegV P aops draw N (k + 1) os c ((t,.tup []) :: l) H (⟨[],true⟩ :: A) Q) :
    RegV P aops draw N k (⟨some t,op,g,af⟩ :: os) c l H A Q:=RegV.no hg hd hn
theorem RegV.callS {gg:Arg} {as:List Arg} {fv:AV} {vs ws ys:List AV} {f:FuncId} {r r':AV} {hin hout H':AHeap} {c':Nat} {q:Bool} (hcall:ACalls P f ys hin r hout)
    (hg:gOn g (us l ⟨some t,.call gg as,g,af⟩) = some true) (hf:evA (us l ⟨some t,.call gg as,g,af⟩) gg = some fv) (has:allAV (evA (us l ⟨some t,.call gg as,g,af⟩)) as = some vs) (hco:callOf fv vs = some (f,ws)) (hsub:SubL ws ys)
    (hr:Sub r r') (hq:q = true→hin = hout) (hd:Nat.blt t N = true) (hin':HasAll H hin) (hn:newOK c hin hout = true) (hF:nodupH hout = true) (hH:appK hout (restK hin hout H) = H') (hc:topK c hout = c')
    (hn':RegV P aops draw N (k + 1) os c' ((t,r') :: l) H' (⟨hin.keys ++ hout.keys,q⟩ :: A) Q):RegV P aops draw N k (⟨some t,.call gg as,g,af⟩ :: os) c l H A Q :=
  RegV.call hcall hg hf has hco hsub hr hq hd hin'.get hn hF rfl hH hc hn'
end
end Go.Proofs.Abs
end
section
namespace Go.Proofs.Abs
open Go
set_option linter.unusedVariables false

section
variable (P:Program)
end
section
variable {P:Program}
def setH (l:Nat) (o:AObj):AHeap→AHeap
  | []=>[]
  | (k,p) :: r=>bif Nat.beq k l then (k,o) :: setH l o r else (k,p) :: setH l o r
theorem mem_setH {l:Nat} {o:AObj}:∀ {H:AHeap} {k:Nat} {p:AObj},(k,p)∈setH l o H→(k = l∧p = o∧∃ q,(l,q)∈H)∨(k≠l∧(k,p)∈H)
  | [],k,p,h=>by cases h
  | (m,q) :: r,k,p,h=>by
    simp only [setH] at h
    cases hb:Nat.beq m l with
    | true =>
      rw [hb] at h
      cases Nat.eq_of_beq_eq_true hb
      rcases List.mem_cons.1 h with h | h
      · cases h; exact .inl ⟨rfl,rfl,q,List.mem_cons_self⟩
      · exact (mem_setH h).imp (fun ⟨a,b,c,d⟩=>⟨a,b,c,List.mem_cons_of_mem _ d⟩) fun ⟨a,b⟩=>⟨a,List.mem_cons_of_mem _ b⟩
    | false =>
      rw [hb] at h
      rcases List.mem_cons.1 h with h | h
      · cases h; exact .inr ⟨fun e=>(by subst e; rw [Nat.beq_refl] at hb; cases hb),List.mem_cons_self⟩
      · exact (mem_setH h).imp (fun ⟨a,b,c,d⟩=>⟨a,b,c,List.mem_cons_of_mem _ d⟩) fun ⟨a,b⟩=>⟨a,List.mem_cons_of_mem _ b⟩

end
end Go.Proofs.Abs
end
section
namespace Go.Proofs.Abs
open Go
set_option linter.unusedVariables false
section
variable {P:Program}

end
end Go.Proofs.Abs
end
section
namespace Go.Proofs.Abs
open Go
set_option linter.unusedVariables false

section
variable {P:Program} {ro:Option Nat} {a:AAct} {H:AHeap} {n m:Nat} {Q:Exit→AAct→AHeap→Nat→Prop}

theorem InS.emb {N k:Nat} {l':List (Nat×AV)} {H':AHeap} (hm:m≤k) (hin:InS m N k l' H' a H n) {S:Seal} {i:Emb} {w:World} {ca:Act} (hact:ActRel S i a ca) (hh:HeapRel S i H w) (hn:∀ l b,i l = some b→l < n) :
    ∃ j:Emb,ActRel S j ⟨N,l'⟩ ca∧HeapRel S j H' w∧(∀ l b,j l = some b→l < k)∧(∀ l,l < m→j l = i l)∧(∀ b,blk j H' b→blk i H b)∧(∀ l b,j l = some b→i l = some b∨blk i H b):=by
  obtain ⟨hN,zs,ps,hzs,hps,hsl,hob⟩:=hin
  simp only [subOK,Bool.and_eq_true] at hps
  obtain ⟨⟨p1,p2⟩,p3⟩:=hps
  generalize hsdef:sub1 ps = s at *
  have hs:∀ l,l < m→s l = l:=fun l hl=>Nat.eq_of_beq_eq_true (allB_of p1 l hl)
  have hs':∀ l,l < k→l∈H'.keys∨s l = l:=fun l hl=>by
    have:=allB_of p2 l hl
    simp only [Bool.or_eq_true] at this
    exact this.imp hasK_iff.1 Nat.eq_of_beq_eq_true
  have hinj:∀ l l',l∈H'.keys→l'∈H'.keys→s l = s l'→l = l':=fun l l' hl hl' he=>by
    obtain ⟨o,ho⟩:=mem_keys.1 hl
    obtain ⟨o',ho'⟩:=mem_keys.1 hl'
    have:=List.all_eq_true.1 (List.all_eq_true.1 p3 _ ho) _ ho'
    simp only [Bool.or_eq_true,Bool.not_eq_true'] at this
    rcases this with h | h
    · rw [he,Nat.beq_refl] at h; cases h
    · exact Nat.eq_of_beq_eq_true h
  have hH:∀ l o,(l,o)∈H'→(∃ p,((s l,p)∈H∨(n≤s l∧p.nil0))∧SubO p (o.ren s))∧l < k∧o.lt k:=fun l o hm=>by
    obtain ⟨⟨p,h1,h2⟩,h3⟩:=objsS_mem hob l o hm
    refine ⟨⟨p,?_,h2⟩,h3⟩
    rcases List.mem_append.1 h1 with h1 | h1
    · obtain ⟨k1,k2⟩:=zsH_mem h1
      exact .inr ⟨k1,nilB_ok (List.all_eq_true.1 hzs _ k2)⟩
    · exact .inl h1
  have hin':∀ l o b,(l,o)∈H'→i (s l) = some b→∃ p,(s l,p)∈H:=fun l o b hm hb=>by
    obtain ⟨⟨p,hp | ⟨hp,_⟩,_⟩,_⟩:=hH l o hm
    · exact ⟨p,hp⟩
    · have:=hn _ _ hb; omega
  let j:Emb:=Emb.cut (fun l=>i (s l)) k
  have hj:∀ l b,j l = some b→l < k∧i (s l) = some b:=fun l b h=>Emb.cut_some h
  have hjl:∀ l,l < k→j l = i (s l):=fun l h=>Emb.cut_of h
  have hblk:∀ b,blk j H' b→blk i H b:=by
    rintro b ⟨l,o,hx,hb⟩
    obtain ⟨p,hp⟩:=hin' l o b hx (hj l b hb).2
    exact ⟨s l,p,hp,(hj l b hb).2⟩
  refine ⟨j,⟨hact.size.trans hN,fun t x hx=>?_⟩,⟨hh.cell,hh.size,fun l o hm=>?_,fun l o l' o' b x y hl hl'=>?_,fun l b hl=>hh.dom _ b (hj l b hl).2,hh.gr⟩,fun l b hl=>(hj l b hl).1,fun l hl=>?_,hblk,fun l b hl=>?_⟩
  · obtain ⟨⟨u,hu,hsub⟩,hlt⟩:=slotsS_lk hsl t x hx
    exact ((hsub _ _ _ (hact.get t _ hu)).unren rfl).cut hlt
  · obtain ⟨⟨p,h0,hsub⟩,hl,ho⟩:=hH l o hm
    rcases h0 with h0 | ⟨h0,hz⟩
    · rcases hh.obj _ _ h0 with ⟨b,hb,hr⟩ | ⟨hn,ho'⟩
      · refine .inl ⟨b,by rw [hjl l hl]; exact hb,?_⟩
        exact ((hsub.1 _ _ _ _ hr).unren).relabel (K:=(· < k)) (fun l hl=>Emb.cut_of hl) ho
      · exact .inr ⟨by rw [hjl l hl]; exact hn,AObj.nil0_ren.1 (hsub.2 ho')⟩
    · refine .inr ⟨?_,AObj.nil0_ren.1 (hsub.2 hz)⟩
      rw [hjl l hl]
      cases hi:i (s l) with
      | none=>rfl
      | some b=>have:=hn _ _ hi; omega
  · obtain ⟨k1,e1⟩:=hj l b hl
    obtain ⟨k2,e2⟩:=hj l' b hl'
    obtain ⟨p,hp⟩:=hin' l o b x e1
    obtain ⟨p',hp'⟩:=hin' l' o' b y e2
    exact hinj l l' (mem_keys.2 ⟨o,x⟩) (mem_keys.2 ⟨o',y⟩) (hh.inj _ _ _ _ b hp hp' e1 e2)
  · rw [hjl l (Nat.lt_of_lt_of_le hl hm),hs l hl]
  · obtain ⟨k1,e1⟩:=hj l b hl
    rcases hs' l k1 with hk | hk
    · obtain ⟨o,ho⟩:=mem_keys.1 hk
      obtain ⟨p,hp⟩:=hin' l o b ho e1
      exact .inr ⟨s l,p,hp,e1⟩
    · rw [hk] at e1; exact .inl e1

def CanQ (m:Nat) (Q:Exit→AAct→AHeap→Nat→Prop):Exit→AAct→AHeap→Nat→Prop:=fun ex a H n=>∃ N l' H' k,m≤k∧InS m N k l' H' a H n∧Q ex ⟨N,l'⟩ H' k
theorem AWc.canon {c:ACode} (h:AWc P ro m c a H n (CanQ m Q)):AWc P ro m c a H n Q:=by
  intro cc hcc S i w ca hact hh hn
  refine wpIn_mono (h cc hcc S i w ca hact hh hn) ?_
  rintro ex ca' w' ⟨a',H1,n1,S1,i1,⟨N,l',H',k,hmk,hin,hq⟩,ra,rd,rh,rn,re,rt⟩
  obtain ⟨j,j1,j2,j3,j4,j5,j6⟩:=hin.emb hmk ra rh rn
  refine ⟨_,H',k,S1,j,hq,j1,rd,j2,j3,fun l hl=>(j4 l hl).trans (re l hl),⟨rt.up,rt.grow,rt.old,rt.newSeal,fun l b hb=>?_,fun b hb=>rt.sub b (j5 b hb),rt.os,rt.out,rt.tape⟩⟩
  rcases j6 l b hb with h | h
  · exact rt.newEmb l b h
  · exact (rt.sub b h).imp id id |> fun h=>h.elim (fun h=>.inr (.inl h)) fun h=>.inr (.inr h)

theorem acalls_canon {k:FuncId} {F:AFunc} (hF:HasF P k F) {args:List AV} {H H':AHeap} {r:AV} (n K:Nat) (hchk:bodyOK n K F.n args H r H' = true)
    (hb:AWc P none n F.body ⟨F.n,startL 0 args⟩ H n (CanQ n (DoneS F.res r H'))):ACalls P k args H r H':=acalls_gen hF n K hchk (AWc.canon hb)

theorem canQ {N k:Nat} {l':List (Nat×AV)} {H':AHeap} {ex:Exit} (hm:Nat.ble m k = true) (hin:InS m N k l' H' a H n) (h:Q ex ⟨N,l'⟩ H' k):CanQ m Q ex a H n:=⟨N,l',H',k,Nat.le_of_ble_eq_true hm,hin,h⟩

end
end Go.Proofs.Abs
end
section
namespace Go.Proofs.Abs
open Go
set_option linter.unusedVariables false
set_option linter.unusedSectionVars false

structure EncOK {α:Type} (e:α→D) (z:Nat) (g:Bool):Prop where
  len:∀ a,(e a).cells.length = z
  sc:∀ a,∀ c∈(e a).cells,c.isAgg = false
  ag:∀ a,(e a).isAgg = g
abbrev cellsD {α:Type} (e:α→D) (xs:List α):List D:=flat (xs.map e)
abbrev cellsO {α:Type} (e:α→D) (xs:List α):AObj:=.rowD (cellsD e xs)
abbrev cellsC {α:Type} (e:α→D) (xs:List α):AObj:=.cells ((cellsD e xs).map .d)

def EqO (p q:AObj):Prop:=(∀ S i w b,ObjRel S i w b p↔ObjRel S i w b q)∧(p.nil0↔q.nil0)
inductive EqH:AHeap→AHeap→Prop
  | nil:EqH [] []
  | cons {l p q r s} (h:EqO p q) (hr:EqH r s):EqH ((l,p) :: r) ((l,q) :: s)
theorem EqO.symm {p q:AObj} (h:EqO p q):EqO q p:=⟨fun S i w b=>(h.1 S i w b).symm,h.2.symm⟩
theorem EqO.row {α:Type} {e:α→D} {xs:List α}:EqO (cellsC e xs) (cellsO e xs):=⟨fun _ _ _ _=>Iff.rfl,Iff.rfl⟩
theorem EqH.symm:∀ {H G:AHeap},EqH H G→EqH G H
  | _,_,.nil=>.nil
  | _,_,.cons h hr=>.cons h.symm hr.symm
theorem EqH.keys:∀ {H G:AHeap},EqH H G→H.keys = G.keys
  | _,_,.nil=>rfl
  | _,_,.cons h hr=>congrArg (List.cons _) hr.keys
theorem EqH.mem:∀ {H G:AHeap},EqH H G→∀ {l q},(l,q)∈G→∃ p,(l,p)∈H∧EqO p q
  | _,_,.cons h hr,l,q,hm=>by
    rcases List.mem_cons.1 hm with hm | hm
    · cases hm; exact ⟨_,List.mem_cons_self,h⟩
    · obtain ⟨p,h1,h2⟩:=hr.mem hm
      exact ⟨p,List.mem_cons_of_mem _ h1,h2⟩
theorem HeapRel.eqH {S:Seal} {i:Emb} {H G:AHeap} {w:World} (h:HeapRel S i H w) (he:EqH H G):HeapRel S i G w:=by
  refine ⟨h.cell,h.size,fun l o hm=>?_,fun l o l' o' b x y hl hl'=>?_,h.dom,h.gr⟩
  · obtain ⟨p,h1,h2⟩:=he.mem hm
    exact (h.obj l p h1).imp (fun ⟨b,hb,hr⟩=>⟨b,hb,(h2.1 _ _ _ _).1 hr⟩) fun ⟨a,b⟩=>⟨a,h2.2.1 b⟩
  · obtain ⟨p,h1,_⟩:=he.mem x
    obtain ⟨p',h1',_⟩:=he.mem y
    exact h.inj _ _ _ _ b h1 h1' hl hl'
theorem blk_eqH {i:Emb} {H G:AHeap} (he:EqH H G) {b:Nat} (h:blk i G b):blk i H b:=by
  obtain ⟨l,o,hm,hb⟩:=h
  obtain ⟨p,h1,_⟩:=he.mem hm
  exact ⟨l,p,h1,hb⟩
theorem Post.eqH {S:Seal} {i:Emb} {H H' G G':AHeap} {w w':World} {r:AV} {v:Value} (h:Post S i H w r H' v w') (he:EqH H G) (he':EqH H' G'):Post S i G w r G' v w':=by
  obtain ⟨S',i',hv,hh,hle,t,hn⟩:=h
  refine ⟨S',i',hv,hh.eqH he',hle,⟨t.up,t.grow,fun b hb hx=>t.old b hb fun h=>hx (blk_eqH he.symm h),fun a v h=>(t.newSeal a v h).imp id (Or.imp (blk_eqH he.symm) id),fun l b h=>(t.newEmb l b h).imp id (Or.imp (blk_eqH he.symm) id),
    fun b h=>(t.sub b (blk_eqH he' h)).imp (blk_eqH he.symm) id,t.os,t.out,t.tape⟩,fun l b hb=>?_⟩
  rw [←he.keys,←he'.keys]
  exact hn l b hb
theorem AOpT.eqH {P:Program} {ao:AOp} {args:List (Nat×AV)} {H H' G G':AHeap} {r:AV} (h:AOpT P ao args H r H') (he:EqH H G) (he':EqH H' G'):AOpT P ao args G r G' :=
  ⟨h.1,fun o ho=>⟨(h.2 o ho).1,fun S i w ρ h1 h2 h3=>((h.2 o ho).2 S i w ρ h1 (h2.eqH he.symm) (by rw [he.keys,he'.keys]; exact h3)).mono fun v w hp=>hp.eqH he he'⟩⟩
theorem lk1 {l:Nat} {o:AObj}:lkH [(l,o)] l = some o:=by simp [lkH]

section
variable {α:Type} {e:α→D} {z:Nat} {g:Bool}
theorem cellsD_cons (x:α) (xs:List α):cellsD e (x :: xs) = (e x).cells ++ cellsD e xs:=by simp [flat]
theorem cellsD_app (xs ys:List α):cellsD e (xs ++ ys) = cellsD e xs ++ cellsD e ys:=by simp [flat]
theorem cellsD_len (h:EncOK e z g) (xs:List α):(cellsD e xs).length = xs.length * z:=by
  have:=flat_len (l:=xs.map e) (z:=z) (fun d hd=>by obtain ⟨a,_,rfl⟩:=List.mem_map.1 hd; exact h.len a)
  simpa using this
theorem cellsD_sc (h:EncOK e z g) (xs:List α):∀ c∈cellsD e xs,c.isAgg = false:=by
  intro c hc
  simp only [flat,List.mem_flatMap,List.mem_map] at hc
  obtain ⟨d,⟨a,_,rfl⟩,hc⟩:=hc
  exact h.sc a c hc
theorem cellsD_at (h:EncOK e z g):∀ (xs:List α) (i:Nat) (hi:i < xs.length),∃ R,(cellsD e xs).drop (i * z) = (e xs[i]).cells ++ R
  | [],i,hi=>by simp at hi
  | x :: xs,0,hi=>⟨cellsD e xs,by simp [cellsD_cons]⟩
  | x :: xs,i + 1,hi=>by
    obtain ⟨R,hR⟩:=cellsD_at h xs i (by simpa using hi)
    refine ⟨R,?_⟩
    rw [cellsD_cons,Nat.succ_mul,Nat.add_comm,←List.drop_drop,List.drop_left' (h.len x)]
    simpa using hR
theorem upd_nil (L:List AV) (n:Nat):upd L n [] = L:=by cases L <;> cases n <;> simp [upd]
theorem upd_pre:∀ (A B cs:List AV) (n:Nat),upd (A ++ B) (A.length + n) cs = A ++ upd B n cs
  | [],B,cs,n=>by simp
  | a :: A,B,cs,n=>by
    cases cs with
    | nil=>rw [upd_nil,upd_nil]
    | cons c cs =>
      have:=upd_pre A B (c :: cs) n
      rw [List.length_cons,List.cons_append,show A.length + 1 + n = (A.length + n) + 1 by omega]
      simp only [upd]
      rw [this]; rfl
theorem upd_in:∀ (cs A B:List AV),cs.length = A.length→upd (A ++ B) 0 cs = cs ++ B
  | [],[],B,h=>by cases B <;> simp [upd]
  | c :: cs,a :: A,B,h=>by
    simp only [List.cons_append,upd]
    rw [upd_in cs A B (by simpa using h)]
theorem upd_mid':∀ (cs A B:List AV) (j:Nat),j + cs.length≤A.length→upd (A ++ B) j cs = upd A j cs ++ B
  | [],A,B,j,h=>by rw [upd_nil,upd_nil]
  | c :: cs,a :: A,B,0,h=>by
    simp only [List.cons_append,upd]
    rw [upd_mid' cs A B 0 (by simp at h ⊢; omega)]
  | c :: cs,a :: A,B,j + 1,h=>by
    simp only [List.cons_append,upd]
    rw [upd_mid' (c :: cs) A B j (by simp at h ⊢; omega)]
  | c :: cs,[],B,j,h=>by simp at h
theorem upd_elem (h:EncOK e z g) (y:α) (j:Nat) (cs:List AV):∀ (xs:List α) (i:Nat) (hi:i < xs.length),j + cs.length≤z→upd ((e xs[i]).cells.map .d) j cs = (e y).cells.map .d →
    upd ((cellsD e xs).map .d) (i * z + j) cs = (cellsD e (xs.set i y)).map .d
  | [],i,hi,_,_=>by simp at hi
  | x :: xs,0,hi,hj,hu=>by
    rw [cellsD_cons,List.map_append,Nat.zero_mul,Nat.zero_add,upd_mid' _ _ _ _ (by simpa [h.len] using hj)]
    simp only [List.getElem_cons_zero] at hu
    rw [hu,List.set_cons_zero,cellsD_cons,List.map_append]
  | x :: xs,i + 1,hi,hj,hu=>by
    have ih:=upd_elem h y j cs xs i (by simpa using hi) hj (by simpa using hu)
    have hl:((e x).cells.map AV.d).length = z:=by simp [h.len]
    rw [cellsD_cons,List.map_append,show (i + 1) * z + j = ((e x).cells.map AV.d).length + (i * z + j) by rw [hl,Nat.succ_mul]; omega,upd_pre,ih,List.set_cons_succ,cellsD_cons,List.map_append]
theorem toDs_d:∀ {l:List D},(∀ c∈l,c.isAgg = false)→toDs (l.map .d) = some l
  | [],_=>rfl
  | c :: l,h=>by
    have h1:=h c List.mem_cons_self
    have h2:=toDs_d (l:=l) fun x hx=>h x (List.mem_cons_of_mem _ hx)
    simp only [List.map_cons,toDs,toD,h1,cond_false,h2]
theorem mkAgg_d {l:List D} (h:∀ c∈l,c.isAgg = false):mkAgg (l.map .d) = .d (.agg l):=by simp only [mkAgg,toDs_d h]
theorem agg_cells {d:D} (h:d.isAgg = true):d = .agg d.cells:=by cases d <;> first | rfl | cases h
theorem one_cells {d:D} (h:d.isAgg = false):d.cells = [d]:=by cases d <;> first | rfl | cases h
theorem scalar_d {l:List D} (h:∀ c∈l,c.isAgg = false):(l.map AV.d).all AV.scalar = true:=by
  rw [List.all_eq_true]
  intro x hx
  obtain ⟨c,hc,rfl⟩:=List.mem_map.1 hx
  simp [AV.scalar,h c hc]
theorem rd_get [Inhabited α] {xs:List α} {i:Nat} (h:i < xs.length):xs[i] = xs.getD i default:=by simp [h]

end

section
variable {P:Program} {aops os:List AOper} {draw:Bool} {N k c:Nat} {l:List (Nat×AV)} {H H':AHeap} {A:List Tk} {Q:AAct→AHeap→Nat→Prop}
variable {gd:Option (Nat×Bool)} {af:List Nat} {t:Nat}
variable {α:Type} [Inhabited α] {e:α→D} {z:Nat} {g:Bool} {xs ys:List α} {l0 i j o len cap:Nat} {x y:Arg} {n m:Int} {kd:IntKind}

end
end Go.Proofs.Abs
end
section
namespace Go.Proofs.Abs
open Go
set_option linter.unusedVariables false
set_option linter.unusedSectionVars false
section
variable {P:Program}
def Seal.row (S:Seal) (b k:Nat) (c:Array Value):Seal where
  cell a:=if a.block = b∧a.spot = none∧a.off < k then c[a.off]? else S.cell a
  size x:=if x = b then some c.size else S.size x
theorem seal_row {S:Seal} {i:Emb} {H:AHeap} {w:World} {l0 b k:Nat} {o:AObj} {c:Array Value} {e:TypeId} (hh:HeapRel S i H w) (hm:(l0,o)∈H) (hi:i l0 = some b) (hc:w.heap[b]? = some (.cells c e (0,0)))
    (hns:∀ a:Addr,a.block = b→S.cell a = none):S.le (S.row b k c)∧HeapRel (S.row b k c) i (setH l0 (.tok k) H) w∧Tr S i H w (S.row b k c) i (setH l0 (.tok k) H) w:=by
  have hle:S.le (S.row b k c):=by
    refine ⟨fun a v ha=>?_,fun x n hx=>?_⟩
    · simp only [Seal.row]
      rw [if_neg]
      · exact ha
      · rintro ⟨h,_⟩
        rw [hns a h] at ha; cases ha
    · simp only [Seal.row]
      split
      · rename_i h
        subst h
        obtain ⟨c',e',f',h1,h2⟩:=hh.size _ n hx
        rw [hc] at h1
        cases h1
        rw [h2]
      · exact hx
  refine ⟨hle,⟨fun a v ha=>?_,fun x n hx=>?_,fun l p hp=>?_,fun l p l' p' x h1 h2 e1 e2=>?_,hh.dom,fun a v h=>hle.cell _ _ (hh.gr a v h)⟩,⟨hle,Nat.le_refl _,fun _ _ _=>rfl,fun a v ha=>?_,fun _ _ h=>.inl h,fun x ⟨l,p,hp,hx⟩=>.inl ?_,rfl,rfl,rfl⟩⟩
  · simp only [Seal.row] at ha
    split at ha
    · rename_i h
      unfold World.cell?
      rw [h.1,hc]
      simp [h.2.1,ha]
    · exact hh.cell a v ha
  · simp only [Seal.row] at hx
    split at hx
    · rename_i h
      subst h
      cases hx
      exact ⟨c,e,_,hc,rfl⟩
    · exact hh.size x n hx
  · rcases mem_setH hp with ⟨rfl,rfl,_⟩ | ⟨hne,hp⟩
    · refine .inl ⟨b,hi,c,e,hc,fun a ha ho=>?_⟩
      simp only [Seal.row]
      rw [if_neg (by omega)]
      exact hns a ha
    · rcases hh.obj l p hp with ⟨b',hb',hr⟩ | hr
      · refine .inl ⟨b',hb',hr.later hle (fun _ _ h=>h) rfl fun a v ha hab=>?_⟩
        simp only [Seal.row] at ha
        split at ha
        · rename_i h
          have:b' = b:=hab.symm.trans h.1
          subst this
          exact absurd (hh.inj _ _ _ _ _ hp hm hb' hi) hne
        · exact ha
      · exact .inr hr
  · have k1:∃ q,(l,q)∈H:=by
      rcases mem_setH h1 with ⟨rfl,_,h⟩ | ⟨_,h⟩
      · exact h
      · exact ⟨_,h⟩
    have k2:∃ q,(l',q)∈H:=by
      rcases mem_setH h2 with ⟨rfl,_,h⟩ | ⟨_,h⟩
      · exact h
      · exact ⟨_,h⟩
    obtain ⟨q,h1⟩:=k1
    obtain ⟨q',h2⟩:=k2
    exact hh.inj _ _ _ _ x h1 h2 e1 e2
  · simp only [Seal.row] at ha
    split at ha
    · rename_i h
      exact .inr (.inl ⟨l0,o,hm,by rw [h.1]; exact hi⟩)
    · exact .inl ha
  · rcases mem_setH hp with ⟨rfl,_,q,h⟩ | ⟨_,h⟩
    · exact ⟨_,q,h,hx⟩
    · exact ⟨_,_,h,hx⟩

section
variable {α:Type} {e:α→D} {z:Nat} {g:Bool}
theorem flat_drop (h:EncOK e z g) (xs:List α) (o len:Nat) (hle:o + len≤xs.length):∀ m (hm:m < (cellsD e ((xs.drop o).take len)).length),∃ h2:o * z + m < (cellsD e xs).length,(cellsD e xs)[o * z + m] = (cellsD e ((xs.drop o).take len))[m]:=by
  intro m hm
  have hs:xs = xs.take o ++ ((xs.drop o).take len ++ xs.drop (o + len)):=by rw [←List.drop_drop,List.take_append_drop,List.take_append_drop]
  have hl:(cellsD e (xs.take o)).length = o * z:=by rw [cellsD_len h]; congr 1; simp; omega
  have hd:cellsD e xs = cellsD e (xs.take o) ++ (cellsD e ((xs.drop o).take len) ++ cellsD e (xs.drop (o + len))):=by
    conv=>lhs; rw [hs]
    rw [cellsD_app,cellsD_app]
  have h2:o * z + m < (cellsD e xs).length:=by rw [hd]; simp only [List.length_append,hl]; omega
  refine ⟨h2,?_⟩
  have:(cellsD e xs)[o * z + m]? = some (cellsD e ((xs.drop o).take len))[m]:=by
    rw [hd,List.getElem?_append_right (by omega),hl,Nat.add_sub_cancel_left,List.getElem?_append_left hm,List.getElem?_eq_getElem hm]
  exact (List.getElem?_eq_some_iff.1 this).2
inductive Frz (l0:Nat) (e:α→D) (z:Nat) (xs:List α):AV→AV→Prop
  | same {v}:Frz l0 e z xs v v
  | data {o len cap:Nat} (h:o + len≤xs.length∧len≤cap):Frz l0 e z xs (.sl l0 (o * z) len cap z) (.d (.sl (((xs.drop o).take len).map e)))
  | data0 {len cap:Nat} (h:len≤xs.length∧len≤cap):Frz l0 e z xs (.sl l0 0 len cap z) (.d (.sl ((xs.take len).map e)))
  | all {len cap:Nat} (h:len = xs.length∧len≤cap):Frz l0 e z xs (.sl l0 0 len cap z) (.d (.sl (xs.map e)))
  | win {len cap:Nat} (h:len≤xs.length∧cap = xs.length):Frz l0 e z xs (.sl l0 0 len cap z) (.win (xs.map e) len)
  | ap {len cap:Nat} (h:len = xs.length∧cap = len):Frz l0 e z xs (.sl l0 0 len cap z) (.ap l0 z (xs.map e))
variable {ro:Option Nat} {N n m:Nat} {H:AHeap} {Q:Exit→AAct→AHeap→Nat→Prop} {l l':List (Nat×AV)}
end
end

section
variable {P:Program} {aops os:List AOper} {draw:Bool} {N k c:Nat} {l:List (Nat×AV)} {H H':AHeap} {A:List Tk} {Q:AAct→AHeap→Nat→Prop}
variable {gd:Option (Nat×Bool)} {af:List Nat} {t:Nat} {z:Nat} {x y:Arg} {n m:Int}
theorem restK_new:∀ (H:AHeap) (a b:AObj),restK [] [(c,a)] H = restK [] [(c,b)] H:=by
  intro H a b
  induction H with
  | nil=>rfl
  | cons p r ih=>obtain ⟨l,o⟩:=p; simp only [restK,hasK,ih]
theorem newOK_one {o:AObj}:newOK c [] [(c,o)] = true:=by simp [newOK]
end
end Go.Proofs.Abs
end
section
namespace Go.Proofs.Abs
open Go
set_option linter.unusedVariables false
set_option linter.unusedSectionVars false
section
variable {α:Type} {e:α→D}
theorem cellsU8 {n:Int} (h:0≤n∧n < 256):cellsAV (.d (.int .u8 n)) = some ((byteD (u8 n)).cells.map .d):=by
  rw [show (D.int .u8 n) = byteD (u8 n) from u8_eq h]; rfl
theorem byteD_ok:EncOK byteD 1 false:=⟨fun _=>rfl,fun _ c hc=>by simp [byteD,D.cells] at hc; subst hc; rfl,fun _=>rfl⟩
theorem int_ok (k:IntKind):EncOK (D.int k) 1 false:=⟨fun _=>rfl,fun _ c hc=>by simp [D.cells] at hc; subst hc; rfl,fun _=>rfl⟩
theorem str_ok:EncOK D.str 1 false:=⟨fun _=>rfl,fun _ c hc=>by simp [D.cells] at hc; subst hc; rfl,fun _=>rfl⟩
theorem slE_ok:EncOK (slE e) 1 false:=⟨fun _=>rfl,fun _ c hc=>by simp [D.cells] at hc; subst hc; rfl,fun _=>rfl⟩
end

section
variable {P:Program}
end

section
variable {P:Program} {aops os:List AOper} {draw:Bool} {N k c:Nat} {l:List (Nat×AV)} {H H':AHeap} {A:List Tk} {Q:AAct→AHeap→Nat→Prop}
variable {gd:Option (Nat×Bool)} {af:List Nat} {t:Nat} {α:Type} {e:α→D} {z:Nat} {x y:Arg} {n m:Int} {ys:List α} {q:Nat}
end

end Go.Proofs.Abs
end
section
namespace Go.Proofs.Abs
open Go
set_option linter.unusedVariables false
set_option linter.unusedSectionVars false
section
variable {P:Program} {aops os:List AOper} {draw:Bool} {N k c:Nat} {l:List (Nat×AV)} {H H':AHeap} {A:List Tk} {Q:AAct→AHeap→Nat→Prop}
variable {gd:Option (Nat×Bool)} {af:List Nat} {t:Nat} {α:Type} {e:α→D} {z:Nat} {x y:Arg} {n m:Int} {ys:List α} {q:Nat}
end
section
variable {P:Program} {N n:Nat} {l sl:List (Nat×AV)} {H:AHeap} {ps:List Nat} {f:FuncId} {ws ys:List AV} {Q:Exit→AAct→AHeap→Nat→Prop} {asg bd:Code} {hin hout H':AHeap} {r:AV} {N':Nat} {sl':List (Nat×AV)} {ps':List Nat} {asg' bd':Code}
    {st:LoopState} {c' id:Nat}
end
end Go.Proofs.Abs
end
section
namespace Go.Proofs.Abs
open Go
set_option linter.unusedVariables false
set_option linter.unusedSectionVars false
section
variable {P:Program}
theorem AOpT.rowArg {ao:AOp} {A:List (Nat×AV)} {H H':AHeap} {r:AV} {t l z n:Nat} (ht:lk A t = some (.row l z n)) (h1:∀ cap,n≤cap→AOpT P ao ((t,.sl l 0 n cap z) :: A) H r H') (h2:n = 0→AOpT P ao ((t,.nils) :: A) H r H'):AOpT P ao A H r H':=by
  refine ⟨(h1 n (Nat.le_refl _)).1,fun o ho=>⟨((h1 n (Nat.le_refl _)).2 o ho).1,fun S i w ρ hev hh hf=>?_⟩⟩
  have hv:=hev (.tmp t) _ ht
  have key:∀ x,V S i x (ρ (.tmp t))→∀ y a,evL ((t,x) :: A) y = some a→V S i a (ρ y):=by
    intro x hx y a hy
    cases y with
    | tmp u =>
      simp only [evL,lk] at hy
      cases hb:Nat.beq t u with
      | true=>rw [hb] at hy; cases hy; cases Nat.eq_of_beq_eq_true hb; exact hx
      | false=>rw [hb] at hy; exact hev (.tmp u) a hy
    | const v=>exact hev (.const v) a hy
    | func f=>exact hev (.func f) a hy
    | global g=>cases hy
  generalize hu:ρ (.tmp t) = u at hv
  cases hv with
  | rown=>exact ((h2 rfl).2 o ho).2 S i w ρ (key _ (by rw [hu]; exact .nils)) hh hf
  | row h hn hc hl=>exact ((h1 _ hl).2 o ho).2 S i w ρ (key _ (by rw [hu]; exact .sl h)) hh hf
theorem AOpT.rowP {ao:AOp} {A:List (Nat×AV)} {r:AV} {l0:Nat} {ds ds':List D} (hne:ds≠[]) (h:∀ X:List AV,AOpT P ao A [(l0,.cells (ds.map .d ++ X))] r [(l0,.cells (ds'.map .d ++ X))]):AOpT P ao A [(l0,.rowP ds)] r [(l0,.rowP ds')]:=by
  refine ⟨(h []).1,fun o ho=>⟨((h []).2 o ho).1,fun S i w ρ hev hh hf=>?_⟩⟩
  rcases hh.obj _ _ List.mem_cons_self with ⟨b,hb,c,e,hc,hs,hv,hns⟩ | ⟨_,hz⟩
  case inr=>exact absurd hz hne
  let X:List AV:=List.replicate (c.size - ds.length) .any
  have hlen:(ds.map AV.d ++ X).length = c.size:=by simp [X]; omega
  have hh':HeapRel S i [(l0,.cells (ds.map .d ++ X))] w:=by
    refine ⟨hh.cell,hh.size,fun l o hm=>?_,fun l o l' o' b x y _ _=>?_,hh.dom,hh.gr⟩
    · cases List.mem_singleton.1 hm
      refine .inl ⟨b,hb,c,e,hc,hlen.symm,fun j h1 h2=>?_,hns⟩
      by_cases hj:j < ds.length
      · rw [List.getElem_append_left (by simpa using hj),List.getElem_map]
        exact .d (hv j hj h2)
      · rw [List.getElem_append_right (by simpa using Nat.le_of_not_lt hj)]
        simp only [X,List.getElem_replicate]
        exact .any
    · cases List.mem_singleton.1 x; cases List.mem_singleton.1 y; rfl
  refine (((h X).2 o ho).2 S i w ρ hev hh' hf).mono fun v w' hp=>?_
  obtain ⟨S',i',p1,p2,p3,p4,p5⟩:=hp
  have hb1:∀ {k:Emb} {b:Nat} {p q:AObj},blk k [(l0,p)] b→blk k [(l0,q)] b:=by
    rintro k b p q ⟨l,o,hm,hk⟩
    cases List.mem_singleton.1 hm
    exact ⟨l0,q,List.mem_singleton.2 rfl,hk⟩
  refine ⟨S',i',p1,⟨p2.cell,p2.size,fun l o hm=>?_,fun l o l' o' b x y _ _=>?_,p2.dom,p2.gr⟩,p3,⟨p4.up,p4.grow,fun b hb hx=>p4.old b hb fun h=>hx (hb1 h),fun a v h=>(p4.newSeal a v h).imp id (Or.imp hb1 id),fun l b h=>(p4.newEmb l b h).imp id (Or.imp hb1 id),
    fun b h=>(p4.sub b (hb1 h)).imp hb1 id,p4.os,p4.out,p4.tape⟩,p5⟩
  · cases List.mem_singleton.1 hm
    rcases p2.obj _ _ List.mem_cons_self with ⟨b',hb',c',e',hc',hs',hv',hns'⟩ | ⟨_,hz⟩
    case inr=>exact hz.elim
    refine .inl ⟨b',hb',c',e',hc',by rw [hs']; simp,fun j h1 h2=>?_,hns'⟩
    have:=hv' j (by simp; omega) h2
    rw [List.getElem_append_left (by simpa using h1),List.getElem_map] at this
    exact vD this
  · cases List.mem_singleton.1 x; cases List.mem_singleton.1 y; rfl

abbrev rowO {α:Type} (e:α→D) (xs:List α):AObj:=.rowP (cellsD e xs)
section
variable {α:Type} {e:α→D} {z:Nat} {g:Bool}
theorem load_elemX [Inhabited α] {H:AHeap} {l0 i:Nat} {xs:List α} {X:List AV} (h:EncOK e z g) (hl:lkH H l0 = some (.cells ((cellsD e xs).map .d ++ X))) (hi:i < xs.length) :
    ∃ s:Prop,s∧loadA H (.ptr l0 (i * z)) z g = some ⟨.d (e (xs.getD i default)),[(l0,.cells ((cellsD e xs).map .d ++ X))],[(l0,.cells ((cellsD e xs).map .d ++ X))],s⟩:=by
  obtain ⟨R,hR⟩:=cellsD_at h xs i hi
  have hz:=h.len xs[i]
  have hlt:i * z + z≤((cellsD e xs).map AV.d).length:=by
    rw [List.length_map,cellsD_len h]
    have:=Nat.mul_le_mul_right z (show i + 1≤xs.length from hi)
    rw [Nat.succ_mul] at this; exact this
  have hd:((cellsD e xs).map AV.d ++ X).drop (i * z) = (e xs[i]).cells.map .d ++ (R.map .d ++ X):=by rw [List.drop_append_of_le_length (by omega),←List.map_drop,hR,List.map_append,List.append_assoc]
  have hle:i * z + z≤((cellsD e xs).map AV.d ++ X).length:=by rw [List.length_append]; omega
  simp only [loadA,hl,hd]
  have hag:=h.ag xs[i]
  cases g with
  | true =>
    refine ⟨_,hle,?_⟩
    rw [cond_true,List.take_append_of_le_length (by simp [hz]),List.take_of_length_le (by simp [hz]),mkAgg_d (h.sc _),←agg_cells hag,rd_get hi]
  | false =>
    refine ⟨True,trivial,?_⟩
    rw [cond_false,one_cells hag,rd_get hi]
    rfl
theorem upd_elemX (h:EncOK e z g) (y:α) (xs:List α) (X:List AV) (i:Nat) (hi:i < xs.length):upd ((cellsD e xs).map .d ++ X) (i * z) ((e y).cells.map .d) = (cellsD e (xs.set i y)).map .d ++ X:=by
  have hu:=upd_elem h y 0 ((e y).cells.map .d) xs i hi (by simp [h.len]) (by
    have:=upd_in ((e y).cells.map .d) ((e xs[i]).cells.map .d) [] (by simp [h.len])
    simpa using this)
  rw [Nat.add_zero] at hu
  rw [upd_mid' _ _ _ _ ?_,hu]
  rw [List.length_map,List.length_map,cellsD_len h,h.len]
  have:=Nat.mul_le_mul_right z (show i + 1≤xs.length from hi)
  rw [Nat.succ_mul] at this; exact this
end

section
variable {aops os:List AOper} {draw:Bool} {N k c:Nat} {l:List (Nat×AV)} {H H':AHeap} {A:List Tk} {Q:AAct→AHeap→Nat→Prop}
variable {gd:Option (Nat×Bool)} {af:List Nat} {t u:Nat}
variable {α:Type} [Inhabited α] {e:α→D} {z:Nat} {g:Bool} {xs ys:List α} {l0 i j o len cap:Nat} {x y:Arg} {n m:Int} {kd:IntKind}
theorem cells_ne (he:EncOK e z g) (hz:0 < z) (hi:i < xs.length):cellsD e xs≠[]:=by
  intro h
  have h1:=congrArg List.length h
  rw [cellsD_len he] at h1
  have:0 < xs.length * z:=Nat.mul_pos (by omega) hz
  simp at h1; omega
theorem RegV.ldR (hz:Nat.blt 0 z = true) (hg:gOn gd (us l ⟨some t,.load x z g,gd,af⟩) = some true) (hx:evA (us l ⟨some t,.load x z g,gd,af⟩) x = some (.ptr l0 (i * z))) (he:EncOK e z g) (hl:lkH H l0 = some (rowO e xs)) (hi:i < xs.length) (hd:Nat.blt t N = true)
    (hH:appK [(l0,rowO e xs)] (restK [(l0,rowO e xs)] [(l0,rowO e xs)] H) = H') (hn:newOK c [(l0,rowO e xs)] [(l0,rowO e xs)] = true) (hc:topK c [(l0,rowO e xs)] = c)
    (hn':RegV P aops draw N (k + 1) os c ((t,.d (e (xs.getD i default))) :: l) H' (⟨[l0,l0],true⟩ :: A) Q):RegV P aops draw N k (⟨some t,.load x z g,gd,af⟩ :: os) c l H A Q:=by
  have h0:AOpT P (.load x z g) (us l ⟨some t,.load x z g,gd,af⟩) [(l0,rowO e xs)] (.d (e (xs.getD i default))) [(l0,rowO e xs)]:=by
    refine AOpT.rowP (cells_ne he (Nat.le_of_ble_eq_true hz) hi) fun X=>?_
    obtain ⟨s,hs,hld⟩:=load_elemX (H:=[(l0,.cells ((cellsD e xs).map .d ++ X))]) (X:=X) he lk1 hi
    exact evOp_ok (own:=false) (nl:=0) (H:=[(l0,.cells ((cellsD e xs).map .d ++ X))]) (q:=⟨_,_,_,s⟩) (by simp only [evOp,hx,Option.bind_some]; exact hld) hs
  exact RegV.up (fun _ h'=>RegU.op hg h0 hd (fun y hy=>by cases List.mem_singleton.1 hy; exact lkH_mem hl) hn rfl (fun _=>rfl) rfl hH hc h') hn'
theorem RegV.stR {v:α} {w:AV} (hz:Nat.blt 0 z = true) (hg:gOn gd (us l ⟨none,.store x y z,gd,af⟩) = some true) (hx:evA (us l ⟨none,.store x y z,gd,af⟩) x = some (.ptr l0 (i * z))) (hy:evA (us l ⟨none,.store x y z,gd,af⟩) y = some w) (hw:cellsAV w = some ((e v).cells.map .d))
    (he:EncOK e z g) (hl:lkH H l0 = some (rowO e xs)) (hi:i < xs.length) (hn:newOK c [(l0,rowO e xs)] [(l0,rowO e (xs.set i v))] = true)
    (hH:appK [(l0,rowO e (xs.set i v))] (restK [(l0,rowO e xs)] [(l0,rowO e (xs.set i v))] H) = H') (hc:topK c [(l0,rowO e (xs.set i v))] = c)
    (hn':RegV P aops draw N (k + 1) os c l H' (⟨[l0,l0],false⟩ :: A) Q):RegV P aops draw N k (⟨none,.store x y z,gd,af⟩ :: os) c l H A Q:=by
  have h0:AOpT P (.store x y z) (us l ⟨none,.store x y z,gd,af⟩) [(l0,rowO e xs)] .any [(l0,rowO e (xs.set i v))]:=by
    refine AOpT.rowP (cells_ne he (Nat.le_of_ble_eq_true hz) hi) fun X=>?_
    have hlen:((e v).cells.map AV.d).length = z:=by simp [he.len]
    have hle:i * z + z≤((cellsD e xs).map AV.d ++ X).length:=by
      rw [List.length_append,List.length_map,cellsD_len he]
      have:=Nat.mul_le_mul_right z (show i + 1≤xs.length from hi)
      rw [Nat.succ_mul] at this; omega
    exact evOp_ok (own:=false) (nl:=0) (H:=[(l0,.cells ((cellsD e xs).map .d ++ X))]) (q:=⟨_,_,_,((e v).cells.map AV.d).length = z∧i * z + z≤((cellsD e xs).map AV.d ++ X).length∧((e v).cells.map AV.d).all AV.scalar = true⟩)
      (by simp only [evOp,hx,hy,Option.bind_some,hw,lk1]; rw [upd_elemX he v xs X i hi]) ⟨hlen,hle,scalar_d (he.sc v)⟩
  exact RegV.up (fun _ h'=>RegU.op hg h0 rfl (fun y hy=>by cases List.mem_singleton.1 hy; exact lkH_mem hl) hn rfl (q:=false) (fun h=>by cases h) rfl hH hc h') hn'
theorem evA_head {t:Nat} {v:AV} {l:List (Nat×AV)}:evA ((t,v) :: l) (.t t) = some v:=by simp [evA,lk]
theorem RegV.iaR (hg:gOn gd (us l ⟨some t,.iaddr (.t u) y z,gd,af⟩) = some true) (hx:lk (us l ⟨some t,.iaddr (.t u) y z,gd,af⟩) u = some (.row l0 z len)) (hy:∀ v,evA ((u,v) :: us l ⟨some t,.iaddr (.t u) y z,gd,af⟩) y = some (.d (.int kd n))) (hb:0≤n∧n < (len:Int)) (hd:Nat.blt t N = true)
    (hn:RegV P aops draw N (k + 1) os c ((t,.ptr l0 (n.toNat * z)) :: l) H (⟨[],true⟩ :: A) Q):RegV P aops draw N k (⟨some t,.iaddr (.t u) y z,gd,af⟩ :: os) c l H A Q:=by
  have h0:AOpT P (.iaddr (.t u) y z) (us l ⟨some t,.iaddr (.t u) y z,gd,af⟩) [] (.ptr l0 (0 + n.toNat * z)) []:=by
    refine AOpT.rowArg hx (fun cap _=>?_) (fun h=>by omega)
    exact evOp_ok (own:=false) (nl:=0) (H:=[]) (q:=⟨_,_,_,0≤n∧n < (len:Int)⟩) (by simp only [evOp,evA_head,hy,Nat.beq_refl,cond_true]; rfl) hb
  exact RegV.up (fun _ h'=>RegU.op (hin:=[]) (hout:=[]) hg h0 hd (fun x hx=>by cases hx) rfl rfl (fun _=>rfl) (by rw [Nat.zero_add]) (restK_nil H) rfl h') hn
theorem RegV.lenR (hg:gOn gd (us l ⟨some t,.len (.t u),gd,af⟩) = some true) (hx:lk (us l ⟨some t,.len (.t u),gd,af⟩) u = some (.row l0 z len)) (hd:Nat.blt t N = true)
    (hn:RegV P aops draw N (k + 1) os c ((t,.d (.int .i64 (len:Int))) :: l) H (⟨[],true⟩ :: A) Q):RegV P aops draw N k (⟨some t,.len (.t u),gd,af⟩ :: os) c l H A Q:=by
  have h0:AOpT P (.len (.t u)) (us l ⟨some t,.len (.t u),gd,af⟩) [] (.d (.int .i64 (len:Int))) []:=by
    refine AOpT.rowArg hx (fun cap _=>?_) (fun h=>?_)
    · exact evOp_ok (own:=false) (nl:=0) (H:=[]) (q:=⟨_,_,_,True⟩) (by simp only [evOp,evA_head]; rfl) trivial
    · subst h
      exact evOp_ok (own:=false) (nl:=0) (H:=[]) (q:=⟨_,_,_,True⟩) (by simp only [evOp,evA_head]; rfl) trivial
  exact RegV.up (fun _ h'=>RegU.op (hin:=[]) (hout:=[]) hg h0 hd (fun x hx=>by cases hx) rfl rfl (fun _=>rfl) rfl (restK_nil H) rfl h') hn
end
theorem compBin_no {op:BinOp} {t:TypeId} {x y a b:Arg} {z by':Nat} {zz:List D}:(compBin P op t x y = .app a b z by' zz→False)∧(compBin P op t x y = .grow a b z by' zz→False):=by
  constructor <;> intro h <;> unfold compBin at h <;> repeat' (first | cases h | split at h)
theorem compConv_no {s d:TypeId} {x a b:Arg} {z by':Nat} {zz:List D}:(compConv P s d x = .app a b z by' zz→False)∧(compConv P s d x = .grow a b z by' zz→False):=by
  constructor <;> intro h <;> unfold compConv at h <;> repeat' (first | cases h | split at h)
theorem compOp_app {op:Op} {a b:Arg} {z by':Nat} {zz:List D} (h:compOp P op = .app a b z by' zz):∃ c,op = .call c∧CallK P c (.app a b z by' zz):=by
  cases op with
  | call c =>
    simp only [compOp] at h
    rcases compCall_inv (P:=P) (c:=c) with hb | hk
    · rw [hb] at h; cases h
    · rw [h] at hk; exact ⟨c,rfl,hk⟩
  | binOp op t x y t' =>
    simp only [compOp] at h
    split at h
    · exact (compBin_no.1 h).elim
    · cases h
  | convert s d x =>
    simp only [compOp] at h
    split at h
    · exact (compConv_no.1 h).elim
    · cases h
  | makeFunc fn first caps =>
    cases fn with
    | func f =>
      simp only [compOp] at h
      repeat' (first | cases h | split at h)
    | _=>cases h
  | makeMap t r=>exfalso; cases r <;> simp [compOp] at h
  | lookup t x i ok =>
    exfalso
    simp only [compOp] at h
    repeat' (first | cases h | split at h)
  | _ =>
    simp only [compOp,szK,sbK,aggK] at h
    repeat' (first | cases h | split at h)
theorem compOp_grow {op:Op} {a b:Arg} {z by':Nat} {zz:List D} (h:compOp P op = .grow a b z by' zz):∃ c,op = .call c∧CallK P c (.grow a b z by' zz):=by
  cases op with
  | call c =>
    simp only [compOp] at h
    rcases compCall_inv (P:=P) (c:=c) with hb | hk
    · rw [hb] at h; cases h
    · rw [h] at hk; exact ⟨c,rfl,hk⟩
  | binOp op t x y t' =>
    simp only [compOp] at h
    split at h
    · exact (compBin_no.2 h).elim
    · cases h
  | convert s d x =>
    simp only [compOp] at h
    split at h
    · exact (compConv_no.2 h).elim
    · cases h
  | makeFunc fn first caps =>
    cases fn with
    | func f =>
      simp only [compOp] at h
      repeat' (first | cases h | split at h)
    | _=>cases h
  | makeMap t r=>exfalso; cases r <;> simp [compOp] at h
  | lookup t x i ok =>
    exfalso
    simp only [compOp] at h
    repeat' (first | cases h | split at h)
  | _ =>
    simp only [compOp,szK,sbK,aggK] at h
    repeat' (first | cases h | split at h)

theorem post_row {S:Seal} {i:Emb} {w w':World} {c:Array Value} {e:TypeId} {nl z n cap:Nat} {ds:List D} (hh:HeapRel S i [] w) (hn:NewBlk w w' c e (0,0)) (hf:i nl = none) (hds:ds.length≤c.size)
    (hv:∀ j (h1:j < ds.length) (h2:j < c.size),DV S ds[j] c[j]) (hcap:cap * z≤c.size) (hnc:n≤cap):Post S i [] w (.row nl z n) [(nl,.rowP ds)] (.slice (some ⟨w.heap.size,0,none⟩) n cap) w':=by
  have hi:i.set nl w.heap.size nl = some w.heap.size:=by simp [Emb.set]
  obtain ⟨S',i',p1,p2,p3,p4,p5⟩:=post_tok (k:=0) (nl:=nl) (r:=.row nl z n) (v:=.slice (some ⟨w.heap.size,0,none⟩) n cap) hh hn hf (.row hi (m:=c.size) (by simp [Seal.add]) hcap hnc)
  have hb0:i' nl = some w.heap.size:=by cases p1 with | row h _ _ _=>exact h
  have hle:S.le S':=p4.up
  refine ⟨S',i',p1,⟨p2.cell,p2.size,fun l o hm=>?_,fun l o l' o' b x y _ _=>?_,p2.dom,p2.gr⟩,p3,⟨p4.up,p4.grow,p4.old,p4.newSeal,p4.newEmb,fun b ⟨l,o,hm,hb⟩=>?_,p4.os,p4.out,p4.tape⟩,p5⟩
  · cases List.mem_singleton.1 hm
    rcases p2.obj nl (.tok 0) List.mem_cons_self with ⟨b',hb',c',e',hc',hns⟩ | ⟨h,_⟩
    case inr=>rw [hb0] at h; cases h
    rw [hb0] at hb'; cases hb'
    have:=hn.new
    rw [hc'] at this
    cases this
    exact .inl ⟨_,hb0,c,e,hc',hds,fun j h1 h2=>(hv j h1 h2).mono hle,fun a ha=>hns a ha (Nat.zero_le _)⟩
  · cases List.mem_singleton.1 x; cases List.mem_singleton.1 y; rfl
  · cases List.mem_singleton.1 hm
    exact p4.sub b ⟨nl,.tok 0,List.mem_singleton.2 rfl,hb⟩
theorem post_rowNil {S:Seal} {i:Emb} {w:World} {nl z:Nat} (hh:HeapRel S i [] w) (hf:i nl = none):Post S i [] w (.row nl z 0) [(nl,.rowP [])] (.slice none 0 0) w:=by
  refine ⟨S,i,.rown,⟨hh.cell,hh.size,fun l o hm=>?_,fun l o l' o' b hm hm' _ _=>?_,hh.dom,hh.gr⟩,fun _ _ h=>h,⟨.refl S,Nat.le_refl _,fun _ _ _=>rfl,fun _ _ h=>.inl h,fun _ _ h=>.inl h,?_,rfl,rfl,rfl⟩,fun _ _ h=>.inl h⟩
  · cases List.mem_singleton.1 hm; exact .inr ⟨hf,rfl⟩
  · cases List.mem_singleton.1 hm; cases List.mem_singleton.1 hm'; rfl
  · rintro b ⟨l,o,hm,hb⟩
    cases List.mem_singleton.1 hm
    rw [hf] at hb; cases hb

theorem Sub.rowAp {l z:Nat}:Sub (.row l z 0) (.ap l z []):=by
  intro S i v hv
  cases hv with
  | rown=>exact .apn
  | row h hn hc hl=>exact .ap (xs:=[]) h (.sl (z:=z) (l:=[]) (fun _=>undef) (by simp) (by simp [flat]) (by simp) (by simp [flat]) (by simp [flat])) (by simp) hn hc
theorem SubO.rowTok {s:Nat→Nat}:SubO (.rowP []) ((AObj.tok 0).ren s):=by
  refine ⟨fun S i w b ⟨c,e,hc,_,_,hf⟩=>⟨c,e,hc,fun a ha _=>hf a ha⟩,fun _=>rfl⟩
end
end Go.Proofs.Abs
end
section
namespace Go.Proofs.Abs
open Go
set_option linter.unusedVariables false
set_option linter.unusedSectionVars false
set_option linter.unusedSimpArgs false
section
variable {P:Program} {w:World}
theorem run_grow {ats:Array TypeId} {t u ty e:TypeId} {j:TypeInfo} {z:Value} {k kk:IntKind} (h0:ats[0]? = some t) (h1:ats[1]? = some u) (ht:P.underlying t = some (.slice e)) (hu:P.underlying u = some (.int k))
    (hj:P.info? e = some j) (hz:j.zero = some z) {n:Int} (hn:0 < n) (hb:0 < j.bytes) (hs:0 < j.size) (hfit:n * j.bytes≤281474976710656) :
    (Builtin.append_ ats ty #[.slice none 0 0,.int kk n]).run P w =
      .ok (.slice (some ⟨w.heap.size,0,none⟩) n.toNat (grownCap w n.toNat 0 e)) (w.drew.alloc (.cells (Builtin.zeroCells z.cells n.toNat ++ Builtin.zeroCells z.cells (grownCap w n.toNat 0 e - n.toNat)) e)):=by
  have hle:n≤281474976710656:=by
    have h2:n * 1≤n * (j.bytes:Int):=Int.mul_le_mul_of_nonneg_left (by omega) (by omega)
    omega
  have hw:IntKind.i64.wrap n = n:=wrap_small (by omega) hle
  have hnl:¬ (n < 0):=by omega
  have hfit':¬ (281474976710656 < n * j.bytes):=by omega
  have hn0:¬ (n.toNat≤0):=by omega
  have hn1:¬ (n.toNat = 0):=by omega
  have h63':¬ (9223372036854775807 < (n.toNat:Int)):=by omega
  have hnc:Builtin.nextslicecap n.toNat 0 = n.toNat:=nextslicecap_zero (by omega)
  have hf2:¬ (281474976710656 < n.toNat * j.bytes):=by
    intro h
    have:((n.toNat * j.bytes:Nat):Int) = n * j.bytes:=by rw [Int.natCast_mul,Int.toNat_of_nonneg (by omega)]
    omega
  have hs0:¬ (j.size = 0):=by omega
  have hmx:max n 0 = n:=by omega
  have h64:¬ (9223372036854775807 < n):=by omega
  have hn2:¬ (n≤0):=by omega
  have hns:¬ (n.toNat * j.size = 0):=by
    have:=Nat.mul_pos (show 0 < n.toNat by omega) hs
    omega
  simp [Builtin.append_,h0,h1,run_underlying ht,run_underlying hu,sizeOf,typeInfo,zeroValue,hj,hz,hw,hnl,hfit',hn0,hn1,h63',hnc,hf2,hs0,Question.forced,newRow,grownCap,asInt,asIntOf,Builtin.firstCells,hmx,h64,hn2,hns]

theorem AOpT.grow {A:List (Nat×AV)} {x y:Arg} {z by' nl:Nat} {zz:List D} {kd:IntKind} {n:Int} (hx:evA A x = some .nils) (hy:evA A y = some (.d (.int kd n))) (hzl:zz.length = z) (hzp:0 < z) (hby:0 < by') (hn:0 < n) (hfit:n * by'≤281474976710656) :
    AOpT P (.grow x y z by' zz) A [] (.row nl z n.toNat) [(nl,.rowP [])]:=by
  refine ⟨fun w hw hb=>(by subst hw; cases hb),fun o hao=>?_⟩
  obtain ⟨c,hop,hk⟩:=compOp_grow hao
  cases hk with
  | grow hc ha hxa hya ht hu hu2 hz hj =>
    rename_i x0 y0 t u e k ts j
    obtain ⟨j',z0,hj',hz0,hcz⟩:=zeroA_inv hz
    rw [hj] at hj'
    cases hj'
    have hzz:zz.length = z0.cells.size:=by simpa using (constDs_at hcz).1
    have h0:c.argTypes[0]? = some t:=arr0 ht
    have h1:c.argTypes[1]? = some u:=by rw [←Array.getElem?_toList,ht]; rfl
    refine ⟨by simp [hop],fun S i w ρ hev hh hf=>?_⟩
    have hfn:i nl = none:=hf nl (by simp [AHeap.keys]) (by simp [AHeap.keys])
    have hxn:ρ x0 = .slice none 0 0:=by
      have:=argV hev hxa hx
      generalize ρ x0 = v at this
      cases this; rfl
    have hyn:=vInt (argV hev hya hy)
    have hexec:(execOp ρ o).run P w = ((Builtin.append_ c.argTypes o.type #[ρ x0,ρ y0]).run P w).andThen fun v w'=>.ok (.value v) w':=by
      simp only [execOp,hop,resolve,hc,arr2 ha,List.map_toArray,List.map_cons,List.map_nil,Sem.run_bind,Sem.run_pure,Result.andThen_ok,invoke,builtin]
    rw [hexec,hxn,hyn,run_grow h0 h1 (und_some hu (by simp)) (und_some hu2 (by simp)) hj hz0 hn hby hzp hfit,Result.andThen_ok]
    have hcap:=grownCap_ge w n.toNat 0 e
    generalize hgc:grownCap w n.toNat 0 e = cap at *
    generalize hC:Builtin.zeroCells z0.cells n.toNat ++ Builtin.zeroCells z0.cells (cap - n.toNat) = C at *
    have hnb:NewBlk w (w.drew.alloc (.cells C e)) C e (0,0):=by
      have:=newblk_alloc w.drew C e
      exact ⟨this.size,this.old,this.new,this.os,this.out,this.tape⟩
    have hsz:C.size = cap * j.size:=by
      rw [←hC]
      simp only [Array.size_append,size_zeroCells,←hzz,hzl]
      rw [←Nat.add_mul]
      congr 1; omega
    exact post_row hh hnb hfn (Nat.zero_le _) (fun m h1 _=>by simp at h1) (by rw [hsz]; exact Nat.le_refl _) hcap

theorem compBin_slc {op:BinOp} {t:TypeId} {x y a:Arg} {lo hi mx:Option Arg} {z:Nat}:compBin P op t x y = .slc a lo hi mx z→False:=by
  intro h; unfold compBin at h; repeat' (first | cases h | split at h)
theorem compConv_slc {s d:TypeId} {x a:Arg} {lo hi mx:Option Arg} {z:Nat}:compConv P s d x = .slc a lo hi mx z→False:=by
  intro h; unfold compConv at h; repeat' (first | cases h | split at h)
theorem compCall_slc {c:Call} {a:Arg} {lo hi mx:Option Arg} {z:Nat}:compCall P c = .slc a lo hi mx z→False:=by
  intro h
  unfold compCall at h
  repeat' (first | cases h | split at h)
  all_goals (simp only [sbK,szK] at h; repeat' (first | cases h | split at h))
theorem compOp_slc {op:Op} {a:Arg} {la ha ma:Option Arg} {z:Nat} (h:compOp P op = .slc a la ha ma z):∃ t x lo hi mx e j,op = .slice t x lo hi mx∧argA x = some a∧oargA lo = some la∧oargA hi = some ha∧oargA mx = some ma∧und P t = .slice e∧P.info? e = some j∧j.size = z:=by
  cases op with
  | call c=>simp only [compOp] at h; exact (compCall_slc h).elim
  | slice t x lo hi mx =>
    simp only [compOp] at h
    split at h <;> first | cases h | skip
    rename_i a' la' ha' ma' e hx hlo hhi hmx hu
    simp only [szK] at h
    split at h <;> cases h
    rename_i j hj
    exact ⟨t,x,lo,hi,mx,e,j,rfl,hx,hlo,hhi,hmx,hu,hj,rfl⟩
  | binOp op t x y t' =>
    simp only [compOp] at h
    split at h
    · exact (compBin_slc h).elim
    · cases h
  | convert s d x =>
    simp only [compOp] at h
    split at h
    · exact (compConv_slc h).elim
    · cases h
  | makeFunc fn first caps =>
    cases fn with
    | func f =>
      simp only [compOp] at h
      repeat' (first | cases h | split at h)
    | _=>cases h
  | makeMap t r=>exfalso; cases r <;> simp [compOp] at h
  | lookup t x i ok =>
    exfalso
    simp only [compOp] at h
    repeat' (first | cases h | split at h)
  | _ =>
    simp only [compOp,szK,sbK,aggK] at h
    repeat' (first | cases h | split at h)
theorem oargA_none {x:Option Operand} (h:oargA x = some none):x = none:=by
  cases x with
  | none=>rfl
  | some y=>simp [oargA] at h
theorem AOpT.slcR {A:List (Nat×AV)} {x:Arg} {ha:Option Arg} {z l n:Nat} {h:Int} (hx:evA A x = some (.row l z n)) (hh:oInt (evA A) (n:Int) ha = some h) (hb:0≤h∧h≤(n:Int)):AOpT P (.slc x none ha none z) A [] (.row l z h.toNat) []:=by
  refine ⟨fun w hw hb=>(by subst hw; cases hb),fun o hao=>?_⟩
  obtain ⟨t,x0,lo,hi,mx,e,j,hop,hxa,hlo,hhi,hmx,hu,hj,rfl⟩:=compOp_slc hao
  cases oargA_none hlo
  cases oargA_none hmx
  refine .pure (by simp [hop]) fun S i w ρ hev _=>?_
  have run:∀ (base:Option Addr) (len cap:Nat),ρ x0 = .slice base len cap→((hi.map ρ = none∧h = len)∨∃ k,hi.map ρ = some (.int k h))→h≤cap →
      (execOp ρ o).run P w = .ok (.value (.slice (if cap = 0 then base else base.map (·.add (0 * j.size))) h.toNat cap)) w:=by
    intro base len cap hxv b2 h2
    have hbb:=run_sliceBounds (P:=P) (w:=w) (isS:=true) (lo:=none) (.inl ⟨rfl,rfl⟩) b2 (by omega) hb.1 h2
    simp only [execOp,hop,Instr.sliceAt,Sem.run_bind,run_und (und_some hu (by simp)),Result.andThen_ok,hxv,Instr.slice,Option.map_none,hbb,run_sizeOf hj,Sem.run_pure]
    simp
  have bnd:(hi.map ρ = none∧h = n)∨∃ k,hi.map ρ = some (.int k h):=by
    rcases oInt_ok hev hhi hh with ⟨rfl,hl⟩ | ⟨x,k,rfl,hxk⟩
    · exact .inl ⟨rfl,hl⟩
    · exact .inr ⟨k,by simp [hxk]⟩
  have hv:=argV hev hxa hx
  generalize hxv:ρ x0 = u at hv
  cases hv with
  | rown =>
    have h0:h = 0:=by omega
    subst h0
    refine ⟨_,run _ _ _ hxv bnd (by omega),?_⟩
    simpa using V.rown (S:=S) (i:=i) (l:=l) (z:=j.size)
  | row hi' hn hc hl =>
    rename_i b cap m
    refine ⟨_,run _ _ _ hxv bnd (by omega),?_⟩
    have e1:(if cap = 0 then some (⟨b,0,none⟩:Addr) else (some (⟨b,0,none⟩:Addr)).map (·.add (0 * j.size))) = some ⟨b,0,none⟩:=by
      split
      · rfl
      · simp [addr_add]
    rw [e1]
    exact .row hi' hn hc (by omega)

theorem AOpT.slcN {A:List (Nat×AV)} {x:Arg} {ha:Option Arg} {z:Nat} (hx:evA A x = some .nils) (hh:oInt (evA A) 0 ha = some 0):AOpT P (.slc x none ha none z) A [] .nils []:=by
  refine ⟨fun w hw hb=>(by subst hw; cases hb),fun o hao=>?_⟩
  obtain ⟨t,x0,lo,hi,mx,e,j,hop,hxa,hlo,hhi,hmx,hu,hj,rfl⟩:=compOp_slc hao
  cases oargA_none hlo
  cases oargA_none hmx
  refine .pure (by simp [hop]) fun S i w ρ hev _=>?_
  have bnd:(hi.map ρ = none∧(0:Int) = (0:Nat))∨∃ k,hi.map ρ = some (.int k 0):=by
    rcases oInt_ok hev hhi hh with ⟨rfl,hl⟩ | ⟨x,k,rfl,hxk⟩
    · exact .inl ⟨rfl,rfl⟩
    · exact .inr ⟨k,by simp [hxk]⟩
  have hv:=argV hev hxa hx
  generalize hxv:ρ x0 = u at hv
  cases hv with
  | nils =>
    have hbb:=run_sliceBounds (P:=P) (w:=w) (isS:=true) (len:=0) (cap:=0) (lo:=none) (l:=0) (h:=0) (.inl ⟨rfl,rfl⟩) bnd (by omega) (by omega) (by omega)
    refine ⟨.slice none 0 0,?_,.nils⟩
    simp only [execOp,hop,Instr.sliceAt,Sem.run_bind,run_und (und_some hu (by simp)),Result.andThen_ok,hxv,Instr.slice,Option.map_none,hbb,run_sizeOf hj,Sem.run_pure]
    simp

def GrowC (z by':Nat) (zz:List D):AFunc:={ n:=27,params:=2,res:=[.tmp 4],body :=
 (.seq (.region false [⟨(some 4),.mv (.k .nils),none,[]⟩])
  (.seq (.seq (.region false [⟨(some 5),.mv (.t 1),none,[]⟩,
     ⟨(some 6),.bin .lss (.t 5) (.k (.d (.int .i64 0))),none,[0]⟩])
    (.cond (.t 6) (.region false [⟨(some 7),.bad,none,[]⟩,
      ⟨none,.bad,none,[0]⟩])
     (.skip)))
   (.seq (.seq (.region false [⟨(some 8),.mv (.t 1),none,[]⟩,
      ⟨(some 9),.mv (.t 0),none,[]⟩,
      ⟨(some 10),.cap (.t 9),none,[1]⟩,
      ⟨(some 11),.mv (.t 0),none,[]⟩,
      ⟨(some 12),.len (.t 11),none,[3]⟩,
      ⟨(some 13),.bin .sub (.t 10) (.t 12),none,[2,4]⟩,
      ⟨(some 14),.bin .sub (.t 8) (.t 13),none,[0,5]⟩,
      ⟨(some 1),.mv (.t 14),none,[6,0,1,2,3,4,5]⟩])
     (.seq (.region false [⟨(some 15),.mv (.t 1),none,[]⟩,
       ⟨(some 16),.bin .gtr (.t 15) (.k (.d (.int .i64 0))),none,[0]⟩])
      (.cond (.t 16) (.region false [⟨(some 17),.mv (.t 0),none,[]⟩,
        ⟨(some 18),.mv (.t 0),none,[]⟩,
        ⟨(some 19),.cap (.t 18),none,[1]⟩,
        ⟨(some 20),.slc (.t 17) none (some (.t 19)) none z,none,[0,2]⟩,
        ⟨(some 21),.mv (.t 1),none,[]⟩,
        ⟨(some 22),.grow (.t 20) (.t 21) z by' zz,none,[3,4]⟩,
        ⟨(some 23),.mv (.t 0),none,[]⟩,
        ⟨(some 24),.len (.t 23),none,[6]⟩,
        ⟨(some 25),.slc (.t 22) none (some (.t 24)) none z,none,[5,7]⟩,
        ⟨(some 0),.mv (.t 25),none,[8,5,0,1,2,3,4,6,7]⟩])
       (.skip))))
    (.seq (.region false [⟨(some 26),.mv (.t 0),none,[]⟩,
      ⟨(some 4),.mv (.t 26),none,[0]⟩])
     .ret)))) }
end
section
variable {P:Program} {aops os:List AOper} {draw:Bool} {N k c:Nat} {l:List (Nat×AV)} {H H':AHeap} {A:List Tk} {Q:AAct→AHeap→Nat→Prop}
variable {gd:Option (Nat×Bool)} {af:List Nat} {t:Nat} {z l0 len:Nat} {x y:Arg} {n:Int} {kd:IntKind}
theorem RegV.grow {by':Nat} {zz:List D} (hg:gOn gd (us l ⟨some t,.grow x y z by' zz,gd,af⟩) = some true) (hx:evA (us l ⟨some t,.grow x y z by' zz,gd,af⟩) x = some .nils) (hy:evA (us l ⟨some t,.grow x y z by' zz,gd,af⟩) y = some (.d (.int kd n))) (hzl:zz.length = z) (hzp:Nat.blt 0 z = true)
    (hby:Nat.blt 0 by' = true) (hn0:0 < n) (hfit:n * by'≤281474976710656) (hd:Nat.blt t N = true) (hH:restK [] [(c,.tok 0)] H = H)
    (hn:RegV P aops draw N (k + 1) os (c + 1) ((t,.row c z n.toNat) :: l) ((c,.rowP []) :: H) (⟨[c],false⟩ :: A) Q):RegV P aops draw N k (⟨some t,.grow x y z by' zz,gd,af⟩ :: os) c l H A Q:=by
  refine RegV.up (fun _ h'=>RegU.op hg (AOpT.grow (nl:=c) hx hy hzl (Nat.le_of_ble_eq_true hzp) (Nat.le_of_ble_eq_true hby) hn0 hfit) hd (fun x hx=>by cases hx) newOK_one rfl (q:=false) (fun h=>by cases h) rfl (H':=(c,.rowP []) :: H) ?_ topK_one h') hn
  rw [restK_new H _ (.tok 0),hH]; rfl
theorem RegV.slN {ha:Option Arg} (hg:gOn gd (us l ⟨some t,.slc x none ha none z,gd,af⟩) = some true) (hx:evA (us l ⟨some t,.slc x none ha none z,gd,af⟩) x = some .nils) (hh:oInt (evA (us l ⟨some t,.slc x none ha none z,gd,af⟩)) 0 ha = some 0)
    (hd:Nat.blt t N = true) (hn:RegV P aops draw N (k + 1) os c ((t,.nils) :: l) H (⟨[],true⟩ :: A) Q):RegV P aops draw N k (⟨some t,.slc x none ha none z,gd,af⟩ :: os) c l H A Q :=
  RegV.up (fun _ h'=>RegU.op (hin:=[]) (hout:=[]) hg (AOpT.slcN hx hh) hd (fun x hx=>by cases hx) rfl rfl (fun _=>rfl) rfl (restK_nil H) rfl h') hn
theorem RegV.slR {ha:Option Arg} {h:Int} (hg:gOn gd (us l ⟨some t,.slc x none ha none z,gd,af⟩) = some true) (hx:evA (us l ⟨some t,.slc x none ha none z,gd,af⟩) x = some (.row l0 z len)) (hh:oInt (evA (us l ⟨some t,.slc x none ha none z,gd,af⟩)) (len:Int) ha = some h)
    (hb:0≤h∧h≤(len:Int)) (hd:Nat.blt t N = true) (hn:RegV P aops draw N (k + 1) os c ((t,.row l0 z h.toNat) :: l) H (⟨[],true⟩ :: A) Q):RegV P aops draw N k (⟨some t,.slc x none ha none z,gd,af⟩ :: os) c l H A Q :=
  RegV.up (fun _ h'=>RegU.op (hin:=[]) (hout:=[]) hg (AOpT.slcR hx hh hb) hd (fun x hx=>by cases hx) rfl rfl (fun _=>rfl) rfl (restK_nil H) rfl h') hn
variable {α:Type} {e:α→D} {g:Bool} {ys:List α} in
end
theorem grow_gen {P:Program} {f:FuncId} {z by':Nat} {zz:List D} (hmix:P.follows .mixedOrders = true) (hc:HasF P f (GrowC z by' zz)) (hzl:zz.length = z) (hzp:Nat.blt 0 z = true) (hby:Nat.blt 0 by' = true) {n:Int} (h0:0≤n) (hb:n * by'≤281474976710656) (h63:n < 9223372036854775808) :
    ACalls P f [.nils,.d (.int .i64 n)] [] (.ap 0 z []) [(0,.tok 0)]:=by
  have hw:IntKind.i64.wrap (n - IntKind.i64.wrap (0 - 0)) = n:=by
    have e1:IntKind.i64.wrap (0 - 0) = 0:=by decide
    rw [e1]
    simp only [IntKind.wrap,IntKind.signed,IntKind.bits]
    simp
    omega
  refine acalls_canon (F:=GrowC z by' zz) hc 0 1 rfl ?_
  dsimp only [GrowC,startL]
  refine AWc.seq ?_
  refine AWc.rg hmix rfl rfl ?_
  refine RegV.p0 rfl rfl rfl ?_
  refine RegV.nil0 ?_
  refine AWc.seq ?_
  refine AWc.seq ?_
  refine AWc.rg hmix rfl rfl ?_
  refine RegV.p0 rfl rfl rfl ?_
  refine RegV.p0 (v:=.d (.bool (decide (n < 0)))) rfl rfl rfl ?_
  refine RegV.nil0 ?_
  refine AWc.cond rfl (fun hc=>absurd (of_decide_eq_true hc) (by omega)) (fun _=>?_)
  refine AWc.skip ?_
  refine AWc.seq ?_
  refine AWc.seq ?_
  refine AWc.rg hmix rfl rfl ?_
  refine RegV.p0 rfl rfl rfl ?_
  refine RegV.p0 rfl rfl rfl ?_
  refine RegV.p0 rfl rfl rfl ?_
  refine RegV.p0 rfl rfl rfl ?_
  refine RegV.p0 (v:=.d (.int .i64 0)) rfl rfl rfl ?_
  refine RegV.p0 (v:=.d (.int .i64 (IntKind.i64.wrap (0 - 0)))) rfl rfl rfl ?_
  refine RegV.p0 (v:=.d (.int .i64 (IntKind.i64.wrap (n - IntKind.i64.wrap (0 - 0))))) rfl rfl rfl ?_
  rw [hw]
  refine RegV.p0 rfl rfl rfl ?_
  refine RegV.nil0 ?_
  refine AWc.seq ?_
  refine AWc.rg hmix rfl rfl ?_
  refine RegV.p0 rfl rfl rfl ?_
  refine RegV.p0 (v:=.d (.bool (decide (n > 0)))) rfl rfl rfl ?_
  refine RegV.nil0 ?_
  refine AWc.cond rfl (fun hp=>?_) (fun hp=>?_)
  · have hpos:0 < n:=of_decide_eq_true hp
    refine AWc.rg hmix rfl rfl ?_
    refine RegV.p0 rfl rfl rfl ?_
    refine RegV.p0 rfl rfl rfl ?_
    refine RegV.p0 rfl rfl rfl ?_
    refine RegV.slN rfl rfl rfl rfl ?_
    refine RegV.p0 rfl rfl rfl ?_
    refine RegV.grow rfl rfl rfl hzl hzp hby hpos hb rfl rfl ?_
    refine RegV.p0 rfl rfl rfl ?_
    refine RegV.p0 (v:=.d (.int .i64 0)) rfl rfl rfl ?_
    refine RegV.slR (h:=0) rfl rfl rfl ⟨Int.le_refl _,by omega⟩ rfl ?_
    refine RegV.p0 rfl rfl rfl ?_
    refine RegV.nil0 ?_
    refine AWc.seq ?_
    refine AWc.rg hmix rfl rfl ?_
    refine RegV.p0 rfl rfl rfl ?_
    refine RegV.p0 rfl rfl rfl ?_
    refine RegV.nil0 ?_
    refine AWc.ret ?_
    refine canQ (N:=27) (k:=1) (l':=[(4,.ap 0 z [])]) (H':=[(0,.tok 0)]) rfl ⟨rfl,[],[(0,0)],rfl,rfl,⟨⟨_,rfl,.rowAp⟩,rfl,trivial⟩,⟨⟨_,rfl,.rowTok⟩,rfl,rfl,trivial⟩⟩ ?_
    exact doneA (.inr rfl) rfl ⟨trivial,trivial⟩ (.refl _) (hasCons rfl hasNil)
  · refine AWc.skip ?_
    refine AWc.seq ?_
    refine AWc.rg hmix rfl rfl ?_
    refine RegV.p0 rfl rfl rfl ?_
    refine RegV.p0 rfl rfl rfl ?_
    refine RegV.nil0 ?_
    refine AWc.ret ?_
    refine canQ (N:=27) (k:=1) (l':=[(4,.ap 0 z [])]) (H':=[(0,.tok 0)]) rfl ⟨rfl,[.tok 0],[(0,0)],rfl,rfl,⟨⟨_,rfl,.nil⟩,rfl,trivial⟩,⟨⟨_,rfl,.refl _⟩,rfl,rfl,trivial⟩⟩ ?_
    exact doneA (.inr rfl) rfl ⟨trivial,trivial⟩ (.refl _) (hasCons rfl hasNil)
end Go.Proofs.Abs
end
section
namespace Go.Proofs.Abs
open Go Go.ChangeShapes Go.WideShapes Go.ChangeAt Go.RowKit
set_option linter.unusedVariables false
set_option linter.unusedSectionVars false

mutual
def bulk {H:Type}:DataW H→Nat
  | .lit (.string bytes)=>bytes.length + 1
  | .lit _=>1
  | .nil=>1
  | .ptr d=>bulk d + 1
  | .slice elems spare=>bulkAll elems + bulkAll spare + 1
  | .agg parts=>bulkAll parts + 1
  | .iface _ d=>bulk d + 1
  | .map entries=>bulkEntries entries + 1
  | .held _=>1
def bulkAll {H:Type}:List (DataW H)→Nat
  | []=>0
  | d :: r=>bulk d + bulkAll r
def bulkEntries {H:Type}:List (Lit×DataW H)→Nat
  | []=>0
  | x :: r=>bulkEntry x + bulkEntries r
def bulkEntry {H:Type}:Lit×DataW H→Nat
  | (.string bytes,d)=>bytes.length + bulk d + 1
  | (_,d)=>bulk d + 1
end

theorem add_add (a:Addr) (x y:Nat):(a.add x).add y = a.add (x + y):=by
  obtain ⟨b,o,s⟩:=a
  unfold Addr.add
  by_cases hx:x = 0 <;> by_cases hy:y = 0 <;> simp [hx,hy,Nat.add_assoc]
structure Rd (P:Program) (t:TypeId) {α:Type} (e:α→D) (wf:α→Prop) (sz:α→Nat):Prop where
  read:∀ {H:Type} {enc:TypeId×Value→H} {W:World} {fuel:Nat} {cs:List Value} {x:DataW H×List MemPlace},DataW.trod enc P W 0 (fun _=>true) true fuel t cs = some x →
    ∃ a:α,wf a∧sz a≤bulk x.1∧(e a).cells.length = cs.length∧∀ j (h1:j < (e a).cells.length) (h2:j < cs.length),DV (sealOf W) (e a).cells[j] cs[j]

section
variable {P:Program} {t:TypeId}
theorem rd_one {α:Type} {e:α→D} {S:Seal} {a:α} {v:Value} (h:(e a).isAgg = false) (hv:DV S (e a) v):(e a).cells.length = [v].length∧∀ j (h1:j < (e a).cells.length) (h2:j < [v].length),DV S (e a).cells[j] [v][j]:=by
  have hc:=one_cells h
  refine ⟨by simp [hc],fun j h1 h2=>?_⟩
  have:j = 0:=by simp at h2; exact h2
  subst this
  simp only [hc,List.getElem_cons_zero]
  exact hv
theorem rd_int {k:IntKind} (hu:P.underlying t = some (.int k)):Rd P t (D.int k) (fun n=>k.min≤n∧n≤k.max) (fun _=>1):=⟨by
  intro H enc W fuel cs x h
  obtain ⟨n,rfl,rfl,hw⟩:=DataW.trod_int hu h
  obtain ⟨h1,h2⟩:=rd_one (e:=D.int k) (a:=n) (S:=sealOf W) rfl .int
  exact ⟨n,by simpa [Lit.wf] using hw,by simp [bulk],h1,h2⟩⟩
theorem rd_str (hu:P.underlying t = some .string):Rd P t D.str (fun _=>True) (fun s=>s.length + 1):=⟨by
  intro H enc W fuel cs x h
  obtain ⟨s,rfl,rfl,hs⟩:=DataW.trod_string hu h
  have hv:DV (sealOf W) (D.str s.data.toList) (.string s):=by
    have:(⟨s.data.toList.toArray⟩:ByteArray) = s:=by cases s; simp
    conv=>arg 3; rw [←this]
    exact .str
  obtain ⟨h1,h2⟩:=rd_one (e:=D.str) (a:=s.data.toList) rfl hv
  exact ⟨s.data.toList,trivial,by simp [bulk],h1,h2⟩⟩

theorem sum_le {α H:Type} {sz:α→Nat}:∀ {xs:List α} {ys:List (DataW H)},xs.length = ys.length→(∀ i (h1:i < xs.length) (h2:i < ys.length),sz xs[i]≤bulk ys[i])→(xs.map sz).sum≤bulkAll ys
  | [],[],_,_=>by simp [bulkAll]
  | x :: xs,y :: ys,hl,h=>by
    have h0:=h 0 (by simp) (by simp)
    have h1:=sum_le (sz:=sz) (xs:=xs) (ys:=ys) (by simpa using hl) (fun i k1 k2=>h (i + 1) (by simpa using k1) (by simpa using k2))
    simp only [List.map_cons,List.sum_cons,bulkAll]
    simp only [List.getElem_cons_zero] at h0
    omega

theorem rd_slice {el:TypeId} {α:Type} {e:α→D} {wf:α→Prop} {sz:α→Nat} {z:Nat} {g:Bool} (hu:P.underlying t = some (.slice el)) (he:EncOK e z g) (hz:0 < z) (hc:P.cellsOf el = z) (r:Rd P el e wf sz) :
    Rd P t (slE e) (fun xs=>∀ a∈xs,wf a) (fun xs=>(xs.map sz).sum + 1):=⟨by
  intro H enc W fuel cs x h
  rcases DataW.trod_slice hu h with ⟨rfl,rfl⟩ | ⟨a,len,cap,elems,rest,n,_,rfl,rfl,hb,hl,hm,hlen,hel,hsp,_⟩
  · obtain ⟨h1,h2⟩:=rd_one (e:=slE e) (a:=[]) (S:=sealOf W) (v:=.slice none 0 0) rfl .nilsl
    exact ⟨[],by simp,by simp [bulk],h1,h2⟩
  rw [hc] at hel hsp
  have each:∀ i:Fin len,∃ a0:α,wf a0∧(∃ hi:i.1 < elems.length,sz a0≤bulk elems[i.1].1)∧∀ m (hm:m < (e a0).cells.length),∃ v,W.cell? (a.add (i.1 * z + m)) = some v∧DV (sealOf W) (e a0).cells[m] v:=by
    intro i
    have hi:i.1 < elems.length:=by rw [hlen]; exact i.2
    have:=hel i.1 i.2
    rw [List.getElem?_eq_getElem hi,Option.bind_eq_some_iff] at this
    obtain ⟨cs',hcs,hy⟩:=this
    obtain ⟨a0,w1,w2,w3,w4⟩:=r.read hy
    refine ⟨a0,w1,⟨hi,w2⟩,fun m hm=>?_⟩
    have hm':m < cs'.length:=by rw [←w3]; exact hm
    obtain ⟨_,hcl,hcell⟩:=World.cells?_some hcs
    refine ⟨cs'[m],?_,w4 m hm hm'⟩
    have h5:=hcell m (by rw [←hcl]; exact hm')
    rw [List.getElem?_eq_getElem hm'] at h5
    rw [←h5,add_add]
  let xs:List α:=List.ofFn fun i:Fin len=>Classical.choose (each i)
  have hxl:xs.length = len:=by simp [xs]
  have hx:∀ i (hi:i < xs.length),wf xs[i]∧(∃ h:i < elems.length,sz xs[i]≤bulk elems[i].1)∧∀ m (hm:m < (e xs[i]).cells.length),∃ v,W.cell? (a.add (i * z + m)) = some v∧DV (sealOf W) (e xs[i]).cells[m] v:=by
    intro i hi
    have hi':i < len:=by rw [←hxl]; exact hi
    have:=Classical.choose_spec (each ⟨i,hi'⟩)
    simpa [xs,List.getElem_ofFn] using this
  have hdv:DV (sealOf W) (.sl (xs.map e)) (.slice (some a) len cap):=by
    by_cases hcap:cap = 0
    · have h0:len = 0:=by omega
      have:xs = []:=List.eq_nil_of_length_eq_zero (by rw [hxl,h0])
      rw [this,h0,hcap]
      exact .emp
    · have hspot:a.spot = none:=by
        have h0:∃ y cs',W.cells? 0 (a.add (0 * z)) z = some cs'∧DataW.trod enc P W 0 (fun _=>true) true n el cs' = some y:=by
          by_cases hl0:len = 0
          · obtain ⟨hr1,hr2⟩:=hsp rfl
            have h1:0 < rest.length:=by omega
            have:=hr2 0 (by omega)
            rw [List.getElem?_eq_getElem h1,Option.bind_eq_some_iff] at this
            obtain ⟨cs',hcs,hy⟩:=this
            rw [hl0] at hcs
            exact ⟨_,cs',hcs,hy⟩
          · have h1:0 < elems.length:=by omega
            have:=hel 0 (by omega)
            rw [List.getElem?_eq_getElem h1,Option.bind_eq_some_iff] at this
            obtain ⟨cs',hcs,hy⟩:=this
            exact ⟨_,cs',hcs,hy⟩
        obtain ⟨y,cs',hcs,_⟩:=h0
        obtain ⟨_,hcl,hcell⟩:=World.cells?_some hcs
        have h5:=hcell 0 hz
        have h6:0 < cs'.length:=by rw [hcl]; exact hz
        rw [List.getElem?_eq_getElem h6] at h5
        unfold World.cell? at h5
        split at h5
        · split at h5
          · cases h5
          · rename_i hs
            cases hsx:a.spot with
            | none=>rfl
            | some s=>simp [Addr.add,hsx] at hs
        · cases h5
      obtain ⟨b,o,sp⟩:=a
      simp only at hspot
      subst hspot
      have hll:(xs.map e).length = len:=by simp [hxl]
      have hzz:∀ d∈xs.map e,d.cells.length = z:=fun d hd=>by obtain ⟨y,_,rfl⟩:=List.mem_map.1 hd; exact he.len y
      have key:∀ m (hm:m < (flat (xs.map e)).length),∃ v,W.cell? ⟨b,o + m,none⟩ = some v∧DV (sealOf W) (flat (xs.map e))[m] v:=by
        intro m hm
        have hfl:=flat_len hzz
        have h1:m / z < xs.length:=by
          rw [Nat.div_lt_iff_lt_mul hz]; rw [hfl] at hm; simpa using hm
        have h2:m % z < z:=Nat.mod_lt _ hz
        obtain ⟨q1,q2,q3⟩:=flat_at hzz (n:=m / z) (m:=m % z) (by simpa using h1) h2
        obtain ⟨_,_,w3⟩:=hx (m / z) h1
        obtain ⟨v,v1,v2⟩:=w3 (m % z) (by rw [he.len]; exact h2)
        have hmm:m / z * z + m % z = m:=by rw [Nat.mul_comm]; exact Nat.div_add_mod m z
        refine ⟨v,?_,?_⟩
        · rw [←v1,addr_add]; congr 2; omega
        · have e1:(flat (xs.map e))[m] = (flat (xs.map e))[m / z * z + m % z]:=by simp only [hmm]
          rw [e1,q3]
          simpa using v2
      have:=DV.sl (S:=sealOf W) (z:=z) (l:=xs.map e) (b:=b) (o:=o) (cap:=cap) (fun m=>(W.cell? ⟨b,o + m,none⟩).getD undef) hzz (cellsD_sc he xs) (by rw [hll]; exact hl) (fun m hm=>by
        obtain ⟨v,v1,_⟩:=key m hm
        show W.cell? _ = _
        rw [v1]; rfl) (fun m hm=>by
        obtain ⟨v,v1,v2⟩:=key m hm
        rw [v1]; exact v2)
      rwa [hll] at this
  obtain ⟨h1,h2⟩:=rd_one (e:=slE e) (a:=xs) rfl hdv
  refine ⟨xs,fun y hy=>?_,?_,h1,h2⟩
  · obtain ⟨i,hi,rfl⟩:=List.getElem_of_mem hy
    exact (hx i hi).1
  · have:=sum_le (sz:=sz) (xs:=xs) (ys:=elems.map (·.1)) (by rw [hxl,List.length_map,hlen]) (fun i k1 k2=>by
      obtain ⟨_,⟨k3,k4⟩,_⟩:=hx i k1
      simpa using k4)
    simp only [bulk]
    omega⟩

structure RdF (P:Program) (fs:List Field) (off:Nat) {β:Type} (ec:β→List D) (wf:β→Prop) (sz:β→Nat):Prop where
  read:∀ {H:Type} {enc:TypeId×Value→H} {W:World} {n:Nat} {cs:List Value} {xs:List (DataW H×List MemPlace)},xs.length = fs.length →
    (∀ (i:Nat) (f:Field),fs[i]? = some f→DataW.trod enc P W 0 (fun _=>true) true n f.type ((cs.drop f.offset).take (P.cellsOf f.type)) = xs[i]?) →
    ∃ b:β,wf b∧sz b≤bulkAll (xs.map (·.1))∧∀ j (h1:j < (ec b).length),∃ v,cs[off + j]? = some v∧DV (sealOf W) (ec b)[j] v
theorem Rd.arg {α:Type} {e:α→D} {wf:α→Prop} {sz:α→Nat} {z:Nat} {g:Bool} (r:Rd P t e wf sz) (he:EncOK e z g) {d0:TypeDesc} (hu:P.underlying t = some d0) (hg:isAggD d0 = g) {W:World} {base:Nat} {v:Value} (hval:Value.okWide P W .any base t v) {H:Type}
    {enc:TypeId×Value→H} {d:DataW H} {ps:List MemPlace} (h:DataW.Trod enc P W 0 (fun _=>true) true t v d ps):∃ a,wf a∧sz a≤bulk d∧DV (sealOf W) (e a) v:=by
  obtain ⟨fuel,hf⟩:=h
  obtain ⟨a,w1,w2,w3,w4⟩:=r.read hf
  refine ⟨a,w1,w2,?_⟩
  have hag:=he.ag a
  cases g with
  | false =>
    have hv:∀ cs,v≠.agg cs:=by
      rintro cs rfl
      unfold Value.okWide at hval
      rw [hu] at hval
      cases d0 <;> simp [isAggD] at hg <;> simp [Cell.okWide,Cell.ok,hu] at hval
    have hc:v.cells.toList = [v]:=by
      cases v <;> first | rfl | exact absurd rfl (hv _)
    have:=w4 0 (by rw [one_cells hag]; simp) (by rw [hc]; simp)
    simpa [one_cells hag,hc] using this
  | true =>
    have hv:∃ cs,v = .agg cs:=by
      unfold Value.okWide at hval
      rw [hu] at hval
      cases d0 <;> simp [isAggD] at hg <;> (obtain ⟨cs,h,_⟩:=hval; exact ⟨cs,h⟩)
    obtain ⟨cs,rfl⟩:=hv
    rw [agg_cells hag]
    have:=DV.agg (S:=sealOf W) (l:=(e a).cells) (vs:=cs.toList) w3 (he.sc a) (fun i h1 h2=>w4 i h1 h2)
    simpa using this
end
end Go.Proofs.Abs
end
section
namespace Go.Proofs.Abs
open Go
set_option linter.unusedVariables false
theorem i64w {n:Int} (h:-9223372036854775808≤n∧n≤9223372036854775807):IntKind.i64.wrap n = n:=by
  simp only [IntKind.wrap,IntKind.signed,IntKind.bits]
  simp
  omega
theorem u64w {n:Int} (h:0≤n∧n≤18446744073709551615):IntKind.u64.wrap n = n:=by
  simp only [IntKind.wrap,IntKind.signed,IntKind.bits]
  simp
  omega
theorem rd_i64 {P:Program} {t:TypeId} (hu:P.underlying t = some (.int .i64)):Rd P t (D.int .i64) (fun n=>-9223372036854775808≤n∧n≤9223372036854775807) (fun _=>1) :=
  ⟨fun h=>by
    obtain ⟨a,w,r⟩:=(rd_int hu).read h
    exact ⟨a,by simpa [IntKind.min,IntKind.max,IntKind.signed,IntKind.bits] using w,r⟩⟩
end Go.Proofs.Abs
end
section
namespace Go.Proofs.Abs
open Go
set_option linter.unusedVariables false
theorem toNat_lt (b:UInt8):b.toNat < 256:=b.toNat_lt
end Go.Proofs.Abs
end
section
namespace Go.Proofs.Abs
open Go
set_option linter.unusedVariables false
set_option maxRecDepth 20000
theorem gdp {α:Type} {p:Prop} {d:Decidable p} {x:Option α} (h:p):@gd α p d x = x:=if_pos h
theorem cdp {α:Type} {p:Prop} {d:Decidable p} {x y:α} (h:p):cond (@decide p d) x y = x:=by rw [decide_eq_true h]; rfl
theorem cdn {α:Type} {p:Prop} {d:Decidable p} {x y:α} (h:¬ p):cond (@decide p d) x y = y:=by rw [decide_eq_false h]; rfl
def nb (n:Nat):List UInt8:=if n < 128 then [UInt8.ofNat n] else UInt8.ofNat (n % 128 + 128) :: nb (n / 128)
end Go.Proofs.Abs
end
section
namespace Go.Proofs.Abs
open Go
set_option linter.unusedVariables false
set_option linter.unusedSectionVars false
set_option linter.unusedSimpArgs false
section
variable {P:Program} {w:World}
theorem compBin_build {op:BinOp} {t:TypeId} {x y:Arg} {zz:List D} {pl:List (Nat×Nat×Arg)}:compBin P op t x y = .build zz pl→False:=by
  intro h; unfold compBin at h; repeat' (first | cases h | split at h)
theorem compConv_build {s d:TypeId} {x:Arg} {zz:List D} {pl:List (Nat×Nat×Arg)}:compConv P s d x = .build zz pl→False:=by
  intro h; unfold compConv at h; repeat' (first | cases h | split at h)
theorem compCall_build {c:Call} {zz:List D} {pl:List (Nat×Nat×Arg)}:compCall P c = .build zz pl→False:=by
  intro h
  unfold compCall at h
  repeat' (first | cases h | split at h)
  all_goals (simp only [sbK,szK] at h; repeat' (first | cases h | split at h))
theorem compOp_build {op:Op} {zz:List D} {pl:List (Nat×Nat×Arg)} (h:compOp P op = .build zz pl):∃ t parts fs ps,op = .build t parts∧und P t = .struct fs∧zeroA P t = some zz∧partsA parts.toList = some ps∧fs.toList.all (fun (f:Field)=>(P.info? f.type).isSome) = true∧placesA P fs ps = some pl:=by
  cases op with
  | call c=>simp only [compOp] at h; exact (compCall_build h).elim
  | build t parts =>
    simp only [compOp] at h
    split at h <;> first | cases h | skip
    rename_i fs z ps hu hz hps
    split at h <;> first | cases h | skip
    rename_i hall
    split at h <;> first | cases h | skip
    rename_i l hl
    exact ⟨t,parts,fs,ps,rfl,hu,hz,hps,hall,hl⟩
  | binOp op t x y t' =>
    simp only [compOp] at h
    split at h
    · exact (compBin_build h).elim
    · cases h
  | convert s d x =>
    simp only [compOp] at h
    split at h
    · exact (compConv_build h).elim
    · cases h
  | makeFunc fn first caps =>
    cases fn with
    | func f =>
      simp only [compOp] at h
      repeat' (first | cases h | split at h)
    | _=>cases h
  | makeMap t r=>exfalso; cases r <;> simp [compOp] at h
  | lookup t x i ok =>
    exfalso
    simp only [compOp] at h
    repeat' (first | cases h | split at h)
  | _ =>
    simp only [compOp,szK,sbK,aggK] at h
    repeat' (first | cases h | split at h)
theorem AOpT.bld {args:List (Nat×AV)} {zz:List D} {pl:List (Nat×Nat×Arg)} {L:List AV} {s:Prop} (hL:buildF (evA args) (zz.map zAV) pl = some (L,s)) (hs:s):AOpT P (.build zz pl) args [] (.agg L) []:=by
  refine ⟨fun x hx hb=>(by subst hx; cases hb),fun o hao=>?_⟩
  obtain ⟨t,parts,fs,ps,hop,hu,hz,hps,hall,hpl⟩:=compOp_build hao
  have hund:=und_some hu (by simp)
  obtain ⟨j0,z0,hj0,hz0,hcz⟩:=zeroA_inv hz
  obtain ⟨hzz0,hzat⟩:=constDs_at hcz
  refine .pure (by simp [hop]) fun S i w ρ hev hh=>?_
  let pls:List (Nat×Nat):=fs.toList.map fun (f:Field)=>(f.offset,((P.info? f.type).map (·.size)).getD 0)
  have hpls:fs.toList.mapM (fun (f:Field)=>(P.info? f.type).map fun i=>(f.offset,i.size)) = some pls:=by
    have gen:∀ l:List Field,l.all (fun (f:Field)=>(P.info? f.type).isSome) = true→l.mapM (fun (f:Field)=>(P.info? f.type).map fun i=>(f.offset,i.size)) = some (l.map fun (f:Field)=>(f.offset,((P.info? f.type).map (·.size)).getD 0)):=by
      intro l
      induction l with
      | nil=>intro _; rfl
      | cons f r ih =>
        intro h
        simp only [List.all_cons,Bool.and_eq_true] at h
        obtain ⟨j,hj⟩:=Option.isSome_iff_exists.1 h.1
        simp only [List.mapM_cons,hj,Option.map_some,ih h.2,List.map_cons,Option.getD_some]
        rfl
    exact gen _ hall
  have hplace:∀ (n:Nat) (f:Field) (j:TypeInfo),fs[n]? = some f→P.info? f.type = some j→pls.toArray[n]? = some (f.offset,j.size):=by
    intro n f j hf hj
    simp only [pls,List.getElem?_toArray,List.getElem?_map,Array.getElem?_toList,hf,Option.map_some,hj,Option.getD_some]
  obtain ⟨C,hC1,hC2,hC3⟩:=fill_build (place:=(pls.toArray[·]?)) (cells:=z0.cells) hplace hev hps hpl hL hs (by simpa using hzz0.symm) fun k h1 h2=>by
    have:=zAV_ok (S:=S) (i:=i) (hzat k (by simpa using h1) (by simpa using h2))
    simpa using this
  have hmk:V S i (.agg L) (.agg C):=by
    have:V S i (.agg L) (.agg C.toList.toArray):=.agg (by simpa using hC2.symm) fun j h1 h2=>hC3 j h1 (by simpa using h2)
    simpa using this
  refine ⟨.agg C,?_,hmk⟩
  have hbuilt:P.built t (parts.map fun (p:Nat×Operand)=>(p.1,ρ p.2)).toList = some C:=by
    simp only [Program.built,hj0,hund,hz0,hpls,Array.toList_map]
    exact hC1
  have:=run_build (P:=P) w t (parts.map fun (p:Nat×Operand)=>(p.1,ρ p.2)) C hbuilt
  simp only [execOp,hop,Sem.run_bind]
  have he:(Instr.build t (parts.map fun x=>match x with | (i,x)=>(i,ρ x))).run P w = .ok (.agg C) w:=this
  rw [he]
  rfl
end
section
variable {P:Program} {aops os:List AOper} {draw:Bool} {N k c:Nat} {l:List (Nat×AV)} {H:AHeap} {A:List Tk} {Q:AAct→AHeap→Nat→Prop}
variable {x y:Arg} {gd:Option (Nat×Bool)} {af:List Nat} {t:Nat}
end
end Go.Proofs.Abs
end
section
namespace Go.Proofs.Abs
open Go
set_option linter.unusedVariables false
set_option linter.unusedSectionVars false
set_option linter.unusedSimpArgs false
section
variable {α:Type} {e:α→D} {z:Nat} {g:Bool}
inductive Bor (l0:Nat) (e:α→D) (z:Nat) (xs:List α):AV→AV→Prop
  | same {v}:Bor l0 e z xs v v
  | sub {a a'} (h:Sub a a'):Bor l0 e z xs a a'
  | sl {o len cap:Nat} (h:o + len≤xs.length∧len≤cap):Bor l0 e z xs (.sl l0 (o * z) len cap z) (.d (.sl (((xs.drop o).take len).map e)))
  | sl0 {len cap:Nat} (h:len≤xs.length∧len≤cap):Bor l0 e z xs (.sl l0 0 len cap z) (.d (.sl ((xs.take len).map e)))
  | row {n:Nat} (h:n≤xs.length):Bor l0 e z xs (.row l0 z n) (.d (.sl ((xs.take n).map e)))
  | win {len cap:Nat} (h:len≤xs.length∧cap = xs.length):Bor l0 e z xs (.sl l0 0 len cap z) (.win (xs.map e) len)
  | agg {L L':List AV} (hl:L.length = L'.length) (h:∀ j (h1:j < L.length) (h2:j < L'.length),Bor l0 e z xs L[j] L'[j]):Bor l0 e z xs (.agg L) (.agg L')
inductive Loose:AV→AV→Prop
  | int {k n}:Loose (.d (.int k n)) (.d (.int k n))
  | bool {b}:Loose (.d (.bool b)) (.d (.bool b))
  | str {s}:Loose (.d (.str s)) (.d (.str s))
  | any {r}:Loose r .any
  | tup {L L':List AV} (hl:L.length = L'.length) (h:∀ j (h1:j < L.length) (h2:j < L'.length),Loose L[j] L'[j]):Loose (.tup L) (.tup L')
theorem Loose.to {r r':AV} (h:Loose r r'):∀ {S T:Seal} {i j:Emb} {v:Value},V S i r v→V T j r' v:=by
  induction h with
  | int=>intro S T i j v hv; cases hv with | d h=>cases h; exact .d .int
  | bool=>intro S T i j v hv; cases hv with | d h=>cases h; exact .d .bool
  | str=>intro S T i j v hv; cases hv with | d h=>cases h; exact .d .str
  | any=>intro S T i j v hv; exact .any
  | tup hl h ih=>intro S T i j v hv; cases hv with | tup h1 h2=>exact .tup (by omega) fun m m1 m2=>ih m (by omega) m1 (h2 m (by omega) m2)
theorem dv_row' (h:EncOK e z g) {S:Seal} {b:Nat} {xs:List α} {c:Array Value} (hs:(cellsD e xs).length≤c.size) (hv:∀ j (h1:j < (cellsD e xs).length) (h2:j < c.size),DV S (cellsD e xs)[j] c[j])
    (hle:S.le (S.row b (xs.length * z) c)) (o len cap:Nat) (ho:o + len≤xs.length) (hc:len≤cap):DV (S.row b (xs.length * z) c) (.sl (((xs.drop o).take len).map e)) (.slice (some ⟨b,o * z,none⟩) len cap):=by
  have hl:(((xs.drop o).take len).map e).length = len:=by simp; omega
  have hk:=flat_drop h xs o len ho
  have:=DV.sl (S:=S.row b (xs.length * z) c) (z:=z) (l:=((xs.drop o).take len).map e) (b:=b) (o:=o * z) (cap:=cap) (fun m=>c.getD (o * z + m) undef) (fun d hd=>by obtain ⟨a,_,rfl⟩:=List.mem_map.1 hd; exact h.len a)
    (cellsD_sc h _) (by rw [hl]; exact hc) (fun m hm=>?_) (fun m hm=>?_)
  · rwa [hl] at this
  · obtain ⟨h2,_⟩:=hk m hm
    have h3:o * z + m < c.size:=by omega
    have h4:o * z + m < xs.length * z:=by rw [←cellsD_len h]; exact h2
    simp only [Seal.row]
    rw [if_pos ⟨trivial,trivial,h4⟩]
    simp [h3]
  · obtain ⟨h2,he⟩:=hk m hm
    have h3:o * z + m < c.size:=by omega
    have:=hv (o * z + m) h2 h3
    rw [he] at this
    have:=this.mono hle
    have e2:c.getD (o * z + m) undef = c[o * z + m]:=by simp [h3]
    rw [e2]; exact this
theorem Bor.to {l0 b:Nat} {xs:List α} {S S':Seal} {i:Emb} (hb:i l0 = some b) (hle:S.le S')
    (key:∀ o len cap,o + len≤xs.length→len≤cap→DV S' (.sl (((xs.drop o).take len).map e)) (.slice (some ⟨b,o * z,none⟩) len cap)) {a a':AV} (h:Bor l0 e z xs a a'):∀ {v:Value},V S i a v→V S' i a' v:=by
  induction h with
  | same=>intro v hv; exact hv.mono hle (fun _ _ h=>h)
  | sub h=>intro v hv; exact (h _ _ _ hv).mono hle (fun _ _ h=>h)
  | sl hq=>intro v hv; cases hv with | sl hi=>rw [hb] at hi; cases hi; exact .d (key _ _ _ hq.1 hq.2)
  | sl0 hq =>
    intro v hv
    cases hv with
    | sl hi =>
      rw [hb] at hi; cases hi
      have:=key 0 _ _ (by omega) hq.2
      rw [Nat.zero_mul] at this
      exact .d this
  | row hq =>
    intro v hv
    cases hv with
    | rown=>exact .d .nilsl
    | row hi _ _ hl =>
      rw [hb] at hi; cases hi
      have:=key 0 _ _ (by omega) hl
      rw [Nat.zero_mul] at this
      exact .d this
  | win hq =>
    intro v hv
    cases hv with
    | sl hi =>
      rw [hb] at hi; cases hi
      have:=key 0 xs.length xs.length (by omega) (Nat.le_refl _)
      rw [Nat.zero_mul,List.drop_zero,List.take_length] at this
      have hl:(xs.map e).length = xs.length:=by simp
      have h5:V S' i (.win (xs.map e) _) (.slice (some ⟨b,0,none⟩) _ (xs.map e).length):=.win (by rw [hl]; exact this) (by rw [hl]; exact hq.1)
      rw [hl] at h5
      rw [hq.2]; exact h5
  | agg hl h ih=>intro v hv; cases hv with | agg h1 h2=>exact .agg (by omega) fun m m1 m2=>ih m (by omega) m1 (h2 m (by omega) m2)
inductive BorL (l0:Nat) (e:α→D) (z:Nat) (xs:List α):List AV→List AV→Prop
  | nil:BorL l0 e z xs [] []
  | cons {x y:AV} {r s:List AV}:Bor l0 e z xs x y→BorL l0 e z xs r s→BorL l0 e z xs (x :: r) (y :: s)
theorem BorL.get {l0:Nat} {xs:List α}:∀ {L L':List AV},BorL l0 e z xs L L'→L.length = L'.length∧∀ j (h1:j < L.length) (h2:j < L'.length),Bor l0 e z xs L[j] L'[j]
  | _,_,.nil=>⟨rfl,fun j h1=>by simp at h1⟩
  | _,_,.cons h t=>by
    obtain ⟨h1,h2⟩:=t.get
    refine ⟨by simp [h1],fun j j1 j2=>?_⟩
    cases j with
    | zero=>exact h
    | succ j=>exact h2 j (by simpa using j1) (by simpa using j2)
inductive LooseL:List AV→List AV→Prop
  | nil:LooseL [] []
  | cons {x y:AV} {r s:List AV}:Loose x y→LooseL r s→LooseL (x :: r) (y :: s)
theorem ACalls.borrow {P:Program} {f:FuncId} {args views ws:List AV} {r r':AV} {l0:Nat} {xs:List α} {o:AObj} {H':AHeap} (h:ACalls P f ws [] r H') (hlf:AV.ltbL 0 views = true) (he:EncOK e z g) (ho:o = .rowD (cellsD e xs)∨o = .rowP (cellsD e xs))
    (hb:BorL l0 e z xs args views) (hs:SubL views ws) (hr:Loose r r'):ACalls P f args [(l0,o)] r' [(l0,o)]:=by
  refine ⟨h.1,fun S i w vs hlen hargs hh hf=>?_⟩
  obtain ⟨b1,b2⟩:=hb.get
  obtain ⟨s1,s2⟩:=hs.get
  have fin:∀ (S':Seal),S.le S'→(∀ a v,S.cell a = some v→S'.cell a = some v)→HeapRel S' i [] w→(∀ j (h1:j < views.length) (h2:j < vs.length),V S' i views[j] vs[j]) →
      Calls P f vs.toArray w fun e w'=>∃ v,e = .returned v∧Post S i [(l0,o)] w r' [(l0,o)] v w':=by
    intro S' hle _ hh' hv
    have hlt:=AV.ltL_of hlf
    have hv2:∀ j (h1:j < views.length) (h2:j < vs.length),V S' (fun _=>none) views[j] vs[j]:=fun j h1 h2=>(hv j h1 h2).relabel (K:=fun l=>l < 0) (fun l hl=>by omega) (hlt _ (List.getElem_mem h1))
    refine (h.2 S' (fun _=>none) w vs (by omega) (fun j h1 h2=>s2 j (by omega) h1 _ _ _ (hv2 j (by omega) h2)) ⟨hh'.cell,hh'.size,fun l p hp=>(by cases hp),fun l p l' p' b q1=>(by cases q1),fun l b hb=>(by cases hb),hh'.gr⟩ (fun l _ _=>rfl)).mono ?_
    rintro e1 w1 ⟨v,rfl,S1,i1,hv1,hh1,hi1,ht,hn1⟩
    have hold:∀ b,b < w.heap.size→w1.heap[b]? = w.heap[b]?:=fun b hb=>ht.old b hb (fun ⟨l,p,hp,_⟩=>by cases hp)
    refine ⟨v,rfl,S,i,hr.to hv1,⟨fun a u hu=>hh1.cell a u (ht.up.cell _ _ (hle.cell _ _ hu)),fun x n hx=>hh1.size x n (ht.up.size _ _ (hle.size _ _ hx)),fun l p hp=>?_,fun l p l' p' x q1 q2 e1 e2=>hh.inj _ _ _ _ x q1 q2 e1 e2,fun l x hx=>Nat.lt_of_lt_of_le (hh.dom l x hx) ht.grow,hh.gr⟩,
      fun _ _ h=>h,⟨.refl S,ht.grow,fun x hx _=>hold x hx,fun _ _ h=>.inl h,fun _ _ h=>.inl h,fun _ h=>.inl h,ht.os,ht.out,ht.tape⟩,fun _ _ h=>.inl h⟩
    rcases hh.obj l p hp with ⟨x,hx,hrel⟩ | h0
    · exact .inl ⟨x,hx,hrel.later (.refl S) (fun _ _ h=>h) (hold x (hh.dom l x hx)) (fun a u hu _=>hu)⟩
    · exact .inr h0
  rcases hh.obj l0 o (List.mem_singleton.2 rfl) with ⟨b,hb,hrel⟩ | ⟨h0,hz⟩
  · obtain ⟨c0,et,hc0,hsz,hv,hns⟩:∃ c et,w.heap[b]? = some (.cells c et (0,0))∧(cellsD e xs).length≤c.size∧(∀ j (h1:j < (cellsD e xs).length) (h2:j < c.size),DV S (cellsD e xs)[j] c[j])∧∀ a:Addr,a.block = b→S.cell a = none:=by
      rcases ho with rfl | rfl
      · obtain ⟨c,et,q1,q2,q3,q4⟩:=hrel
        refine ⟨c,et,q1,by rw [q2]; simp,fun j h1 h2=>?_,q4⟩
        have:=q3 j (by simpa using h1) h2
        rw [List.getElem_map] at this
        exact vD this
      · exact hrel
    obtain ⟨h1,h2,h3⟩:=seal_row (k:=xs.length * z) hh (List.mem_singleton.2 rfl) hb hc0 hns
    refine fin _ h1 h1.cell (h2.perm (fun x hx=>by cases hx)) fun j j1 j2=>?_
    exact (b2 j (by omega) j1).to hb h1 (fun o len cap q1 q2=>dv_row' he hsz hv h1 o len cap q1 q2) (hargs j (by omega) j2)
  · have hne:True:=trivial
    have hdead:∀ {a a':AV},Bor l0 e z xs a a'→∀ {v:Value},V S i a v→V S i a' v:=by
      intro a a' hab
      induction hab with
      | same=>intro v hv; exact hv
      | sub h=>intro v hv; exact h _ _ _ hv
      | sl h=>intro v hv; cases hv with | sl h=>rw [h0] at h; cases h
      | sl0 h=>intro v hv; cases hv with | sl h=>rw [h0] at h; cases h
      | row h =>
        intro v hv
        cases hv with
        | rown=>exact .d .nilsl
        | row h=>rw [h0] at h; cases h
      | win h=>intro v hv; cases hv with | sl h=>rw [h0] at h; cases h
      | agg hl h ih=>intro v hv; cases hv with | agg h1 h2=>exact .agg (by omega) fun m m1 m2=>ih m (by omega) m1 (h2 m (by omega) m2)
    exact fin S (.refl S) (fun _ _ h=>h) (hh.perm (fun x hx=>by cases hx)) fun j j1 j2=>hdead (b2 j (by omega) j1) (hargs j (by omega) j2)
end
end Go.Proofs.Abs
end
section
namespace Go.Proofs.Abs
open Go
set_option linter.unusedVariables false
set_option linter.unusedSectionVars false
set_option linter.unusedSimpArgs false
theorem Post.framed {S:Seal} {i:Emb} {H' F:AHeap} {w w':World} {r:AV} {v:Value} (h:Post S i [] w r H' v w') (hF:HeapRel S i F w) (hd:∀ l∈H'.keys,l ∉ F.keys):Post S i F w r (H' ++ F) v w':=by
  obtain ⟨S',i',hv,hh,hle,ht,hn⟩:=h
  have hFi:∀ l o b,(l,o)∈F→i' l = some b→i l = some b:=by
    intro l o b hm hb
    rcases hn l b hb with hb | hb
    · exact hb
    · exact absurd (List.mem_map.2 ⟨_,hm,rfl⟩) (hd l hb.1)
  refine ⟨S',i',hv,HeapRel.frame (H:=[]) hF (fun l hl=>by cases hl) hh hle hn hd ht,hle,Tr.frame (H:=[]) ht hFi,fun l b hb=>?_⟩
  rcases hn l b hb with h | ⟨h1,h2⟩
  · exact .inl h
  · exact .inr ⟨by simp only [AHeap.keys,List.map_append,List.mem_append]; exact .inl h1,hd l h1⟩
section
variable {P:Program} {α:Type} {e:α→D} {z:Nat} {g:Bool}
inductive Src (l0 z:Nat) (xs:List α):AV→List α→Prop
  | sl {o len cap:Nat} (h:o + len≤xs.length∧len≤cap):Src l0 z xs (.sl l0 (o * z) len cap z) ((xs.drop o).take len)
  | sl0 {len cap:Nat} (h:len≤xs.length∧len≤cap):Src l0 z xs (.sl l0 0 len cap z) (xs.take len)
  | row {n:Nat} (h:n≤xs.length):Src l0 z xs (.row l0 z n) (xs.take n)
theorem own_src {S:Seal} {i:Emb} {w:World} {l0:Nat} {o:AObj} {xs ys:List α} {y:AV} {vy:Value} (he:EncOK e z g) (ho:o = .rowD (cellsD e xs)∨o = .rowP (cellsD e xs)) (hh:HeapRel S i [(l0,o)] w)
    (hb:Src l0 z xs y ys) (hv:V S i y vy) :
    ∃ new:List Value,new.length = ys.length * z∧(∀ m (h1:m < (flat (ys.map e)).length) (h2:m < new.length),DV S (flat (ys.map e))[m] new[m]) ∧
      ∀ w':World,(∀ a,w'.cell? a = w.cell? a)→(Builtin.lenOf vy).run P w' = .ok ys.length w'∧(Builtin.firstCells z ys.length vy).run P w' = .ok new.toArray w':=by
  have nil:∀ ys:List α,ys = []→∃ new:List Value,new.length = ys.length * z∧(∀ m (h1:m < (flat (ys.map e)).length) (h2:m < new.length),DV S (flat (ys.map e))[m] new[m]) ∧
      ∀ w':World,(∀ a,w'.cell? a = w.cell? a)→(Builtin.lenOf (.slice none 0 0)).run P w' = .ok ys.length w'∧(Builtin.firstCells z ys.length (.slice none 0 0)).run P w' = .ok new.toArray w':=by
    rintro ys rfl
    exact ⟨[],by simp,fun m h1=>by simp [flat] at h1,fun w' _=>⟨rfl,by simp [Builtin.firstCells]⟩⟩
  have row:∀ (b off len cap:Nat),i l0 = some b→off + len≤xs.length→ys = (xs.drop off).take len→∃ new:List Value,new.length = ys.length * z∧(∀ m (h1:m < (flat (ys.map e)).length) (h2:m < new.length),DV S (flat (ys.map e))[m] new[m]) ∧
      ∀ w':World,(∀ a,w'.cell? a = w.cell? a)→(Builtin.lenOf (.slice (some ⟨b,off * z,none⟩) len cap)).run P w' = .ok ys.length w'∧(Builtin.firstCells z ys.length (.slice (some ⟨b,off * z,none⟩) len cap)).run P w' = .ok new.toArray w':=by
    intro b off len cap hb hle hys
    rcases hh.obj l0 o (List.mem_singleton.2 rfl) with ⟨b',hb',hrel⟩ | ⟨h0,_⟩
    case inr=>rw [hb] at h0; cases h0
    rw [hb] at hb'; cases hb'
    obtain ⟨c0,et,hc0,hsz,hvv,hns⟩:∃ c et,w.heap[b]? = some (.cells c et (0,0))∧(cellsD e xs).length≤c.size∧(∀ j (h1:j < (cellsD e xs).length) (h2:j < c.size),DV S (cellsD e xs)[j] c[j])∧∀ a:Addr,a.block = b→S.cell a = none:=by
      rcases ho with rfl | rfl
      · obtain ⟨c,et,q1,q2,q3,q4⟩:=hrel
        refine ⟨c,et,q1,by rw [q2]; simp,fun j h1 h2=>?_,q4⟩
        have:=q3 j (by simpa using h1) h2
        rw [List.getElem_map] at this
        exact vD this
      · exact hrel
    have hl:ys.length = len:=by rw [hys]; simp; omega
    have hk:=flat_drop he xs off len hle
    have hcl:(cellsD e xs).length = xs.length * z:=cellsD_len he xs
    have hin:∀ k,k < ys.length * z→off * z + k < c0.size:=by
      intro k hk
      have:(off + len) * z≤xs.length * z:=Nat.mul_le_mul_right _ hle
      rw [Nat.add_mul] at this
      rw [hl] at hk
      omega
    refine ⟨(List.range (ys.length * z)).map fun k=>c0.getD (off * z + k) undef,by simp,fun m h1 h2=>?_,fun w' hw=>⟨?_,?_⟩⟩
    · have h3:m < (cellsD e ((xs.drop off).take len)).length:=by rw [←hys]; exact h1
      obtain ⟨h4,h5⟩:=hk m h3
      have h6:off * z + m < c0.size:=by omega
      have:=hvv (off * z + m) h4 h6
      rw [h5] at this
      have e2:c0.getD (off * z + m) undef = c0[off * z + m]:=by simp [h6]
      have e3:(flat (ys.map e))[m] = (cellsD e ((xs.drop off).take len))[m]:=by subst hys; rfl
      simp only [List.getElem_map,List.getElem_range,e2,e3]
      exact this
    · rw [hl]; rfl
    · simp only [Builtin.firstCells]
      refine run_loadCells w' _ (ys.length * z) (fun k=>c0.getD (off * z + k) undef) fun k hk=>?_
      rw [addr_add,hw]
      have h6:=hin k hk
      unfold World.cell?
      simp only [hc0]
      simp [h6]
  cases hb with
  | sl hq=>cases hv with | sl hi=>exact row _ _ _ _ hi hq.1 rfl
  | sl0 hq=>cases hv with | sl hi=>simpa using row _ 0 _ _ hi (by omega) rfl
  | row hq =>
    cases hv with
    | rown=>simpa using nil [] rfl
    | row hi _ _ hl=>simpa using row _ 0 _ _ hi (by omega) rfl
theorem append_own {A:List (Nat×AV)} {x y:Arg} {by' nl l0:Nat} {zz:List D} {yv:AV} {xs ys:List α} {o:AObj} (he:EncOK e z g) (ho:o = .rowD (cellsD e xs)∨o = .rowP (cellsD e xs)) (hx:evA A x = some .nils) (hy:evA A y = some yv) (hsrc:Src l0 z xs yv ys)
    (hne:nl≠l0) (hzl:zz.length = z) (hby:0 < by') (hfit:ys.length * by'≤281474976710656) :
    AOpT P (.app x y z by' zz) A [(l0,o)] (.row nl z ys.length) [(nl,.rowP (flat (ys.map e))),(l0,o)]∧AOpT P (.app x y z by' zz) A [(l0,o)] (.ap nl z (ys.map e)) [(nl,.tok ((ys.map e).length * z)),(l0,o)]:=by
  have main:∀ o0:Oper,compOp P o0.op = .app x y z by' zz→OpT P (evL A) o0 [(l0,o)] (.row nl z ys.length) [(nl,.rowP (flat (ys.map e))),(l0,o)]∧OpT P (evL A) o0 [(l0,o)] (.ap nl z (ys.map e)) [(nl,.tok ((ys.map e).length * z)),(l0,o)]:=by
    intro o0 hao
    obtain ⟨c,hop,hk⟩:=compOp_app hao
    cases hk with
    | app hc ha hxa hya ht hu hu2 hz hj =>
      rename_i x0 y0 t u ee ts j
      obtain ⟨j',z0,hj',hz0,hcz⟩:=zeroA_inv hz
      rw [hj] at hj'
      cases hj'
      have hzz:zz.length = z0.cells.size:=by simpa using (constDs_at hcz).1
      have hut:=und_some hu (by simp)
      obtain ⟨d,hd,huu⟩:∃ d,((∃ e',d = .slice e')∨d = .string)∧P.underlying u = some d:=by
        rcases hu2 with ⟨e',h⟩ | h
        · exact ⟨_,.inl ⟨e',rfl⟩,und_some h (by simp)⟩
        · exact ⟨_,.inr rfl,und_some h (by simp)⟩
      have h0:c.argTypes[0]? = some t:=arr0 ht
      have h1:c.argTypes[1]? = some u:=by rw [←Array.getElem?_toList,ht]; rfl
      have hexec:∀ (ρ:Operand→Value) (w:World),(execOp ρ o0).run P w = ((Builtin.append_ c.argTypes o0.type #[ρ x0,ρ y0]).run P w).andThen fun v w'=>.ok (.value v) w':=by
        intro ρ w
        simp only [execOp,hop,resolve,hc,arr2 ha,List.map_toArray,List.map_cons,List.map_nil,Sem.run_bind,Sem.run_pure,Result.andThen_ok,invoke,builtin]
      have two:∀ S i w ρ,(∀ x a,evL A x = some a→V S i a (ρ x))→HeapRel S i [(l0,o)] w→i nl = none→∃ v w',(execOp ρ o0).run P w = .ok (.value v) w'∧Post S i [] w (.row nl j.size ys.length) [(nl,.rowP (flat (ys.map e)))] v w'∧Post S i [] w (.ap nl j.size (ys.map e)) [(nl,.tok ((ys.map e).length * j.size))] v w':=by
        intro S i w ρ hev hh hfn
        have hhe:HeapRel S i [] w:=hh.perm fun x hx=>by cases hx
        have hxn:ρ x0 = .slice none 0 0:=by
          have:=argV hev hxa hx
          generalize ρ x0 = v at this
          cases this; rfl
        have hvy:=argV hev hya hy
        rw [hexec,hxn]
        obtain ⟨new,hn1,hn3,hn4⟩:=own_src (P:=P) he ho hh hsrc hvy
        have hyz:∀ d∈ys.map e,d.cells.length = j.size:=mapLen he.len
        have hfl:=flat_len hyz
        rw [List.length_map] at hfl
        have w0:=hn4 w (fun _=>rfl)
        have w1:=hn4 w.drew (fun a=>World.cell?_drew w a)
        by_cases hnil:ys = []
        · subst hnil
          simp only [List.length_nil] at w0
          rw [run_append_none' h0 h1 hut huu hd hj w0.1 w0.2,Result.andThen_ok]
          refine ⟨_,_,rfl,post_rowNil hhe hfn,S,i,.apn,⟨hhe.cell,hhe.size,fun l o hm=>?_,fun l o l' o' b hm hm' _ _=>?_,hhe.dom,hhe.gr⟩,fun _ _ h=>h,⟨.refl S,Nat.le_refl _,fun _ _ _=>rfl,fun _ _ h=>.inl h,fun _ _ h=>.inl h,?_,rfl,rfl,rfl⟩,fun _ _ h=>.inl h⟩
          · cases List.mem_singleton.1 hm
            exact .inr ⟨hfn,by simp [AObj.nil0]⟩
          · cases List.mem_singleton.1 hm; cases List.mem_singleton.1 hm'; rfl
          · rintro b ⟨l,o,hm,hb⟩
            cases List.mem_singleton.1 hm
            rw [hfn] at hb; cases hb
        · have hpos:0 < ys.length:=List.length_pos_iff.2 hnil
          have hnc:Builtin.nextslicecap (ys.length) 0 = ys.length:=nextslicecap_zero hpos
          have hlen:ys.length≤281474976710656:=Nat.le_trans (Nat.le_mul_of_pos_right _ hby) hfit
          have hrun:=run_append_grows' (P:=P) (w:=w) (ty:=o0.type) h0 h1 hut huu hd hj hz0 (base:=none) (sLen:=0) (sCap:=0) (old:=#[]) w0.1 w1.2 (by simp [Builtin.firstCells]) (by omega) (by omega)
            (by rw [Nat.zero_add,hnc]; exact hfit)
          rw [Nat.zero_add] at hrun
          rw [hrun,Result.andThen_ok]
          have hcap:=grownCap_ge w ys.length 0 ee
          generalize hgc:grownCap w ys.length 0 ee = cap at *
          generalize hC:#[] ++ new.toArray ++ Builtin.zeroCells z0.cells (cap - ys.length) = C at *
          have hnb:NewBlk w (w.drew.alloc (.cells C ee)) C ee (0,0):=by
            have:=newblk_alloc w.drew C ee
            exact ⟨this.size,this.old,this.new,this.os,this.out,this.tape⟩
          have hsz:C.size = cap * j.size:=by
            rw [←hC]
            simp only [Array.size_append,size_zeroCells,←hzz,hzl,List.size_toArray,hn1,List.size_toArray,List.length_nil,Nat.zero_add]
            rw [←Nat.add_mul]
            congr 1; omega
          have hCn:∀ m (hm:m < new.length),C[m]? = some new[m]:=by
            intro m hm
            rw [←hC]
            simp only [Array.empty_append]
            rw [Array.getElem?_append_left (by simpa using hm)]
            simp [hm]
          refine ⟨_,_,rfl,post_row hhe hnb hfn ?_ (fun m h1 h2=>?_) (by rw [hsz]; exact Nat.le_refl _) hcap,?_⟩
          · rw [hsz,hfl]; exact Nat.mul_le_mul_right _ hcap
          · have h3:m < new.length:=by rw [hn1,←hfl]; exact h1
            have h4:C[m] = new[m]:=(Array.getElem?_eq_some_iff.1 (hCn m h3)).2
            rw [h4]
            exact hn3 m h1 h3
          · have hdv:DV (S.add w.heap.size ((ys.map e).length * j.size) C) (.sl (ys.map e)) (.slice (some ⟨w.heap.size,0,none⟩) (ys.map e).length cap) :=
              dv_new (cs:=new) hhe hyz (cellsD_sc he ys) (by rw [List.length_map]; exact hn1) hCn hn3 (by rw [List.length_map]; exact hcap)
            have hp:=post_tok (nl:=nl) (k:=(ys.map e).length * j.size) (r:=.ap nl j.size (ys.map e)) (v:=.slice (some ⟨w.heap.size,0,none⟩) (ys.map e).length cap) hhe hnb hfn
              (.ap (n:=C.size) (by simp [Emb.set]) hdv hyz (by simp [Seal.add]) (by rw [hsz]; exact Nat.le_refl _))
            rw [List.length_map] at hp ⊢
            exact hp
      refine ⟨⟨by simp [hop],fun S i w ρ hev hh hf=>?_⟩,by simp [hop],fun S i w ρ hev hh hf=>?_⟩
      · have hfn:i nl = none:=hf nl (by simp [AHeap.keys]) (by simpa [AHeap.keys] using hne)
        obtain ⟨v,w',hr,hp,-⟩:=two S i w ρ hev hh hfn
        rw [hr]
        exact hp.framed hh (fun l hl=>by simp only [AHeap.keys,List.map_cons,List.map_nil,List.mem_singleton] at hl ⊢; subst hl; exact hne)
      · have hfn:i nl = none:=hf nl (by simp [AHeap.keys]) (by simpa [AHeap.keys] using hne)
        obtain ⟨v,w',hr,-,hp⟩:=two S i w ρ hev hh hfn
        rw [hr]
        exact hp.framed hh (fun l hl=>by simp only [AHeap.keys,List.map_cons,List.map_nil,List.mem_singleton] at hl ⊢; subst hl; exact hne)
  exact ⟨⟨fun w hw hb=>(by subst hw; cases hb),fun o0 hao=>(main o0 hao).1⟩,⟨fun w hw hb=>(by subst hw; cases hb),fun o0 hao=>(main o0 hao).2⟩⟩
end
section
variable {P:Program} {aops os:List AOper} {draw:Bool} {N k c:Nat} {l:List (Nat×AV)} {H H':AHeap} {A:List Tk} {Q:AAct→AHeap→Nat→Prop}
variable {x y:Arg} {gd:Option (Nat×Bool)} {af:List Nat} {t:Nat} {α:Type} {e:α→D} {z:Nat} {g:Bool} {xs ys:List α} {l0:Nat} {o:AObj} {yv:AV}
theorem RegV.appG {by':Nat} {zz:List D} (hg:gOn gd (us l ⟨some t,.app x y z by' zz,gd,af⟩) = some true) (hx:evA (us l ⟨some t,.app x y z by' zz,gd,af⟩) x = some .nils) (hy:evA (us l ⟨some t,.app x y z by' zz,gd,af⟩) y = some yv)
    (hs:Src l0 z xs yv ys) (he:EncOK e z g) (hl:lkH H l0 = some o) (ho:o = .rowD (cellsD e xs)∨o = .rowP (cellsD e xs)) (hzl:zz.length = z) (hby:Nat.blt 0 by' = true) (hfit:ys.length * by'≤281474976710656) (hd:Nat.blt t N = true) (hne:Nat.beq c l0 = false)
    (hn0:newOK c [(l0,o)] [(c,.rowP (cellsD e ys)),(l0,o)] = true) (hF:nodupH [(c,AObj.rowP (cellsD e ys)),(l0,o)] = true) (hc:topK c [(c,AObj.rowP (cellsD e ys)),(l0,o)] = c + 1) (hH:appK [(c,.rowP (cellsD e ys)),(l0,o)] (restK [(l0,o)] [(c,.rowP (cellsD e ys)),(l0,o)] H) = H')
    (hn:RegV P aops draw N (k + 1) os (c + 1) ((t,.row c z ys.length) :: l) H' (⟨[l0,c,l0],false⟩ :: A) Q):RegV P aops draw N k (⟨some t,.app x y z by' zz,gd,af⟩ :: os) c l H A Q:=by
  have hne':c≠l0:=fun h=>by rw [h,Nat.beq_refl] at hne; cases hne
  exact RegV.up (fun _ h'=>RegU.op hg (append_own (P:=P) (nl:=c) he ho hx hy hs hne' hzl (Nat.le_of_ble_eq_true hby) hfit).1 hd (fun y hy=>by cases List.mem_singleton.1 hy; exact lkH_mem hl) hn0 hF (q:=false) (fun h=>by cases h) rfl hH hc h') hn
end
end Go.Proofs.Abs
end
section
namespace Go.Proofs.Abs
open Go
set_option linter.unusedVariables false
set_option linter.unusedSectionVars false
set_option linter.unusedSimpArgs false
section
variable {P:Program} {w:World}
variable {α:Type} {e:α→D} {z:Nat} {g:Bool}
end
section
variable {P:Program} {aops os:List AOper} {draw:Bool} {N k c:Nat} {l:List (Nat×AV)} {H H':AHeap} {A:List Tk} {Q:AAct→AHeap→Nat→Prop}
variable {x y:Arg} {gd:Option (Nat×Bool)} {af:List Nat} {t:Nat} {α:Type} {e:α→D} {z:Nat} {g:Bool} {ys:List α} {l0:Nat}
end
theorem Sub.nilRow {l z:Nat}:Sub .nils (.row l z 0):=by
  intro S i v hv
  cases hv with
  | nils=>exact .rown
end Go.Proofs.Abs
end
section
namespace Go.Proofs.Abs
open Go
set_option linter.unusedVariables false
set_option linter.unusedSectionVars false
set_option linter.unusedSimpArgs false
section
variable {P:Program}
theorem Post.toRow {S:Seal} {i:Emb} {w w':World} {nl len cap z:Nat} {ds:List D} {v:Value} (h:Post S i [] w (.sl nl 0 len cap z) [(nl,.rowD ds)] v w') (hc:cap * z≤ds.length) (hl:len≤cap):Post S i [] w (.row nl z len) [(nl,.rowP ds)] v w':=by
  obtain ⟨S',i',hv,hh,hle,ht,hn⟩:=h
  cases hv with
  | sl hi =>
    rename_i b
    rcases hh.obj nl _ List.mem_cons_self with ⟨b',hb',c0,et,hc0,hsz,hv,hns⟩ | ⟨_,hz⟩
    case inr=>exact hz.elim
    rw [hi] at hb'; cases hb'
    obtain ⟨h1,h2,h3⟩:=seal_row (k:=0) hh List.mem_cons_self hi hc0 hns
    have e:setH nl (.tok 0) [(nl,AObj.rowD ds)] = [(nl,.tok 0)]:=by simp [setH]
    rw [e] at h2 h3
    rw [List.length_map] at hsz
    have hns':∀ a:Addr,a.block = b→(S'.row b 0 c0).cell a = none:=by
      intro a ha
      simp only [Seal.row,Nat.not_lt_zero,and_false,if_false]
      exact hns a ha
    refine ⟨S'.row b 0 c0,i',.row hi (m:=c0.size) (by simp [Seal.row]) (by omega) hl,⟨h2.cell,h2.size,fun l p hp=>?_,fun l p l' p' x q1 q2 _ _=>?_,h2.dom,h2.gr⟩,hle,?_,fun l b hb=>(hn l b hb).imp id fun h=>h⟩
    · cases List.mem_singleton.1 hp
      refine .inl ⟨b,hi,c0,et,hc0,by omega,fun j j1 j2=>?_,hns'⟩
      have:=hv j (by simpa using j1) j2
      rw [List.getElem_map] at this
      exact (vD this).mono h1
    · cases List.mem_singleton.1 q1; cases List.mem_singleton.1 q2; rfl
    · have t:=ht.trans h3
      exact ⟨t.up,t.grow,t.old,t.newSeal,t.newEmb,fun x ⟨l,p,hp,hx⟩=>t.sub x ⟨l,.tok 0,by cases List.mem_singleton.1 hp; exact List.mem_singleton.2 rfl,hx⟩,t.os,t.out,t.tape⟩
theorem AOpT.toRow {ao:AOp} {args:List (Nat×AV)} {nl len cap z:Nat} {ds:List D} (h:AOpT P ao args [] (.sl nl 0 len cap z) [(nl,.rowD ds)]) (hc:cap * z≤ds.length) (hl:len≤cap):AOpT P ao args [] (.row nl z len) [(nl,.rowP ds)] :=
  ⟨h.1,fun o ho=>⟨(h.2 o ho).1,fun S i w ρ h1 h2 h3=>((h.2 o ho).2 S i w ρ h1 h2 h3).mono fun v w hp=>hp.toRow hc hl⟩⟩
end
section
variable {P:Program} {aops os:List AOper} {draw:Bool} {N k c:Nat} {l:List (Nat×AV)} {H H':AHeap} {A:List Tk} {Q:AAct→AHeap→Nat→Prop}
variable {gd:Option (Nat×Bool)} {af:List Nat} {t:Nat} {α:Type} {e:α→D} {z:Nat} {g:Bool} {x y:Arg} {n m:Int}
theorem RegV.mkR {kn kc:IntKind} {by':Nat} {zz:List D} {a0:α} (hg:gOn gd (us l ⟨some t,.mksl x y z by' zz,gd,af⟩) = some true) (hx:evA (us l ⟨some t,.mksl x y z by' zz,gd,af⟩) x = some (.d (.int kn n))) (hy:evA (us l ⟨some t,.mksl x y z by' zz,gd,af⟩) y = some (.d (.int kc m)))
    (he:EncOK e z g) (hzz:zz.map zAV = (e a0).cells.map .d) (hby:Nat.blt 0 by' = true) (hb:0≤n∧n≤m∧m * by'≤281474976710656) (hd:Nat.blt t N = true) (hH:restK [] [(c,.tok 0)] H = H)
    (hn:RegV P aops draw N (k + 1) os (c + 1) ((t,.row c z n.toNat) :: l) ((c,.rowP (cellsD e (List.replicate m.toNat a0))) :: H) (⟨[c],false⟩ :: A) Q):RegV P aops draw N k (⟨some t,.mksl x y z by' zz,gd,af⟩ :: os) c l H A Q:=by
  have hcs:(List.replicate m.toNat (zz.map zAV)).flatten = (cellsD e (List.replicate m.toNat a0)).map .d:=by
    rw [hzz]
    generalize m.toNat = q
    induction q with
    | zero=>rfl
    | succ q ih=>rw [List.replicate_succ,List.flatten_cons,ih,List.replicate_succ,cellsD_cons,List.map_append]
  have hzl:zz.length = z:=by
    have:=congrArg List.length hzz
    simpa [he.len] using this
  have h0:AOpT P (.mksl x y z by' zz) (us l ⟨some t,.mksl x y z by' zz,gd,af⟩) [] (.sl c 0 n.toNat m.toNat z) [(c,cellsC e (List.replicate m.toNat a0))] :=
    evOp_ok (own:=true) (nl:=c) (H:=H) (q:=⟨_,_,_,0≤n∧n≤m∧m * by'≤281474976710656∧0 < by'∧zz.length = z⟩) (by simp only [evOp,hx,hy,cond_true,hcs]) ⟨hb.1,hb.2.1,hb.2.2,Nat.le_of_ble_eq_true hby,hzl⟩
  have h1:AOpT P (.mksl x y z by' zz) (us l ⟨some t,.mksl x y z by' zz,gd,af⟩) [] (.sl c 0 n.toNat m.toNat z) [(c,cellsO e (List.replicate m.toNat a0))]:=h0.eqH .nil (.cons .row .nil)
  have h2:=h1.toRow (by rw [cellsD_len he,List.length_replicate]; exact Nat.le_refl _) (by omega)
  refine RegV.up (fun _ h'=>RegU.op hg h2 hd (fun y hy=>by cases hy) newOK_one rfl (q:=false) (fun h=>by cases h) rfl (H':=(c,.rowP (cellsD e (List.replicate m.toNat a0))) :: H) ?_ topK_one h') hn
  rw [restK_new H _ (.tok 0),hH]; rfl
end
section
variable {P:Program} {α:Type} {e:α→D} {z:Nat} {g:Bool}
theorem Bor.dead {l0:Nat} {xs:List α} {S:Seal} {i:Emb} (h0:i l0 = none) {a a':AV} (h:Bor l0 e z xs a a'):∀ {v:Value},V S i a v→V S i a' v:=by
  induction h with
  | same=>intro v hv; exact hv
  | sub h=>intro v hv; exact h _ _ _ hv
  | sl h=>intro v hv; cases hv with | sl h=>rw [h0] at h; cases h
  | sl0 h=>intro v hv; cases hv with | sl h=>rw [h0] at h; cases h
  | row h =>
    intro v hv
    cases hv with
    | rown=>exact .d .nilsl
    | row h=>rw [h0] at h; cases h
  | win h=>intro v hv; cases hv with | sl h=>rw [h0] at h; cases h
  | agg hl h ih=>intro v hv; cases hv with | agg h1 h2=>exact .agg (by omega) fun m m1 m2=>ih m (by omega) m1 (h2 m (by omega) m2)
def borS (l0:Nat) (e:α→D) (z:Nat) (xs:List α) (l:List (Nat×AV)):List (Nat×AV)→Prop
  | []=>True
  | (t,v) :: r=>(∃ u,lk l t = some u∧Bor l0 e z xs u v)∧borS l0 e z xs l r
theorem borS.get {l0:Nat} {xs:List α} {l:List (Nat×AV)}:∀ {l':List (Nat×AV)},borS l0 e z xs l l'→∀ t v,lk l' t = some v→∃ u,lk l t = some u∧Bor l0 e z xs u v
  | [],_,t,v,h=>by cases h
  | (k,x) :: r,h,t,v,hv=>by
    simp only [lk] at hv
    cases hb:Nat.beq k t with
    | true=>rw [hb] at hv; cases hv; cases Nat.eq_of_beq_eq_true hb; exact h.1
    | false=>rw [hb] at hv; exact borS.get h.2 t v hv
variable {ro:Option Nat} {N n m:Nat} {H:AHeap} {Q:Exit→AAct→AHeap→Nat→Prop} {l l':List (Nat×AV)}
theorem AWc.sealB {c:ACode} {l0:Nat} {xs:List α} {o:AObj} {H':AHeap} (he:EncOK e z g) (hl:lkH H l0 = some o) (ho:o = .rowD (cellsD e xs)∨o = .rowP (cellsD e xs)) (hs:borS l0 e z xs l l') (hH:setH l0 (.tok (xs.length * z)) H = H') (h:AWc P ro m c ⟨N,l'⟩ H' n Q) :
    AWc P ro m c ⟨N,l⟩ H n Q:=by
  subst hH
  intro cc hcc S i w ca hact hh hn
  have hm:=lkH_mem hl
  suffices key:∃ S':Seal,ActRel S' i ⟨N,l'⟩ ca∧HeapRel S' i (setH l0 (.tok (xs.length * z)) H) w∧Tr S i H w S' i (setH l0 (.tok (xs.length * z)) H) w by
    obtain ⟨S',hact',h2,h3⟩:=key
    refine wpIn_mono (h cc hcc S' i w ca hact' h2 hn) ?_
    rintro ex ca' w' ⟨a',H1,n1,S1,i1,q,ra,rd,rh,rn,re,rt⟩
    exact ⟨a',H1,n1,S1,i1,q,ra,rd,rh,rn,re,h3.trans rt⟩
  rcases hh.obj _ _ hm with ⟨b,hb,hrel⟩ | ⟨h0,hz⟩
  · obtain ⟨c0,et,hc0,hsz,hv,hns⟩:∃ c et,w.heap[b]? = some (.cells c et (0,0))∧(cellsD e xs).length≤c.size∧(∀ j (h1:j < (cellsD e xs).length) (h2:j < c.size),DV S (cellsD e xs)[j] c[j])∧∀ a:Addr,a.block = b→S.cell a = none:=by
      rcases ho with rfl | rfl
      · obtain ⟨c,et,q1,q2,q3,q4⟩:=hrel
        refine ⟨c,et,q1,by rw [q2]; simp,fun j h1 h2=>?_,q4⟩
        have:=q3 j (by simpa using h1) h2
        rw [List.getElem_map] at this
        exact vD this
      · exact hrel
    obtain ⟨h1,h2,h3⟩:=seal_row (k:=xs.length * z) hh hm hb hc0 hns
    refine ⟨_,⟨hact.size,fun t v hv'=>?_⟩,h2,h3⟩
    obtain ⟨u,hu,hf⟩:=hs.get t v hv'
    exact hf.to hb h1 (fun o len cap q1 q2=>dv_row' he hsz hv h1 o len cap q1 q2) (hact.get t u hu)
  · have hk:xs.length * z = 0:=by
      have h5:cellsD e xs = []:=by
        rcases ho with rfl | rfl
        · exact hz.elim
        · exact hz
      rw [←cellsD_len he,h5]; rfl
    refine ⟨S,⟨hact.size,fun t v hv'=>?_⟩,⟨hh.cell,hh.size,fun l p hp=>?_,fun l p l' p' x h1 h2 e1 e2=>?_,hh.dom,hh.gr⟩,⟨.refl S,Nat.le_refl _,fun _ _ _=>rfl,fun a v ha=>.inl ha,fun _ _ h=>.inl h,fun x ⟨l,p,hp,hx⟩=>.inl ?_,rfl,rfl,rfl⟩⟩
    · obtain ⟨u,hu,hf⟩:=hs.get t v hv'
      exact hf.dead h0 (hact.get t u hu)
    · rcases mem_setH hp with ⟨rfl,rfl,_⟩ | ⟨hne,hp⟩
      · exact .inr ⟨h0,hk⟩
      · exact hh.obj l p hp
    · have k1:∃ q,(l,q)∈H:=by
        rcases mem_setH h1 with ⟨rfl,_,h⟩ | ⟨_,h⟩
        · exact h
        · exact ⟨_,h⟩
      have k2:∃ q,(l',q)∈H:=by
        rcases mem_setH h2 with ⟨rfl,_,h⟩ | ⟨_,h⟩
        · exact h
        · exact ⟨_,h⟩
      obtain ⟨q,h1⟩:=k1
      obtain ⟨q',h2⟩:=k2
      exact hh.inj _ _ _ _ x h1 h2 e1 e2
    · rcases mem_setH hp with ⟨rfl,_,q,h⟩ | ⟨_,h⟩
      · exact ⟨_,q,h,hx⟩
      · exact ⟨_,_,h,hx⟩
end
end Go.Proofs.Abs
end
section
namespace Go.Proofs.Abs
open Go
set_option linter.unusedVariables false
set_option linter.unusedSectionVars false
set_option linter.unusedSimpArgs false
def EncD (z:Nat) (d:D):Prop:=d.isAgg = true∧d.cells.length = z∧∀ c∈d.cells,c.isAgg = false
instance (z:Nat) (d:D):Decidable (EncD z d):=inferInstanceAs (Decidable (_∧_∧_))
def RT (z:Nat):Type:={d:D // EncD z d}
def rtE {z:Nat} (r:RT z):D:=r.1
theorem rtE_ok {z:Nat}:EncOK (rtE (z:=z)) z true:=⟨fun r=>r.2.2.1,fun r=>r.2.2.2,fun r=>r.2.1⟩
def RT.of {α:Type} {e:α→D} {z:Nat} (h:EncOK e z true) (x:α):RT z:=⟨e x,h.ag x,h.len x,h.sc x⟩
instance (z:Nat):Inhabited (RT z):=⟨⟨.agg (List.replicate z (.bool false)),rfl,by simp [D.cells],fun c hc=>by
  simp only [D.cells,List.mem_replicate] at hc; rw [hc.2]; rfl⟩⟩
def decI (k:IntKind):D→Option Int
  | .int k' n=>if k' = k then some n else none
  | _=>none
theorem decI_eq {k:IntKind} {d:D} {n:Int} (h:decI k d = some n):d = .int k n:=by
  cases d <;> simp only [decI] at h <;> first | cases h | skip
  split at h
  · rename_i hk; subst hk; cases h; rfl
  · cases h
theorem decI_put (k:IntKind) (n:Int):decI k (.int k n) = some n:=by simp [decI]
def decS:D→Option (List UInt8)
  | .str s=>some s
  | _=>none
theorem decS_eq {d:D} {s:List UInt8} (h:decS d = some s):d = .str s:=by
  cases d <;> simp only [decS] at h <;> first | (cases h; rfl) | cases h
def decY:D→Option UInt8
  | .int .u8 n=>if 0≤n∧n < 256 then some (u8 n) else none
  | _=>none
theorem decY_eq {d:D} {b:UInt8} (h:decY d = some b):d = byteD b:=by
  unfold decY at h
  split at h
  · split at h
    · rename_i hn; cases h; exact u8_eq hn
    · cases h
  · cases h
theorem decY_put (b:UInt8):decY (byteD b) = some b:=by
  have hb:=b.toNat_lt
  simp only [decY,byteD]
  rw [if_pos (by omega)]
  congr 1
  apply UInt8.toNat_inj.1
  rw [u8,Int.toNat_natCast,UInt8.toNat_ofNat']
  exact Nat.mod_eq_of_lt hb
def decM {α:Type} (f:D→Option α):List D→Option (List α)
  | []=>some []
  | d :: r=>match f d,decM f r with
    | some a,some l=>some (a :: l)
    | _,_=>none
theorem decM_eq {α:Type} {f:D→Option α} {e:α→D} (hf:∀ d a,f d = some a→d = e a):∀ {l:List D} {xs:List α},decM f l = some xs→l = xs.map e
  | [],xs,h=>by cases h; rfl
  | d :: r,xs,h=>by
    simp only [decM] at h
    split at h
    · rename_i a l h1 h2
      cases h
      rw [hf d a h1,decM_eq hf h2]; rfl
    · cases h
theorem decM_put {α:Type} {f:D→Option α} {e:α→D} (hf:∀ a,f (e a) = some a):∀ xs:List α,decM f (xs.map e) = some xs
  | []=>rfl
  | x :: r=>by simp only [List.map_cons,decM,hf,decM_put hf r]
def decL {α:Type} (f:D→Option α):D→Option (List α)
  | .sl l=>decM f l
  | _=>none
theorem decL_eq {α:Type} {f:D→Option α} {e:α→D} (hf:∀ d a,f d = some a→d = e a) {d:D} {xs:List α} (h:decL f d = some xs):d = .sl (xs.map e):=by
  cases d <;> simp only [decL] at h <;> first | (rw [decM_eq hf h]; done) | cases h
theorem decL_put {α:Type} {f:D→Option α} {e:α→D} (hf:∀ a,f (e a) = some a) (xs:List α):decL f (.sl (xs.map e)) = some xs:=decM_put hf xs
def decR (z:Nat) (d:D):Option (RT z):=if h:EncD z d then some ⟨d,h⟩ else none
theorem decR_eq {z:Nat} (d:D) (r:RT z) (h:decR z d = some r):d = rtE r:=by
  unfold decR at h
  split at h
  · cases h; rfl
  · cases h
theorem decR_put {z:Nat} (r:RT z):decR z (rtE r) = some r:=by
  unfold decR
  rw [dif_pos (show EncD z (rtE r) from r.2)]; rfl
section
variable {P:Program} {aops os:List AOper} {draw:Bool} {N k c:Nat} {l:List (Nat×AV)} {H H':AHeap} {A:List Tk} {Q:AAct→AHeap→Nat→Prop}
variable {g:Option (Nat×Bool)} {af:List Nat} {t:Nat} {α:Type} {e:α→D} {z:Nat}
end
end Go.Proofs.Abs
end
section
namespace Go.Proofs.Abs
open Go
end Go.Proofs.Abs
end
