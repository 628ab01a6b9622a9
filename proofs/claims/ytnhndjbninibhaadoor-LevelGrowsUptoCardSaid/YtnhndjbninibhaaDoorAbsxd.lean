import Derived.Test.YtnhndjbninibhaaDoorAbsxc
import Derived.Below
import Derived.Shelf.Unicode.DecodeSlow
import Derived.Lib.ValidU
import Derived.MapKept
set_option linter.unusedVariables false
set_option linter.unusedSimpArgs false
set_option linter.unusedSectionVars false
section
namespace Go.Proofs.Abs
open Go Go.RowKit
set_option maxRecDepth 100000
set_option linter.unusedVariables false
theorem gFirst_eq:∀ c:Fin 256,gFirst c.val = Lib.firstT c.val:=by decide
theorem gAcc_eq:∀ i:Fin 16,gAcc (2 * i.val) = Lib.accLo i.val∧gAcc (2 * i.val + 1) = Lib.accHi i.val:=by decide
theorem gT_tabs (hO:gOnT = true) {w:World} (h:∀ a v,gT a = some v→w.cell? a = some v):Lib.Utf8Tabs gF gA w:=by
  constructor
  · intro c hc
    rw [←gFirst_eq ⟨c,hc⟩]
    refine h _ _ ?_
    have h1:Nat.blt c 256 = true:=by rw [Nat.blt_eq]; exact hc
    simp [gT,hO,h1]
  · intro i hi
    obtain ⟨h1,h2⟩:=gAcc_eq ⟨i,hi⟩
    rw [←h1,←h2]
    have e:Nat.beq gA gF = false:=by decide
    have b1:Nat.blt (2 * i) 32 = true:=by rw [Nat.blt_eq]; omega
    have b2:Nat.blt (2 * i + 1) 32 = true:=by rw [Nat.blt_eq]; omega
    constructor
    · refine h _ _ ?_
      simp [gT,hO,e,b1]
    · refine h _ _ ?_
      simp [gT,hO,e,b2]
theorem tabs_gT {W:World} (h:Lib.Utf8Tabs gF gA W):∀ a v,gT a = some v→W.cell? a = some v:=by
  intro ⟨b,o,sp⟩ v hv
  unfold gT at hv
  cases sp with
  | some x=>simp at hv
  | none =>
    cases hO:gOnT with
    | false=>simp [hO] at hv
    | true =>
      simp only [hO,Option.isNone_none,Bool.and_self,cond_true] at hv
      cases h1:(Nat.beq b gF && Nat.blt o 256) with
      | true =>
        simp only [h1,cond_true,Option.some.injEq] at hv
        simp only [Bool.and_eq_true,Nat.blt_eq] at h1
        obtain ⟨hb,h1⟩:=h1
        obtain rfl:=Nat.eq_of_beq_eq_true hb
        rw [h.1 o h1,←hv,gFirst_eq ⟨o,h1⟩]
      | false =>
        simp only [h1,cond_false] at hv
        cases h2:(Nat.beq b gA && Nat.blt o 32) with
        | false=>simp [h2] at hv
        | true =>
          simp only [h2,cond_true,Option.some.injEq] at hv
          simp only [Bool.and_eq_true,Nat.blt_eq] at h2
          obtain ⟨hb,h2⟩:=h2
          obtain rfl:=Nat.eq_of_beq_eq_true hb
          obtain ⟨e1,e2⟩:=gAcc_eq ⟨o / 2,by omega⟩
          obtain ⟨t1,t2⟩:=h.2 (o / 2) (by omega)
          simp only at e1 e2
          rw [←hv]
          rcases Nat.mod_two_eq_zero_or_one o with ho | ho
          · rw [show 2 * (o / 2) = o by omega] at e1 t1
            rw [t1,e1]
          · rw [show 2 * (o / 2) + 1 = o by omega] at e2 t2
            rw [t2,e2]
theorem cell_lt {w:World} {a:Addr} {v:Value} (h:w.cell? a = some v):a.block < w.heap.size:=by
  apply Classical.byContradiction
  intro hn
  have:w.heap[a.block]? = none:=by simp; omega
  simp [World.cell?,this] at h
theorem below_post {S:Seal} {i:Emb} {w w':World} {r:AV} {v:Value} (hv:V S i r v) (hh:HeapRel S i [] w) (b:Below w.heap.size w w'):Post S i [] w r [] v w':=by
  refine ⟨S,i,hv,?_,fun _ _ hb=>hb,?_,fun l b hb=>.inl hb⟩
  · refine ⟨fun a v h=>?_,fun k n h=>?_,fun l o h=>(List.not_mem_nil h).elim,fun l o l' o' b h=>(List.not_mem_nil h).elim,fun l k h=>Nat.lt_of_lt_of_le (hh.dom l k h) b.size,hh.gr⟩
    · have hc:=hh.cell a v h
      rw [b.cell (cell_lt hc)]
      exact hc
    · obtain ⟨c,e,f,hc,hs⟩:=hh.size k n h
      refine ⟨c,e,f,?_,hs⟩
      rw [b.block k (by
        apply Classical.byContradiction
        intro hn
        have:w.heap[k]? = none:=by simp; omega
        rw [this] at hc
        cases hc)]
      exact hc
  · exact ⟨.refl S,b.size,fun k hk _=>b.block k hk,fun _ _ h=>.inl h,fun _ _ h=>.inl h,fun k h=>by obtain ⟨l,o,h,_⟩:=h; exact (List.not_mem_nil h).elim,b.os,b.output,b.tape⟩
def u8I (l:List UInt8):Int×Int:=(((Lib.decodeGo ⟨l.toArray⟩).1:Int),((Lib.decodeGo ⟨l.toArray⟩).2:Int))
def DecB (P:Program) (f:FuncId):Prop :=
  gOnT = true∧(∃ fn,P.funcs[f]? = some fn∧(fn.name == "runtime.NumGoroutine") = false∧fn.body.isSome = true) ∧
  ∀ (s:ByteArray) (w:World),Lib.Utf8Tabs gF gA w→Calls P f #[.string s] w fun e w'=>e = .returned (.tuple #[.int .i32 (Lib.decodeGo s).1,.int .i64 (Lib.decodeGo s).2])∧Below w.heap.size w w'
theorem decB_calls {P:Program} {f:FuncId} (h:DecB P f) (s:List UInt8) :
    ACalls P f [.d (.str s)] [] (.tup [.d (.int .i32 (u8I s).1),.d (.int .i64 (u8I s).2)]) []:=by
  refine ⟨h.2.1,fun S i w vs hl hv hh _=>?_⟩
  match vs,hl,hv with
  | [v0],_,hv =>
    have h0:=hv 0 (by simp) (by simp)
    simp only [List.getElem_cons_zero] at h0
    cases h0 with
    | d h0 =>
      cases h0
      refine (h.2.2 _ w (gT_tabs h.1 fun a v ha=>hh.cell a v (hh.gr a v ha))).mono fun e w' hh'=>?_
      obtain ⟨he,b⟩:=hh'
      refine ⟨_,he,below_post ?_ hh b⟩
      refine .tup (vs:=[_,_]) rfl fun j h1 h2=>?_
      match j with
      | 0=>exact .d .int
      | 1=>exact .d .int
def ValB (P:Program) (f:FuncId):Prop :=
  gOnT = true∧(∃ fn,P.funcs[f]? = some fn∧(fn.name == "runtime.NumGoroutine") = false∧fn.body.isSome = true) ∧
  ∀ (s:ByteArray) (w:World),s.size≤9223372036854775807→Lib.Utf8Tabs gF gA w→Calls P f #[.string s] w fun e w'=>e = .returned (.bool (Lib.validD s.data.toList))∧Below w.heap.size w w'
theorem valB_calls {P:Program} {f:FuncId} (h:ValB P f) (s:List UInt8) (hs:s.length≤9223372036854775807) :
    ACalls P f [.d (.str s)] [] (.d (.bool (Lib.validD s))) []:=by
  refine ⟨h.2.1,fun S i w vs hl hv hh _=>?_⟩
  match vs,hl,hv with
  | [v0],_,hv =>
    have h0:=hv 0 (by simp) (by simp)
    simp only [List.getElem_cons_zero] at h0
    cases h0 with
    | d h0 =>
      cases h0
      refine (h.2.2 _ w (by simpa [ByteArray.size] using hs) (gT_tabs h.1 fun a v ha=>hh.cell a v (hh.gr a v ha))).mono fun e w' hh'=>?_
      obtain ⟨he,b⟩:=hh'
      exact ⟨_,he,below_post (.d .bool) hh b⟩
end Go.Proofs.Abs
end
section
namespace Go.Proofs.Abs
open Go
set_option linter.unusedVariables false
structure RdU (P:Program) (t:TypeId) {α:Type} (e:α→D) (wf:α→Prop) (sz:α→Nat) (N:Nat):Prop where
  read:∀ {H:Type} {enc:TypeId×Value→H} {W:World} {fuel:Nat} {cs:List Value} {x:DataW H×List MemPlace},fuel < N→DataW.trod enc P W 0 (fun _=>true) true fuel t cs = some x →
    ∃ a:α,wf a∧sz a≤bulk x.1∧(e a).cells.length = cs.length∧∀ j (h1:j < (e a).cells.length) (h2:j < cs.length),DV (sealOf W) (e a).cells[j] cs[j]
section
variable {P:Program} {t:TypeId}
structure RdFU (P:Program) (fs:List Field) (off:Nat) {β:Type} (ec:β→List D) (wf:β→Prop) (sz:β→Nat) (N:Nat):Prop where
  read:∀ {H:Type} {enc:TypeId×Value→H} {W:World} {n:Nat} {cs:List Value} {xs:List (DataW H×List MemPlace)},n < N→xs.length = fs.length →
    (∀ (i:Nat) (f:Field),fs[i]? = some f→DataW.trod enc P W 0 (fun _=>true) true n f.type ((cs.drop f.offset).take (P.cellsOf f.type)) = xs[i]?) →
    ∃ b:β,wf b∧sz b≤bulkAll (xs.map (·.1))∧∀ j (h1:j < (ec b).length),∃ v,cs[off + j]? = some v∧DV (sealOf W) (ec b)[j] v
end
def D.bk:D→Nat
  | .str s=>s.length + 1
  | .sl l=>bkL l + 1
  | .agg l=>bkL l + 1
  | _=>1
where bkL:List D→Nat
  | []=>0
  | d :: r=>D.bk d + bkL r
theorem bkL_sum:∀ l:List D,D.bk.bkL l = (l.map D.bk).sum
  | []=>rfl
  | d :: r=>by
    rw [D.bk.bkL,bkL_sum r]
    rfl
end Go.Proofs.Abs
end
section
namespace Go.Proofs.Abs
open Go
set_option linter.unusedVariables false
abbrev MM:=List (List UInt8×Int)
def mpL (m:MM):List (D×D):=m.map fun e=>(.str e.1,.int .i64 e.2)
def isMapO:AOp→Bool
  | .mkmap=>true
  | .mget ..=>true
  | .mset ..=>true
  | _=>false
section
variable {P:Program}
theorem map_inv {op:Op} (h:isMapO (compOp P op) = true):(∃ t,op = .makeMap t none)∨(∃ t x i,op = .lookup t x i true)∨∃ t x k v,op = .mapUpdate t x k v:=by
  cases op with
  | makeMap t r=>cases r with
    | none=>exact .inl ⟨t,rfl⟩
    | some r=>simp [compOp,isMapO] at h
  | lookup t x i ok=>cases ok with
    | true=>exact .inr (.inl ⟨t,x,i,rfl⟩)
    | false =>
      simp only [compOp] at h
      repeat' split at h
      all_goals first | contradiction | simp [isMapO] at h
  | mapUpdate t x k v=>exact .inr (.inr ⟨t,x,k,v,rfl⟩)
  | call c =>
    exfalso
    rcases compCall_inv (P:=P) (c:=c) with hb | hk
    · simp only [compOp] at h
      rw [hb] at h
      cases h
    · simp only [compOp] at h
      generalize compCall P c = z at h hk
      cases z <;> first | (simp [isMapO] at h; done) | (simp at hk; done) | (cases hk)
  | makeFunc fn first caps =>
    exfalso
    cases fn with
    | func f =>
      simp only [compOp] at h
      repeat' split at h
      all_goals simp [isMapO] at h
    | _=>simp [compOp,isMapO] at h
  | _ =>
    exfalso
    unfold compOp at h
    simp only [compBin,compConv,szK,sbK,aggK] at h
    repeat' split at h
    all_goals first | (simp [isMapO] at h; done) | skip
def EsOf (m:MM) (l:List MapEntry):Prop:=l.map (fun e=>(e.key,e.val)) = m.map fun e=>(Value.string ⟨e.1.toArray⟩,Value.int .i64 e.2)
theorem es_obj {S:Seal} {i:Emb} {w:World} {b k:Nat} {c:Array MapEntry} {m:MM} (hc:w.heap[b]? = some (.map c k)) (he:EsOf m c.toList) (hf:∀ a:Addr,a.block = b→S.cell a = none):ObjRel S i w b (.mp (mpL m)):=by
  have hl:c.size = m.length:=by
    have:=congrArg List.length he
    simpa using this
  refine ⟨c,k,hc,by simp [mpL,hl],fun j h1 h2=>?_,hf⟩
  have hj:j < m.length:=by omega
  have:=List.getElem_of_eq he (i:=j) (by simpa using h2)
  simp only [List.getElem_map,Prod.mk.injEq,Array.getElem_toList] at this
  simp only [mpL,List.getElem_map]
  rw [this.1,this.2]
  exact ⟨.str,.int⟩
theorem post_newmap {S:Seal} {i:Emb} {w:World} {nl:Nat} (hh:HeapRel S i [] w) (hf:i nl = none) :
    Post S i [] w (.mp nl) [(nl,.mp (mpL []))] (.map (some w.heap.size)) (w.alloc (.map #[] 0)):=by
  have hold:∀ b,b < w.heap.size→(w.alloc (.map #[] 0)).heap[b]? = w.heap[b]?:=fun b hb=>by
    show (w.heap.push _)[b]? = _
    rw [Array.getElem?_push,if_neg (by omega)]
  have hnew:(w.alloc (.map #[] 0)).heap[w.heap.size]? = some (.map #[] 0):=by
    show (w.heap.push _)[w.heap.size]? = _
    simp
  have hsize:(w.alloc (.map #[] 0)).heap.size = w.heap.size + 1:=by simp
  have hcell:∀ a v,w.cell? a = some v→(w.alloc (.map #[] 0)).cell? a = some v:=fun a v ha=>by
    have hlt:=World.block_lt_of_cell? _ _ ha
    unfold World.cell? at *
    rw [hold _ hlt]
    exact ha
  have hle:i.le (i.set nl w.heap.size):=Emb.set_le hf
  have hset:∀ l b,i.set nl w.heap.size l = some b→(i l = some b∨(l = nl∧b = w.heap.size)):=by
    intro l b hb
    unfold Emb.set at hb
    split at hb
    · rename_i hk; cases hb; exact .inr ⟨hk,rfl⟩
    · exact .inl hb
  refine ⟨S,i.set nl w.heap.size,.mp (by simp [Emb.set]),⟨fun a v ha=>hcell a v (hh.cell a v ha),?_,?_,?_,?_,hh.gr⟩,hle,⟨.refl S,by omega,fun b hb _=>hold b hb,fun a v h=>.inl h,?_,?_,rfl,rfl,rfl⟩,?_⟩
  · intro b n hb
    obtain ⟨c',e',f,hc,hs⟩:=hh.size b n hb
    have hlt:=(Array.getElem?_eq_some_iff.1 hc).1
    exact ⟨c',e',f,by rw [hold b hlt]; exact hc,hs⟩
  · intro l o hm
    simp only [List.mem_singleton,Prod.mk.injEq] at hm
    obtain ⟨rfl,rfl⟩:=hm
    exact .inl ⟨w.heap.size,by simp [Emb.set],es_obj hnew rfl fun a ha=>hh.noSeal (by omega)⟩
  · intro l o l' o' b hm hm' _ _
    simp only [List.mem_singleton,Prod.mk.injEq] at hm hm'
    rw [hm.1,hm'.1]
  · intro l b hb
    rcases hset l b hb with hb | ⟨_,hb⟩
    · have:=hh.dom l b hb; omega
    · omega
  · intro l b hb
    rcases hset l b hb with hb | ⟨_,hb⟩
    · exact .inl hb
    · exact .inr (.inr (by omega))
  · rintro b ⟨l,o,hm,hb⟩
    simp only [List.mem_singleton,Prod.mk.injEq] at hm
    rcases hset l b hb with hb | ⟨_,hb⟩
    · rw [hm.1,hf] at hb; cases hb
    · exact .inr (by omega)
  · intro l b hb
    rcases hset l b hb with hb | ⟨h1,_⟩
    · exact .inl hb
    · exact .inr ⟨by simp [AHeap.keys,h1],by simp [AHeap.keys]⟩
theorem AOpT.mkmap {u:List (Nat×AV)} {l:Nat}:AOpT P .mkmap u [] (.mp l) [(l,.mp (mpL []))]:=by
  refine ⟨fun y hy h=>by rw [hy] at h; exact absurd h (by simp),fun o ho=>?_⟩
  rcases map_inv (by rw [ho]; rfl) with ⟨t,hop⟩ | ⟨t,x,i,hop⟩ | ⟨t,x,k,v,hop⟩
  · refine ⟨by simp [hop],fun S i w ρ hev hh hf=>?_⟩
    have hrun:(execOp ρ o).run P w = .ok (.value (.map (some w.heap.size))) (w.alloc (.map #[] 0)):=by
      simp only [execOp,hop,Instr.makeMap,Option.map_none,Sem.run_bind,Result.andThen_ok,run_newObj,Sem.run_pure]
      rfl
    rw [hrun]
    exact post_newmap hh (hf l (by simp [AHeap.keys]) (by simp [AHeap.keys]))
  · rw [hop] at ho
    simp only [compOp] at ho
    repeat' (first | cases ho | split at ho)
  · rw [hop] at ho
    simp only [compOp] at ho
    repeat' (first | cases ho | split at ho)
end
section
variable {P:Program} {aops os:List AOper} {draw:Bool} {N k c:Nat} {l:List (Nat×AV)} {H H':AHeap} {A:List Tk} {Q:AAct→AHeap→Nat→Prop} {gd:Option (Nat×Bool)} {af:List Nat} {t l0:Nat} {x y v:Arg} {m:MM} {s:List UInt8} {n:Int}
end
end Go.Proofs.Abs
end
section
namespace Go.Proofs.Abs
open Go
set_option linter.unusedVariables false
section
variable {P:Program} {args:List (Nat×AV)} {o:Oper}
end
section
variable {P:Program} {aops os:List AOper} {draw:Bool} {N k c:Nat} {l:List (Nat×AV)} {H:AHeap} {A:List Tk} {Q:AAct→AHeap→Nat→Prop} {gd:Option (Nat×Bool)} {af:List Nat} {t:Nat}
end
end Go.Proofs.Abs
end
section
namespace Go.Proofs.Abs
open Go
set_option linter.unusedVariables false
set_option linter.unusedSectionVars false
set_option linter.unusedSimpArgs false
def QC (S:Seal) (i:Emb) (f z:Nat) (vs:List Value) (sp:List (Nat×AV)) (ds:List D) (c:Array Value):Prop :=
  ds.length≤c.size∧(∀ j (h:j < ds.length) (h':j < c.size),DV S ds[j] c[j])∧(∀ j (h:j < vs.length),c[j]? = some vs[j])∧(∀ x∈sp,V S i x.2 (c.getD x.1 undef))∧∀ j (h:j < ds.length) (h':j < c.size),j % z = f→ds[j] = .sl []→c[j] = .slice none 0 0
theorem qc_obj {S:Seal} {i:Emb} {w:World} {b f z:Nat} {vs:List Value} {sp:List (Nat×AV)} {ds:List D}:ObjRel S i w b (.rowQ f z vs sp ds)↔∃ c e,w.heap[b]? = some (.cells c e (0,0))∧QC S i f z vs sp ds c∧∀ a:Addr,a.block = b→S.cell a = none:=by
  constructor
  · rintro ⟨c,e,h0,h1,h2,h3,h4,h5,h6⟩
    exact ⟨c,e,h0,⟨h1,h2,h3,h4,h5⟩,h6⟩
  · rintro ⟨c,e,h0,⟨h1,h2,h3,h4,h5⟩,h6⟩
    exact ⟨c,e,h0,h1,h2,h3,h4,h5,h6⟩
section
variable {P:Program}
theorem AOpT.rowQ {ao:AOp} {A:List (Nat×AV)} {r':AV} {l0 f z:Nat} {vs:List Value} {sp sp':List (Nat×AV)} {ds ds':List D} (hne:ds≠[])
    (h:∀ C:List Value,ds.length≤C.length→∃ r L',AOpT P ao A [(l0,.cells (C.map .lit))] r [(l0,.cells L')]∧L'.length = C.length ∧
      ∀ S i S' i' v (c':Array Value),S.le S'→i.le i'→QC S i f z vs sp ds C.toArray→V S' i' r v→c'.size = C.length→(∀ j (h1:j < L'.length) (h2:j < c'.size),V S' i' L'[j] c'[j])→V S' i' r' v∧QC S' i' f z vs sp' ds' c') :
    AOpT P ao A [(l0,.rowQ f z vs sp ds)] r' [(l0,.rowQ f z vs sp' ds')]:=by
  obtain ⟨r0,L0,h0,_⟩:=h (List.replicate ds.length undef) (by simp)
  refine ⟨h0.1,fun o ho=>⟨(h0.2 o ho).1,fun S i w ρ hev hh hf=>?_⟩⟩
  rcases hh.obj _ _ List.mem_cons_self with ⟨b,hb,hrel⟩ | ⟨_,hz⟩
  case inr=>exact absurd hz.2.2 hne
  obtain ⟨c,e,hc,hq,hns⟩:=qc_obj.1 hrel
  obtain ⟨r,L',h1,h2,h3⟩:=h c.toList (by simpa using hq.1)
  have hh':HeapRel S i [(l0,.cells (c.toList.map .lit))] w:=by
    refine ⟨hh.cell,hh.size,fun l o hm=>?_,fun l o l' o' b x y _ _=>?_,hh.dom,hh.gr⟩
    · cases List.mem_singleton.1 hm
      refine .inl ⟨b,hb,c,e,hc,by simp,fun j k1 k2=>?_,hns⟩
      simp only [List.getElem_map,Array.getElem_toList]
      exact .lit
    · cases List.mem_singleton.1 x; cases List.mem_singleton.1 y; rfl
  refine ((h1.2 o ho).2 S i w ρ hev hh' hf).mono fun v w' hp=>?_
  obtain ⟨S',i',p1,p2,p3,p4,p5⟩:=hp
  have hb1:∀ {k:Emb} {b:Nat} {p q:AObj},blk k [(l0,p)] b→blk k [(l0,q)] b:=by
    rintro k b p q ⟨l,o,hm,hk⟩
    cases List.mem_singleton.1 hm
    exact ⟨l0,q,List.mem_singleton.2 rfl,hk⟩
  rcases p2.obj _ _ List.mem_cons_self with ⟨b',hb',c',e',hc',hs',hv',hns'⟩ | ⟨_,hz⟩
  case inr=>exact hz.elim
  obtain ⟨q1,q2⟩:=h3 S i S' i' v c' p4.up p3 (by simpa using hq) p1 (by rw [hs',h2]) hv'
  refine ⟨S',i',q1,⟨p2.cell,p2.size,fun l o hm=>?_,fun l o l' o' b x y _ _=>?_,p2.dom,p2.gr⟩,p3,⟨p4.up,p4.grow,fun b hb hx=>p4.old b hb fun h=>hx (hb1 h),fun a v h=>(p4.newSeal a v h).imp id (Or.imp hb1 id),fun l b h=>(p4.newEmb l b h).imp id (Or.imp hb1 id),
    fun b h=>(p4.sub b (hb1 h)).imp hb1 id,p4.os,p4.out,p4.tape⟩,p5⟩
  · cases List.mem_singleton.1 hm
    exact .inl ⟨b',hb',qc_obj.2 ⟨c',e',hc',q2,hns'⟩⟩
  · cases List.mem_singleton.1 x; cases List.mem_singleton.1 y; rfl
theorem vLit {S:Seal} {i:Emb} {u v:Value} (h:V S i (.lit u) v):v = u:=by cases h; rfl
theorem QC.keep {S S':Seal} {i i':Emb} {f z:Nat} {vs:List Value} {sp:List (Nat×AV)} {ds:List D} {C:List Value} {c':Array Value} (hle:S.le S') (hi:i.le i') (h:QC S i f z vs sp ds C.toArray) (hs:c'.size = C.length)
    (hv:∀ j (h1:j < (C.map AV.lit).length) (h2:j < c'.size),V S' i' (C.map AV.lit)[j] c'[j]):QC S' i' f z vs sp ds c':=by
  have e:c' = C.toArray:=by
    refine Array.ext (by simpa using hs) fun j h1 h2=>?_
    have:=hv j (by simpa using h2) h1
    rw [List.getElem_map] at this
    simpa using vLit this
  subst e
  obtain ⟨h1,h2,h3,h4,h5⟩:=h
  exact ⟨h1,fun j a b=>(h2 j a b).mono hle,h3,fun x hx=>(h4 x hx).mono hle hi,h5⟩
theorem lit_drop {C:List Value} {off:Nat} (h:off < C.length):∃ R,(C.map AV.lit).drop off = .lit (C.getD off undef) :: R:=by
  refine ⟨(C.map AV.lit).drop (off + 1),?_⟩
  rw [List.drop_eq_getElem_cons (by simpa using h),List.getElem_map]
  simp [h]
theorem AOpT.ldQ {A:List (Nat×AV)} {x:Arg} {r':AV} {l0 f z off:Nat} {vs:List Value} {sp:List (Nat×AV)} {ds:List D} (hx:evA A x = some (.ptr l0 off)) (ho:off < ds.length)
    (hr:(∃ dd,ds[off]? = some dd∧r' = .d dd)∨(off,r')∈sp):AOpT P (.load x 1 false) A [(l0,.rowQ f z vs sp ds)] r' [(l0,.rowQ f z vs sp ds)]:=by
  refine AOpT.rowQ (fun h=>by subst h; cases ho) fun C hC=>⟨.lit (C.getD off undef),C.map .lit,?_,by simp,fun S i S' i' v c' hle hi hq hv hs hc=>⟨?_,hq.keep hle hi hs hc⟩⟩
  · obtain ⟨R,hR⟩:=lit_drop (C:=C) (off:=off) (by omega)
    exact evOp_ok (own:=false) (nl:=0) (H:=[(l0,.cells (C.map .lit))]) (q:=⟨_,_,_,True⟩) (by simp only [evOp,hx,Option.bind_some,loadA,lk1,hR,cond_false]) trivial
  · have hv:=vLit hv
    subst hv
    obtain ⟨h1,h2,h3,h4,h5⟩:=hq
    have hlt:off < C.length:=by simpa using Nat.lt_of_lt_of_le ho h1
    rcases hr with ⟨dd,hdd,rfl⟩ | hr
    · have:=(h2 off ho (by simpa using hlt)).mono hle
      rw [List.getElem?_eq_getElem ho] at hdd
      cases hdd
      refine .d ?_
      simpa [hlt,List.getD] using this
    · have:=(h4 _ hr).mono hle hi
      simpa [hlt,List.getD] using this
theorem upd1:∀ (L:List AV) (n:Nat) (w:AV) (j:Nat) (h1:j < (upd L n [w]).length) (h2:j < L.length),n < L.length→(upd L n [w])[j] = if j = n then w else L[j]:=by
  intro L n w j h1 h2 hn
  obtain ⟨A,x,B,rfl,rfl⟩:∃ A x B,L = A ++ x :: B∧n = A.length:=⟨L.take n,L[n],L.drop (n + 1),(List.take_append_drop n L).symm.trans (by rw [List.drop_eq_getElem_cons hn]),by rw [List.length_take]; omega⟩
  have e:upd (A ++ x :: B) A.length [w] = A ++ w :: B:=by
    have h:=upd_pre A (x :: B) [w] 0
    rw [Nat.add_zero] at h
    rw [h]
    simp only [upd,upd_nil]
  simp only [e]
  by_cases hj:j < A.length
  · rw [if_neg (by omega),List.getElem_append_left hj,List.getElem_append_left hj]
  · by_cases he:j = A.length
    · subst he; simp
    · obtain ⟨k,rfl⟩:∃ k,j = A.length + (k + 1):=⟨j - A.length - 1,by omega⟩
      have e2:A.length + (k + 1) - A.length = k + 1:=by omega
      rw [if_neg he,List.getElem_append_right (by omega),List.getElem_append_right (by omega)]
      simp only [e2,List.getElem_cons_succ]
theorem upd1_len (L:List AV) (n:Nat) (w:AV) (hn:n < L.length):(upd L n [w]).length = L.length:=(upd_at L n [w] (by simp; omega)).1
theorem AOpT.stQ {A:List (Nat×AV)} {x y:Arg} {w:AV} {d:D} {l0 f z off:Nat} {vs:List Value} {sp sp':List (Nat×AV)} {ds:List D} (hx:evA A x = some (.ptr l0 off)) (hy:evA A y = some w) (hw:w.scalar = true) (hw':cellsAV w = some [w]) (hs:Sub w (.d d))
    (h0:vs.length≤off) (ho:off < ds.length) (hn:off % z = f→d≠.sl []) (hsp:∀ p∈sp',(p.1 = off∧p.2 = w)∨(p∈sp∧p.1≠off)) :
    AOpT P (.store x y 1) A [(l0,.rowQ f z vs sp ds)] .any [(l0,.rowQ f z vs sp' (ds.set off d))]:=by
  refine AOpT.rowQ (fun h=>by subst h; cases ho) fun C hC=>⟨.any,upd (C.map .lit) off [w],?_,by rw [upd1_len _ _ _ (by simp; omega)]; simp,fun S i S' i' v c' hle hi hq hv hsz hc=>⟨.any,?_⟩⟩
  · exact evOp_ok (own:=false) (nl:=0) (H:=[(l0,.cells (C.map .lit))]) (q:=⟨_,_,_,[w].length = 1∧off + 1≤(C.map AV.lit).length∧[w].all AV.scalar = true⟩)
      (by simp only [evOp,hx,hy,Option.bind_some,hw',lk1]) ⟨rfl,by simp; omega,by simp [hw]⟩
  · obtain ⟨h1,h2,h3,h4,h5⟩:=hq
    have h1:ds.length≤C.length:=by simpa using h1
    have hlen:(upd (C.map AV.lit) off [w]).length = C.length:=by rw [upd1_len _ _ _ (by simp; omega)]; simp
    have key:∀ j (q1:j < c'.size) (q2:j < C.length),j≠off→c'[j] = C[j]:=by
      intro j q1 q2 hj
      have:=hc j (by omega) q1
      rw [upd1 _ _ _ _ (by omega) (by simpa using q2) (by simp; omega),if_neg hj,List.getElem_map] at this
      exact vLit this
    have hat:∀ (q1:off < c'.size),V S' i' w c'[off]:=by
      intro q1
      have:=hc off (by omega) q1
      rwa [upd1 _ _ _ _ (by omega) (by simp; omega) (by simp; omega),if_pos rfl] at this
    refine ⟨by rw [List.length_set]; omega,fun j a b=>?_,fun j a=>?_,fun p hp=>?_,fun j a b hj hd=>?_⟩
    · rw [List.length_set] at a
      by_cases hj:j = off
      · subst hj
        rw [List.getElem_set_self]
        exact vD (hs _ _ _ (hat b))
      · rw [List.getElem_set_ne (by omega),key j b (by omega) hj]
        have:=(h2 j a (by simp; omega)).mono hle
        simpa using this
    · have:=h3 j a
      have hj:j < C.length:=by
        rcases Nat.lt_or_ge j C.length with h | h
        · exact h
        · simp [h] at this
      rw [Array.getElem?_eq_getElem (by omega),key j (by omega) hj (by omega)]
      simpa [hj] using this
    · rcases hsp p hp with ⟨e1,e2⟩ | ⟨e1,e2⟩
      · rw [e1,e2]
        have:=hat (by omega)
        have hlt:off < c'.size:=by omega
        simpa [hlt] using this
      · have:=(h4 p e1).mono hle hi
        by_cases hlt:p.1 < C.length
        · have h6:p.1 < c'.size:=by omega
          have h7:=key p.1 h6 hlt e2
          simp only [Array.getD,h6,hlt,List.size_toArray,dif_pos] at this ⊢
          rw [show c'.getInternal p.1 h6 = c'[p.1] from rfl,h7]
          exact this
        · have h6:¬ p.1 < c'.size:=by omega
          simp only [Array.getD,h6,hlt,List.size_toArray,dif_neg,not_false_eq_true] at this ⊢
          exact this
    · rw [List.length_set] at a
      by_cases hjo:j = off
      · subst hjo
        rw [List.getElem_set_self] at hd
        exact absurd hd (hn hj)
      · rw [List.getElem_set_ne (by omega)] at hd
        rw [key j b (by omega) hjo]
        have:=h5 j a (by simp; omega) hj hd
        simpa using this
theorem QC.mono {S S':Seal} {i i':Emb} {f z:Nat} {vs:List Value} {sp:List (Nat×AV)} {ds:List D} {c:Array Value} (h:QC S i f z vs sp ds c) (hle:S.le S') (hi:i.le i'):QC S' i' f z vs sp ds c:=by
  obtain ⟨h1,h2,h3,h4,h5⟩:=h
  exact ⟨h1,fun j a b=>(h2 j a b).mono hle,h3,fun x hx=>(h4 x hx).mono hle hi,h5⟩
theorem post_rowQ {S:Seal} {i:Emb} {w w':World} {c:Array Value} {e:TypeId} {nl z n cap f:Nat} {vs:List Value} {sp:List (Nat×AV)} {ds:List D} (hh:HeapRel S i [] w) (hn:NewBlk w w' c e (0,0)) (hf:i nl = none)
    (hq:QC S i f z vs sp ds c) (hcap:cap * z≤c.size) (hnc:n≤cap):Post S i [] w (.row nl z n) [(nl,.rowQ f z vs sp ds)] (.slice (some ⟨w.heap.size,0,none⟩) n cap) w':=by
  obtain ⟨S',i',p1,p2,p3,p4,p5⟩:=post_row (ds:=[]) hh hn hf (by simp) (fun j h=>by simp at h) hcap hnc
  have hb0:i' nl = some w.heap.size:=by
    cases p1 with
    | row h _ _ _=>exact h
  refine ⟨S',i',p1,⟨p2.cell,p2.size,fun l o hm=>?_,fun l o l' o' b x y _ _=>?_,p2.dom,p2.gr⟩,p3,⟨p4.up,p4.grow,p4.old,p4.newSeal,p4.newEmb,fun b ⟨l,o,hm,hb⟩=>?_,p4.os,p4.out,p4.tape⟩,p5⟩
  · cases List.mem_singleton.1 hm
    rcases p2.obj nl _ List.mem_cons_self with ⟨b',hb',c',e',hc',_,_,hns⟩ | ⟨h,_⟩
    case inr=>rw [hb0] at h; cases h
    rw [hb0] at hb'; cases hb'
    have:=hn.new
    rw [hc'] at this
    cases this
    exact .inl ⟨_,hb0,qc_obj.2 ⟨c,e,hc',hq.mono p4.up p3,hns⟩⟩
  · cases List.mem_singleton.1 x; cases List.mem_singleton.1 y; rfl
  · cases List.mem_singleton.1 hm
    exact p4.sub b ⟨nl,_,List.mem_singleton.2 rfl,hb⟩
theorem post_roomQ {S:Seal} {i:Emb} {w:World} {l nl b z n cap m f:Nat} {c c':Array Value} {e:TypeId} {o:AObj} {vs:List Value} {sp:List (Nat×AV)} {ds:List D} (hh:HeapRel S i [(l,o)] w) (hi:i l = some b) (hc:w.heap[b]? = some (.cells c e (0,0)))
    (hns:∀ a:Addr,a.block = b→S.cell a = none) (hsz:c'.size = c.size) (hf:i nl = none) (hne:nl≠l) (hq:QC S i f z vs sp ds c')
    (hm:S.size b = some m) (hcap:cap * z≤m) (hn:n≤cap):Post S i [(l,o)] w (.row nl z n) [(nl,.rowQ f z vs sp ds)] (.slice (some ⟨b,0,none⟩) n cap) (w.setRow b c'):=by
  obtain ⟨S',i',p1,p2,p3,p4,p5⟩:=post_roomR (ds:=[]) hh hi hc hns hsz hf hne (by simp) (fun j h=>by simp at h) hm hcap hn
  have hb0:i' nl = some b:=by
    cases p1 with
    | row h _ _ _=>exact h
  have hnew:=setRow_heap w b c c' e (0,0) hc
  refine ⟨S',i',p1,⟨p2.cell,p2.size,fun l o hm=>?_,fun l o l' o' b x y _ _=>?_,p2.dom,p2.gr⟩,p3,⟨p4.up,p4.grow,p4.old,p4.newSeal,p4.newEmb,fun b ⟨l,o,hm,hb⟩=>?_,p4.os,p4.out,p4.tape⟩,p5⟩
  · cases List.mem_singleton.1 hm
    rcases p2.obj nl _ List.mem_cons_self with ⟨b',hb',c1,e1,hc1,_,_,hns1⟩ | ⟨h,_⟩
    case inr=>rw [hb0] at h; cases h
    rw [hb0] at hb'; cases hb'
    rw [hnew] at hc1
    cases hc1
    exact .inl ⟨_,hb0,qc_obj.2 ⟨c',e,hnew,hq.mono p4.up p3,hns1⟩⟩
  · cases List.mem_singleton.1 x; cases List.mem_singleton.1 y; rfl
  · cases List.mem_singleton.1 hm
    exact p4.sub b ⟨nl,_,List.mem_singleton.2 rfl,hb⟩
theorem src_cells {w:World} {b n cap z:Nat} {c:Array Value} {et:TypeId} (hc:w.heap[b]? = some (.cells c et (0,0))) (hn:n * z≤c.size) (w':World) (hw:∀ a,w'.cell? a = w.cell? a) :
    (Builtin.lenOf (.slice (some ⟨b,0,none⟩) n cap)).run P w' = .ok n w'∧(Builtin.firstCells z n (.slice (some ⟨b,0,none⟩) n cap)).run P w' = .ok (c.toList.take (n * z)).toArray w':=by
  refine ⟨rfl,?_⟩
  have e:c.toList.take (n * z) = (List.range (n * z)).map fun k=>c.getD k undef:=by
    refine List.ext_getElem (by simp; omega) fun k h1 h2=>?_
    have:k < c.size:=by simp at h2; omega
    simp [this]
  rw [e]
  simp only [Builtin.firstCells]
  refine run_loadCells w' _ (n * z) (fun k=>c.getD k undef) fun k hk=>?_
  rw [addr_add,hw]
  have h6:k < c.size:=by omega
  unfold World.cell?
  simp only [hc]
  simp [h6]
theorem Post.upH {S:Seal} {i:Emb} {H G H':AHeap} {w w':World} {r:AV} {v:Value} (h:Post S i H w r H' v w') (hs:∀ x,x∈H→x∈G) (hd:∀ l∈H'.keys,l ∉ G.keys):Post S i G w r H' v w':=by
  obtain ⟨S',i',hv,hh,hle,ht,hn⟩:=h
  refine ⟨S',i',hv,hh,hle,ht.perm hs (fun x hx=>hx),fun l b hb=>?_⟩
  rcases hn l b hb with h | h
  · exact .inl h
  · exact .inr ⟨h.1,hd l h.1⟩
theorem AOpT.appQ {A:List (Nat×AV)} {x y:Arg} {by' nl l0 l1 n z f:Nat} {zz:List D} {vs:List Value} {sp:List (Nat×AV)} {ds dd:List D} {L:List AV} (hx:evA A x = some (.row l0 z n)) (hy:evA A y = some (.sl l1 0 1 1 z)) (hn:ds.length = n * z) (hL:L.length = z)
    (hdl:dd.length = z) (hLd:∀ j (h1:j < L.length) (h2:j < dd.length),Sub L[j] (.d dd[j])∧dd[j].isAgg = false) (hf:f < z) (hnil:∀ j (h1:j < L.length) (h2:j < dd.length),j = f→dd[j] = .sl []→L[j] = .nils) (hvs:vs.length≤ds.length) (hsp:∀ p∈sp,p.1 < ds.length)
    (hne:nl≠l0) (hne1:nl≠l1) (hzl:zz.length = z) (hby:0 < by') (hfit:(n + 1) * 2 * by'≤281474976710656) :
    AOpT P (.app x y z by' zz) A [(l0,.rowQ f z vs sp ds),(l1,.cells L)] (.row nl z (n + 1)) [(nl,.rowQ f z vs sp (ds ++ dd))]:=by
  refine ⟨fun w hw hb=>(by subst hw; cases hb),fun o hao=>?_⟩
  obtain ⟨c,hop,hk⟩:=compOp_app hao
  cases hk with
  | app hc ha hxa hya ht hu hu2 hz hj =>
    rename_i x0 y0 t u ee ts j
    obtain ⟨j',z0,hj',hz0,hcz⟩:=zeroA_inv hz
    rw [hj] at hj'
    cases hj'
    have hzz:zz.length = z0.cells.size:=by simpa using (constDs_at hcz).1
    have hut:=und_some hu (by simp)
    obtain ⟨d,hd,huu⟩:∃ d,((∃ e',d = .slice e')∨d = .string)∧P.underlying u = some d:=by
      rcases hu2 with ⟨e',h⟩ | h
      · exact ⟨_,.inl ⟨e',rfl⟩,und_some h (by simp)⟩
      · exact ⟨_,.inr rfl,und_some h (by simp)⟩
    have h0:c.argTypes[0]? = some t:=arr0 ht
    have h1:c.argTypes[1]? = some u:=by rw [←Array.getElem?_toList,ht]; rfl
    refine ⟨by simp [hop],fun S i w ρ hev hh hfr=>?_⟩
    have hkeys:∀ l∈AHeap.keys [(nl,AObj.rowQ f j.size vs sp (ds ++ dd))],l ∉ AHeap.keys [(l0,AObj.rowQ f j.size vs sp ds),(l1,AObj.cells L)]:=fun l hl hm=>by
      obtain rfl:l = nl:=by simpa [AHeap.keys] using hl
      have hm:l = l0∨l = l1:=by simpa [AHeap.keys] using hm
      rcases hm with h | h
      · exact hne h
      · exact hne1 h
    have hfn:i nl = none:=hfr nl (by simp [AHeap.keys]) (hkeys nl (by simp [AHeap.keys]))
    have hhe:HeapRel S i [] w:=hh.perm fun x hx=>by cases hx
    have hh0:HeapRel S i [(l0,.rowQ f j.size vs sp ds)] w:=hh.perm fun x hx=>by cases List.mem_singleton.1 hx; exact List.mem_cons_self
    have hvx:=argV hev hxa hx
    have hvy:=argV hev hya hy
    have hexec:(execOp ρ o).run P w = ((Builtin.append_ c.argTypes o.type #[ρ x0,ρ y0]).run P w).andThen fun v w'=>.ok (.value v) w':=by
      simp only [execOp,hop,resolve,hc,arr2 ha,List.map_toArray,List.map_cons,List.map_nil,Sem.run_bind,Sem.run_pure,Result.andThen_ok,invoke,builtin]
    generalize hxv:ρ x0 = vx at hvx
    generalize hyv:ρ y0 = vy at hvy
    rw [hexec,hxv,hyv]
    -- what is appended
    cases hvy with
    | sl hi1 =>
    rename_i b1
    rcases hh.obj l1 _ (List.mem_cons_of_mem _ List.mem_cons_self) with ⟨b',hb',C1,e1,hC1,hs1,hv1,_⟩ | ⟨hno,_⟩
    case inr=>rw [hi1] at hno; cases hno
    rw [hi1] at hb'
    cases hb'
    have hn1:C1.toList.length = j.size:=by simp; omega
    have hsrc:=src_cells (P:=P) (n:=1) (cap:=1) (z:=j.size) hC1 (by omega)
    have htk:C1.toList.take (1 * j.size) = C1.toList:=List.take_of_length_le (by omega)
    rw [htk] at hsrc
    have hyD:∀ k (q1:k < dd.length) (q2:k < C1.size),DV S dd[k] C1[k]:=fun k q1 q2=>vD ((hLd k (by omega) q1).1 _ _ _ (hv1 k (by omega) q2))
    have hone:∀ v∈C1.toList,v.oneCell' = true:=by
      intro v hv
      obtain ⟨m,hm,rfl⟩:=List.getElem_of_mem hv
      exact one_of_dv (hyD m (by omega) (by simpa using hm)) (hLd m (by omega) (by omega)).2
    have hynil:∀ k (q1:k < dd.length) (q2:k < C1.size),k = f→dd[k] = .sl []→C1[k] = .slice none 0 0:=by
      intro k q1 q2 hk hd'
      have h3:=hv1 k (by omega) q2
      rw [hnil k (by omega) q1 hk hd'] at h3
      generalize C1[k] = u at h3 ⊢
      cases h3
      rfl
    have hlen:n + 1≤140737488355328:=by
      have h1:(n + 1) * 2≤(n + 1) * 2 * j.bytes:=Nat.le_mul_of_pos_right _ hby
      omega
    have hcellD:∀ a,w.drew.cell? a = w.cell? a:=fun a=>World.cell?_drew w a
    have hsum:ds.length + dd.length = (n + 1) * j.size:=by rw [hn,hdl,Nat.succ_mul]
    -- the new cells are right
    have fin:∀ (old C':Array Value),QC S i f j.size vs sp ds old→(∀ m,m < n * j.size→C'[m]? = old[m]?)→(∀ m (h:m < C1.size),C'[n * j.size + m]? = some C1[m])→(n + 1) * j.size≤C'.size→QC S i f j.size vs sp (ds ++ dd) C':=by
      intro old C' hq hk1 hk2 hsz
      obtain ⟨g1,g2,g3,g4,g5⟩:=hq
      have ea:∀ m (q1:m < C'.size) (q2:m < n * j.size),∃ q3:m < old.size,C'[m] = old[m]:=by
        intro m q1 q2
        have q3:m < old.size:=by omega
        refine ⟨q3,?_⟩
        have:=hk1 m q2
        rw [Array.getElem?_eq_getElem q1,Array.getElem?_eq_getElem q3] at this
        exact Option.some.inj this
      have eb:∀ m (q1:m < C'.size) (q2:n * j.size≤m) (q3:m - n * j.size < C1.size),C'[m] = C1[m - n * j.size]:=by
        intro m q1 q2 q3
        have:=hk2 (m - n * j.size) q3
        rw [show n * j.size + (m - n * j.size) = m by omega,Array.getElem?_eq_getElem q1] at this
        exact Option.some.inj this
      refine ⟨by rw [List.length_append]; omega,fun m q1 q2=>?_,fun m q1=>?_,fun p hp=>?_,fun m q1 q2 q3 q4=>?_⟩
      · rw [List.length_append] at q1
        by_cases hm:m < ds.length
        · obtain ⟨q3,q4⟩:=ea m q2 (by omega)
          rw [List.getElem_append_left hm,q4]
          exact g2 m hm q3
        · rw [List.getElem_append_right (by omega),eb m q2 (by omega) (by omega)]
          have:=hyD (m - ds.length) (by omega) (by omega)
          simp only [hn] at this ⊢
          exact this
      · rw [hk1 m (by omega)]
        exact g3 m q1
      · have h6:=hsp p hp
        have h7:=g4 p hp
        obtain ⟨q3,q4⟩:=ea p.1 (by omega) (by omega)
        have h8:p.1 < C'.size:=by omega
        simp only [Array.getD,q3,h8,dif_pos] at h7 ⊢
        rw [show C'.getInternal p.1 h8 = C'[p.1] from rfl,q4]
        exact h7
      · rw [List.length_append] at q1
        by_cases hm:m < ds.length
        · obtain ⟨q5,q6⟩:=ea m q2 (by omega)
          rw [List.getElem_append_left hm] at q4
          rw [q6]
          exact g5 m hm q5 q3 q4
        · rw [List.getElem_append_right (by omega)] at q4
          rw [eb m q2 (by omega) (by omega)]
          have hmod:(m - ds.length) = f:=by
            have e1:m = n * j.size + (m - ds.length):=by omega
            have e2:m % j.size = (m - ds.length) % j.size:=by
              conv=>lhs; rw [e1,Nat.mul_comm,Nat.mul_add_mod]
            rw [e2,Nat.mod_eq_of_lt (by omega)] at q3
            exact q3
          have:=hynil (m - ds.length) (by omega) (by omega) hmod q4
          simp only [hn] at this ⊢
          exact this
    -- a new row
    have grown:∀ (base:Option Addr) (cap:Nat) (old:Array Value),vx = .slice base n cap→cap < n + 1→QC S i f j.size vs sp ds old→(Builtin.firstCells j.size n (.slice base n cap)).run P w.drew = .ok (old.toList.take (n * j.size)).toArray w.drew →
        Ends P (Post S i [(l0,.rowQ f j.size vs sp ds),(l1,.cells L)] w (.row nl j.size (n + 1)) [(nl,.rowQ f j.size vs sp (ds ++ dd))]) (((Builtin.append_ c.argTypes o.type #[vx,.slice (some ⟨b1,0,none⟩) 1 1]).run P w).andThen fun v w'=>.ok (.value v) w'):=by
      intro base cap old hvb hg hqo hfo
      subst hvb
      have hfitg:Builtin.nextslicecap (n + 1) cap * j.bytes≤281474976710656:=by
        refine Nat.le_trans (Nat.mul_le_mul_right _ (nextslicecap_le hg)) ?_
        rw [Nat.mul_comm 2]; exact hfit
      have hrun:=run_append_grows' (P:=P) (w:=w) (ty:=o.type) h0 h1 hut huu hd hj hz0 (hsrc w (fun _=>rfl)).1 (hsrc w.drew hcellD).2 hfo hg (by omega) hfitg
      rw [hrun,Result.andThen_ok]
      have hcap:=grownCap_ge w (n + 1) cap ee
      generalize hgc:grownCap w (n + 1) cap ee = gcap at *
      generalize hC:(old.toList.take (n * j.size)).toArray ++ C1.toList.toArray ++ Builtin.zeroCells z0.cells (gcap - (n + 1)) = C at *
      have hnb:NewBlk w (w.drew.alloc (.cells C ee)) C ee (0,0):=by
        have:=newblk_alloc w.drew C ee
        exact ⟨this.size,this.old,this.new,this.os,this.out,this.tape⟩
      have hol:(old.toList.take (n * j.size)).length = n * j.size:=by
        have:=hqo.1
        rw [List.length_take]
        simp only [Array.length_toList]
        omega
      have hsz:C.size = gcap * j.size:=by
        rw [←hC]
        simp only [Array.size_append,size_zeroCells,←hzz,hzl,List.size_toArray,hol,hn1]
        have:n * j.size + j.size = (n + 1) * j.size:=by rw [Nat.succ_mul]
        rw [this,←Nat.add_mul]
        congr 1; omega
      refine Post.more (post_rowQ hhe hnb hfn (fin old C hqo (fun m hm=>?_) (fun m hm=>?_) ?_) (by rw [hsz]; exact Nat.le_refl _) hcap) hkeys
      · rw [←hC,Array.append_assoc,Array.getElem?_append_left (by rw [List.size_toArray,hol]; exact hm)]
        simp only [List.getElem?_toArray,List.getElem?_take,if_pos hm,Array.getElem?_toList]
      · rw [←hC,Array.append_assoc,Array.getElem?_append_right (by simp; omega)]
        have e3:n * j.size + m - (old.toList.take (n * j.size)).toArray.size = m:=by rw [List.size_toArray,hol]; omega
        rw [e3,Array.getElem?_append_left (by simpa using hm)]
        simp [hm]
      · rw [hsz]
        exact Nat.mul_le_mul_right _ hcap
    cases hvx with
    | rown =>
      have hds:ds = []:=List.length_eq_zero_iff.1 (by simpa using hn)
      subst hds
      have hvs0:vs = []:=List.length_eq_zero_iff.1 (by simpa using hvs)
      subst hvs0
      have hsp0:sp = []:=by
        cases sp with
        | nil=>rfl
        | cons p r=>have:=hsp p List.mem_cons_self; simp at this
      subst hsp0
      refine grown none 0 #[] rfl (by omega) ⟨by simp,(fun k h=>absurd h (Nat.not_lt_zero _)),(fun k h=>absurd h (Nat.not_lt_zero _)),(fun p hp=>by cases hp),(fun k h=>absurd h (Nat.not_lt_zero _))⟩ ?_
      simp [Builtin.firstCells]
    | row hi hNs hcN hl =>
      rename_i b cap m
      rcases hh.obj l0 _ List.mem_cons_self with ⟨b',hb',hrel⟩ | ⟨hno,_⟩
      case inr=>rw [hi] at hno; cases hno
      rw [hi] at hb'
      cases hb'
      obtain ⟨C,eb,hC,hqC,hns⟩:=qc_obj.1 hrel
      have hszC:n * j.size≤C.size:=by have:=hqC.1; omega
      by_cases hroom:n + 1≤cap
      · obtain ⟨c1,e2,f1,h1',hN⟩:=hh.size _ _ hNs
        rw [hC] at h1'
        cases h1'
        have hfitC:n * j.size + C1.toList.length≤C.size:=by
          rw [hn1,←Nat.succ_mul,hN]
          exact Nat.le_trans (Nat.mul_le_mul_right _ hroom) hcN
        rw [run_append_room' h0 h1 hut huu hd hj (hsrc w (fun _=>rfl)).1 (hsrc w (fun _=>rfl)).2 hC hone hroom hfitC,Result.andThen_ok]
        generalize hC':(C.toList.take (n * j.size) ++ C1.toList ++ C.toList.drop (n * j.size + C1.toList.length)).toArray = C'
        have hsz:C'.size = C.size:=by rw [←hC']; simp; simp at hfitC; omega
        refine Post.upH (post_roomQ (sp:=sp) hh0 hi hC hns hsz hfn hne (fin C C' hqC (fun q hq=>?_) (fun q hq=>?_) ?_) hNs hcN hroom) (fun x hx=>by cases List.mem_singleton.1 hx; exact List.mem_cons_self) hkeys
        · rw [←hC']
          simp only [List.getElem?_toArray]
          rw [List.getElem?_append_left (by simp; omega),List.getElem?_append_left (by simp; omega),List.getElem?_take]
          rw [if_pos (by omega)]
          simp
        · rw [←hC']
          simp only [List.getElem?_toArray]
          rw [List.getElem?_append_left (by simp; omega),List.getElem?_append_right (by simp; omega)]
          have:n * j.size + q - (List.take (n * j.size) C.toList).length = q:=by simp; omega
          rw [this]
          simp [hq]
        · rw [hsz,hN]
          exact Nat.le_trans (Nat.mul_le_mul_right _ hroom) hcN
      · exact grown (some ⟨b,0,none⟩) cap C rfl (by omega) hqC (src_cells (P:=P) hC hszC w.drew hcellD).2
end
theorem mem_mid {G1 G2:AHeap} {l k:Nat} {o o' p:AObj} (h:(k,p)∈G1 ++ (l,o') :: G2):(k = l∧p = o')∨((k,p)∈G1 ++ (l,o) :: G2):=by
  rcases List.mem_append.1 h with h | h
  · exact .inr (List.mem_append.2 (.inl h))
  · rcases List.mem_cons.1 h with h | h
    · cases h; exact .inl ⟨rfl,rfl⟩
    · exact .inr (List.mem_append.2 (.inr (List.mem_cons_of_mem _ h)))
theorem mem_mid_key {G1 G2:AHeap} {l k:Nat} {o o' p:AObj} (h:(k,p)∈G1 ++ (l,o') :: G2):∃ q,(k,q)∈G1 ++ (l,o) :: G2:=by
  rcases mem_mid (o:=o) h with ⟨rfl,_⟩ | h
  · exact ⟨o,List.mem_append.2 (.inr List.mem_cons_self)⟩
  · exact ⟨p,h⟩
theorem blk_mid {i:Emb} {G1 G2:AHeap} {l:Nat} {o o':AObj} {b:Nat} (h:blk i (G1 ++ (l,o') :: G2) b):blk i (G1 ++ (l,o) :: G2) b:=by
  obtain ⟨k,p,hm,hb⟩:=h
  obtain ⟨q,hq⟩:=mem_mid_key (o:=o) hm
  exact ⟨k,q,hq,hb⟩
theorem HeapRel.mid {S:Seal} {i:Emb} {G1 G2:AHeap} {l:Nat} {o o':AObj} {w:World} (h:HeapRel S i (G1 ++ (l,o) :: G2) w) (ho:(∃ b,i l = some b∧ObjRel S i w b o')∨(i l = none∧o'.nil0)):HeapRel S i (G1 ++ (l,o') :: G2) w:=by
  refine ⟨h.cell,h.size,fun k p hm=>?_,fun k p k' p' b x y e1 e2=>?_,h.dom,h.gr⟩
  · rcases mem_mid (o:=o) hm with ⟨rfl,rfl⟩ | hm
    · exact ho
    · exact h.obj _ _ hm
  · obtain ⟨q,hq⟩:=mem_mid_key (o:=o) x
    obtain ⟨q',hq'⟩:=mem_mid_key (o:=o) y
    exact h.inj _ _ _ _ b hq hq' e1 e2
theorem keys_mid {G1 G2:AHeap} {l k:Nat} {o o':AObj}:k∈AHeap.keys (G1 ++ (l,o) :: G2)↔k∈AHeap.keys (G1 ++ (l,o') :: G2):=by simp [AHeap.keys]
theorem ACalls.lit {P:Program} {fn:FuncId} {args:List AV} {r:AV} {G1 G2 G1' G2':AHeap} {l l' f z K:Nat} {vs:List Value} {sp:List (Nat×AV)} {ds ds':List D} (h:∀ vs':List Value,vs'.length = K→ACalls P fn args (G1 ++ (l,.rowQ f z vs' [] ds) :: G2) r (G1' ++ (l',.rowQ f z vs' [] ds') :: G2'))
    (h1:vs.length≤K) (h2:K≤ds.length) (h3:∀ p∈sp,p.1 < K):ACalls P fn args (G1 ++ (l,.rowQ f z vs sp ds) :: G2) r (G1' ++ (l',.rowQ f z vs sp ds') :: G2'):=by
  refine ⟨(h (List.replicate K undef) (by simp)).1,fun S i w us hl hv hh hf=>?_⟩
  have hlm:(l,AObj.rowQ f z vs sp ds)∈G1 ++ (l,.rowQ f z vs sp ds) :: G2:=List.mem_append.2 (.inr List.mem_cons_self)
  -- what lies there
  obtain ⟨vs',hvl,hho,hback⟩:∃ vs':List Value,vs'.length = K∧((∃ b,i l = some b∧ObjRel S i w b (.rowQ f z vs' [] ds))∨(i l = none∧AObj.nil0 (.rowQ f z vs' [] ds)))∧((∀ j (h:j < vs.length),vs'[j]? = some vs[j])∧∀ p∈sp,V S i p.2 (vs'.getD p.1 undef)):=by
    rcases hh.obj _ _ hlm with ⟨b,hb,hrel⟩ | ⟨hno,hz⟩
    · obtain ⟨c,e,hc,⟨q1,q2,q3,q4,q5⟩,hns⟩:=qc_obj.1 hrel
      refine ⟨c.toList.take K,by simp; omega,.inl ⟨b,hb,qc_obj.2 ⟨c,e,hc,⟨q1,q2,fun j hj=>?_,(fun p hp=>by cases hp),q5⟩,hns⟩⟩,fun j hj=>?_,fun p hp=>?_⟩
      · have hj2:j < c.size:=by
          rw [List.length_take] at hj
          simp at hj
          omega
        simp [hj2]
      · rw [List.getElem?_take,if_pos (by omega)]
        simpa using q3 j hj
      · have h6:=h3 p hp
        have h7:=q4 p hp
        have h8:p.1 < c.size:=by omega
        have e1:c.getD p.1 undef = c[p.1]:=by simp [h8]
        have e2:(c.toList.take K).getD p.1 undef = c[p.1]:=by simp [List.getD,h6,h8]
        rw [e2,←e1]
        exact h7
    · obtain ⟨rfl,rfl,rfl⟩:=hz
      have:K = 0:=by simpa using h2
      subst this
      exact ⟨[],rfl,.inr ⟨hno,rfl,rfl,rfl⟩,(fun j hj=>by simp at hj),(fun p hp=>by cases hp)⟩
  have hh2:=hh.mid hho
  refine ((h vs' hvl).2 S i w us hl hv hh2 (fun k hk hn=>hf k (keys_mid.1 hk) fun q=>hn (keys_mid.1 q))).mono fun e w' hp=>?_
  obtain ⟨v,he,S',i',p1,p2,p3,p4,p5⟩:=hp
  refine ⟨v,he,S',i',p1,p2.mid ?_,p3,⟨p4.up,p4.grow,fun b hb hx=>p4.old b hb fun q=>hx (blk_mid q),fun a u q=>(p4.newSeal a u q).imp id (Or.imp blk_mid id),fun k b q=>(p4.newEmb k b q).imp id (Or.imp blk_mid id),
    fun b q=>(p4.sub b (blk_mid q)).imp blk_mid id,p4.os,p4.out,p4.tape⟩,fun k b q=>(p5 k b q).imp id fun g=>⟨keys_mid.1 g.1,fun y=>g.2 (keys_mid.1 y)⟩⟩
  rcases p2.obj l' _ (List.mem_append.2 (.inr List.mem_cons_self)) with ⟨b,hb,hrel⟩ | ⟨hno,hz⟩
  · obtain ⟨c,e,hc,⟨q1,q2,q3,q4,q5⟩,hns⟩:=qc_obj.1 hrel
    refine .inl ⟨b,hb,qc_obj.2 ⟨c,e,hc,⟨q1,q2,fun j hj=>?_,fun p hp=>?_,q5⟩,hns⟩⟩
    · have:=hback.1 j hj
      rw [q3 j (by omega),←this,List.getElem?_eq_getElem (by omega)]
    · have h6:=h3 p hp
      have h7:=(hback.2 p hp).mono p4.up p3
      have h8:=q3 p.1 (by omega)
      have e1:vs'.getD p.1 undef = vs'[p.1]'(by omega):=by
        have:p.1 < vs'.length:=by omega
        simp [List.getD,this]
      have e2:c.getD p.1 undef = vs'[p.1]'(by omega):=by
        have h9:p.1 < c.size:=(Array.getElem?_eq_some_iff.1 h8).1
        rw [Array.getElem?_eq_getElem h9] at h8
        simp only [Option.some.injEq] at h8
        simp [h9,h8]
      rw [e2,←e1]
      exact h7
  · obtain ⟨z1,_,z3⟩:=hz
    have hK:K = 0:=by rw [←hvl,z1]; rfl
    subst hK
    have hvs:vs = []:=List.length_eq_zero_iff.1 (by omega)
    have hsp:sp = []:=by
      cases sp with
      | nil=>rfl
      | cons p r=>exact absurd (h3 p List.mem_cons_self) (Nat.not_lt_zero _)
    exact .inr ⟨hno,hvs,hsp,z3⟩
end Go.Proofs.Abs
end
section
namespace Go.Proofs.Abs
open Go
set_option linter.unusedVariables false
set_option linter.unusedSectionVars false
section
variable {P:Program}
theorem AOpT.lnR {u:List (Nat×AV)} {t l z n:Nat} (hx:lk u t = some (.row l z n)):AOpT P (.len (.t t)) u [] (.d (.int .i64 (n:Int))) []:=by
  refine AOpT.rowArg hx (fun cap _=>?_) (fun h=>?_)
  · exact evOp_ok (own:=false) (nl:=0) (H:=[]) (q:=⟨_,_,_,True⟩) (by simp only [evOp,evA_head]; rfl) trivial
  · subst h
    exact evOp_ok (own:=false) (nl:=0) (H:=[]) (q:=⟨_,_,_,True⟩) (by simp only [evOp,evA_head]; rfl) trivial
theorem AOpT.iaR {u:List (Nat×AV)} {t l z n:Nat} {y:Arg} {kd:IntKind} {k:Int} (hx:lk u t = some (.row l z n)) (hy:∀ v,evA ((t,v) :: u) y = some (.d (.int kd k))) (hb:0≤k∧k < (n:Int)):AOpT P (.iaddr (.t t) y z) u [] (.ptr l (k.toNat * z)) []:=by
  rw [←Nat.zero_add (k.toNat * z)]
  refine AOpT.rowArg hx (fun cap _=>?_) (fun h=>by omega)
  exact evOp_ok (own:=false) (nl:=0) (H:=[]) (q:=⟨_,_,_,0≤k∧k < (n:Int)⟩) (by simp only [evOp,evA_head,hy,Nat.beq_refl,cond_true]; rfl) hb
def rnL (u:List (Nat×AV)):AOp→Option QO
  | .len (.t t)=>match lk u t with
    | some (.row _ _ n)=>some ⟨.d (.int .i64 (n:Int)),[],[],true,[]⟩
    | _=>none
  | _=>none
def Ev.lnR:Ev P:=.q ⟨fun _ u _ op=>rnL u op,fun {nl u H op r} h hc=>by
  unfold rnL at h
  split at h <;> first | cases h | skip
  split at h <;> first | cases h | skip
  rename_i hx
  exact ⟨AOpT.lnR hx,fun x hx=>(by cases hx),fun _=>rfl⟩⟩
def rnI (n:Nat) (k:Int) (u:List (Nat×AV)):AOp→Option QO
  | .iaddr (.t t) i z=>match lk u t,evA u i with
    | some (.row l z' n'),some (.d (.int _ k'))=>bif notT t i && Nat.beq z z' then some ⟨.ptr l (k.toNat * z),[],[],true,[(.n n',.n n),(.i k',.i k)]⟩ else none
    | _,_=>none
  | _=>none
def Ev.iaR {n:Nat} {k:Int} (hb:0≤k∧k < (n:Int)):Ev P:=.q ⟨fun _ u _ op=>rnI n k u op,fun {nl u H op r} h hc=>by
  unfold rnI at h
  split at h <;> first | cases h | skip
  rename_i t i z
  split at h <;> first | cases h | skip
  rename_i l z' n' kd k' hx hi
  generalize hq:(notT t i && Nat.beq z z') = q at h
  cases q
  · cases h
  simp only [cond_true] at h
  rw [Bool.and_eq_true] at hq
  obtain ⟨q1,q2⟩:=hq
  cases Nat.eq_of_beq_eq_true q2
  cases h
  obtain ⟨c1,r1⟩:=okC_cons.1 hc
  obtain ⟨c2,_⟩:=okC_cons.1 r1
  simp only [Cm.n.injEq,Cm.i.injEq] at c1 c2
  subst c1 c2
  refine ⟨AOpT.iaR (kd:=kd) hx (fun v=>?_) hb,fun x hx=>(by cases hx),fun _=>rfl⟩
  cases i with
  | t t' =>
    simp only [notT,Bool.not_eq_true'] at q1
    simp only [evA,lk,q1,cond_false]
    exact hi
  | k x=>exact hi⟩
def rnQ (f z:Nat) (vs:List Value) (sp:List (Nat×AV)) (ds:List D) (off:Nat) (w:AV) (u:List (Nat×AV)) (H:AHeap):AOp→Option QO
  | .load x 1 false=>match evA u x with
    | some (.ptr l off')=>match lkH H l with
      | some (.rowQ f' z' vs' sp' ds')=>some ⟨w,[(l,.rowQ f z vs sp ds)],[(l,.rowQ f z vs sp ds)],true,[(.n off',.n off),(.o (.rowQ f' z' vs' sp' ds'),.o (.rowQ f z vs sp ds))]⟩
      | _=>none
    | _=>none
  | _=>none
def Ev.ldX (f z:Nat) (vs:List Value) (sp:List (Nat×AV)) {ds:List D} {off:Nat} {w:AV} (ho:off < ds.length) (hw:(∃ d,ds[off]? = some d∧w = .d d)∨(off,w)∈sp):Ev P:=.q ⟨fun _ u H op=>rnQ f z vs sp ds off w u H op,fun {nl u H op r} h hc=>by
  unfold rnQ at h
  split at h <;> first | cases h | skip
  split at h <;> first | cases h | skip
  rename_i l off' hx
  split at h <;> first | cases h | skip
  rename_i f' z' vs' sp' ds' hl
  obtain ⟨c1,r1⟩:=okC_cons.1 hc
  obtain ⟨c2,_⟩:=okC_cons.1 r1
  simp only [Cm.n.injEq,Cm.o.injEq] at c1 c2
  rw [c2] at hl
  subst c1
  exact ⟨AOpT.ldQ hx ho hw,fun y hy=>(by cases List.mem_singleton.1 hy; exact lkH_mem hl),fun _=>rfl⟩⟩
def rsQ (f z:Nat) (vs:List Value) (sp sp':List (Nat×AV)) (ds ds':List D) (off:Nat) (w:AV) (u:List (Nat×AV)) (H:AHeap):AOp→Option QO
  | .store x y 1=>match evA u x,evA u y with
    | some (.ptr l off'),some w'=>match lkH H l with
      | some (.rowQ f0 z0 vs0 sp0 ds0)=>some ⟨.any,[(l,.rowQ f z vs sp ds)],[(l,.rowQ f z vs sp' ds')],false,[(.n off',.n off),(.o (.rowQ f0 z0 vs0 sp0 ds0),.o (.rowQ f z vs sp ds)),(.v w',.v w)]⟩
      | _=>none
    | _,_=>none
  | _=>none
def Ev.stX (f z:Nat) {vs:List Value} (sp sp':List (Nat×AV)) {ds ds':List D} {off:Nat} (w:AV) {d:D} (hw:w.scalar = true) (hw':cellsAV w = some [w]) (hs:Sub w (.d d)) (h0:vs.length≤off) (ho:off < ds.length) (hn:off % z = f→d≠.sl []) (hsp:∀ p∈sp',(p.1 = off∧p.2 = w)∨(p∈sp∧p.1≠off)) (hds:ds.set off d = ds'):Ev P :=
  .q ⟨fun _ u H op=>rsQ f z vs sp sp' ds ds' off w u H op,fun {nl u H op r} h hc=>by
  unfold rsQ at h
  split at h <;> first | cases h | skip
  split at h <;> first | cases h | skip
  rename_i l off' w' hx hy
  split at h <;> first | cases h | skip
  rename_i f0 z0 vs0 sp0 ds0 hl
  obtain ⟨c1,r1⟩:=okC_cons.1 hc
  obtain ⟨c2,r2⟩:=okC_cons.1 r1
  obtain ⟨c3,_⟩:=okC_cons.1 r2
  simp only [Cm.n.injEq,Cm.o.injEq,Cm.v.injEq] at c1 c2 c3
  rw [c2] at hl
  subst c1 c3 hds
  exact ⟨AOpT.stQ hx hy hw hw' hs h0 ho hn hsp,fun y hy=>(by cases List.mem_singleton.1 hy; exact lkH_mem hl),fun h=>by cases h⟩⟩
def raQ (f z n:Nat) (vs:List Value) (sp:List (Nat×AV)) (ds ds':List D) (L:List AV) (b:Nat) (nl:Nat) (u:List (Nat×AV)) (H:AHeap):AOp→Option QO
  | .app x y z' by' zz=>match evA u x,evA u y with
    | some (.row l0 z0 n'),some (.sl l1 0 1 1 z1)=>match lkH H l0,lkH H l1 with
      | some (.rowQ f0 z2 vs0 sp0 ds0),some (.cells L')=>bif Nat.beq zz.length z' && Nat.blt 0 by' && !Nat.beq nl l0 && !Nat.beq nl l1 then
          some ⟨.row nl z (n + 1),[(l0,.rowQ f z vs sp ds),(l1,.cells L)],[(nl,.rowQ f z vs sp ds')],false,[(.n z',.n z),(.n z0,.n z),(.n z1,.n z),(.n n',.n n),(.n by',.n b),(.o (.rowQ f0 z2 vs0 sp0 ds0),.o (.rowQ f z vs sp ds)),(.o (.cells L'),.o (.cells L))]⟩ else none
      | _,_=>none
    | _,_=>none
  | _=>none
def Ev.apX (f:Nat) {z n:Nat} {vs:List Value} (sp:List (Nat×AV)) {ds ds' dd:List D} (L:List AV) {b:Nat} (hn:ds.length = n * z) (hL:L.length = z) (hdl:dd.length = z) (hLd:∀ j (h1:j < L.length) (h2:j < dd.length),Sub L[j] (.d dd[j])∧dd[j].isAgg = false) (hf:f < z)
    (hnil:∀ j (h1:j < L.length) (h2:j < dd.length),j = f→dd[j] = .sl []→L[j] = .nils) (hvs:vs.length≤ds.length) (hsp:∀ p∈sp,p.1 < ds.length) (hfit:(n + 1) * 2 * b≤281474976710656) (hds:ds ++ dd = ds'):Ev P :=
  .q ⟨fun nl u H op=>raQ f z n vs sp ds ds' L b nl u H op,fun {nl u H op r} h hc=>by
  unfold raQ at h
  split at h <;> first | cases h | skip
  rename_i x y z' by' zz
  split at h <;> first | cases h | skip
  rename_i l0 z0 n' l1 z1 hx hy
  split at h <;> first | cases h | skip
  rename_i f0 z2 vs0 sp0 ds0 L' hl0 hl1
  generalize hq:(Nat.beq zz.length z' && Nat.blt 0 by' && !Nat.beq nl l0 && !Nat.beq nl l1) = q at h
  cases q
  · cases h
  simp only [cond_true] at h
  cases h
  simp only [Bool.and_eq_true,Bool.not_eq_true'] at hq
  obtain ⟨⟨⟨q1,q2⟩,q3⟩,q4⟩:=hq
  obtain ⟨c1,r1⟩:=okC_cons.1 hc
  obtain ⟨c2,r2⟩:=okC_cons.1 r1
  obtain ⟨c3,r3⟩:=okC_cons.1 r2
  obtain ⟨c4,r4⟩:=okC_cons.1 r3
  obtain ⟨c5,r5⟩:=okC_cons.1 r4
  obtain ⟨c6,r6⟩:=okC_cons.1 r5
  obtain ⟨c7,_⟩:=okC_cons.1 r6
  simp only [Cm.n.injEq,Cm.o.injEq] at c1 c2 c3 c4 c5 c6 c7
  rw [c6] at hl0
  rw [c7] at hl1
  subst c1 c2 c3 c4 c5 hds
  have h1:nl≠l0:=fun h=>by rw [h,Nat.beq_refl] at q3; cases q3
  have h2:nl≠l1:=fun h=>by rw [h,Nat.beq_refl] at q4; cases q4
  refine ⟨AOpT.appQ hx hy hn hL hdl hLd hf hnil hvs hsp h1 h2 (Nat.eq_of_beq_eq_true q1) (Nat.le_of_ble_eq_true q2) hfit,fun p hp=>?_,fun h=>by cases h⟩
  rcases List.mem_cons.1 hp with rfl | hp
  · exact lkH_mem hl0
  · cases List.mem_singleton.1 hp
    exact lkH_mem hl1⟩
def rbQ (nl:Nat) (u:List (Nat×AV)):AOp→Option QO
  | .bslice n z zz ps=>match allAV (evA u) (ps.map (·.2)),evOp true nl (evA u) [] (.bslice n z zz ps) with
    | some vs,some q=>bif Nat.beq zz.length z && Nat.ble (n * z) 16777216 && vs.all (fun x=>match cellsAV x with | some c=>Nat.beq c.length z | none=>false) then some ⟨q.r,q.hin,q.hout,false,[]⟩ else none
    | _,_=>none
  | _=>none
def Ev.rawS:Ev P:=.q ⟨fun nl u _ op=>rbQ nl u op,fun {nl u H op r} h hc=>by
  unfold rbQ at h
  split at h <;> first | cases h | skip
  rename_i n z zz ps
  split at h <;> first | cases h | skip
  rename_i vs q hvs hq
  generalize hb:(Nat.beq zz.length z && Nat.ble (n * z) 16777216 && vs.all (fun x=>match cellsAV x with | some c=>Nat.beq c.length z | none=>false)) = bb at h
  cases bb
  · cases h
  simp only [cond_true] at h
  cases h
  simp only [Bool.and_eq_true] at hb
  obtain ⟨⟨b1,b2⟩,b3⟩:=hb
  have hside:q.side∧q.hin = []:=by
    have h2:=hq
    simp only [evOp,hvs,cond_true] at h2
    generalize natListBeq (ps.map (·.1)) (List.range n) = nb at h2
    cases nb
    · cases h2
    simp only [cond_true] at h2
    split at h2 <;> cases h2
    refine ⟨⟨Nat.eq_of_beq_eq_true b1,Nat.le_of_ble_eq_true b2,fun x hx=>?_⟩,rfl⟩
    have:=List.all_eq_true.1 b3 x hx
    split at this
    · rename_i c hc'
      rw [hc',Option.map_some,Nat.eq_of_beq_eq_true this]
    · cases this
  exact ⟨evOp_ok hq hside.1,fun x hx=>(by rw [hside.2] at hx; cases hx),fun h=>by cases h⟩⟩
end
end Go.Proofs.Abs
end
section
namespace Go.Proofs.Abs
open Go
set_option linter.unusedVariables false
set_option linter.unusedSectionVars false
section
variable {P:Program} {α:Type} [Inhabited α] {e:α→D} {z:Nat} {g:Bool}
theorem cellQ (he:EncOK e z g) {xs:List α} {i j:Nat} (hi:i < xs.length) (hj:j < z):(cellsD e xs)[i * z + j]? = (e (xs.getD i default)).cells[j]?:=by
  obtain ⟨R,hR⟩:=cellsD_at he xs i hi
  have h1:(cellsD e xs)[i * z + j]? = ((cellsD e xs).drop (i * z))[j]?:=by rw [List.getElem?_drop]
  rw [h1,hR,List.getElem?_append_left (by rw [he.len]; exact hj),rd_get hi]
theorem cellQ_lt (he:EncOK e z g) {xs:List α} {i j:Nat} (hi:i < xs.length) (hj:j < z):i * z + j < (cellsD e xs).length:=by
  rw [cellsD_len he]
  have:=Nat.mul_le_mul_right z (show i + 1≤xs.length from hi)
  rw [Nat.succ_mul] at this; omega
theorem modQ {i j z:Nat} (hj:j < z):(i * z + j) % z = j:=by
  rw [Nat.mul_comm,Nat.mul_add_mod,Nat.mod_eq_of_lt hj]
theorem setQ (he:EncOK e z g) {xs:List α} {i j:Nat} {d:D} {x:α} (hi:i < xs.length) (hj:j < z) (hx:(e x).cells = (e (xs.getD i default)).cells.set j d):(cellsD e xs).set (i * z + j) d = cellsD e (xs.set i x):=by
  refine List.ext_getElem? fun q=>?_
  have hz:0 < z:=by omega
  obtain ⟨a,b,hb,rfl⟩:∃ a b,b < z∧q = a * z + b:=⟨q / z,q % z,Nat.mod_lt _ hz,by rw [Nat.mul_comm]; exact (Nat.div_add_mod q z).symm⟩
  by_cases ha:a < xs.length
  · rw [cellQ he (xs:=xs.set i x) (by rw [List.length_set]; exact ha) hb]
    by_cases hai:a = i
    · subst hai
      have h1:(xs.set a x).getD a default = x:=by simp [List.getD,ha]
      rw [h1,hx]
      by_cases hbj:b = j
      · subst hbj
        have hl:b < (e (xs.getD a default)).cells.length:=by rw [he.len]; exact hb
        rw [List.getElem?_set_self (cellQ_lt he ha hb),List.getElem?_set_self hl]
      · rw [List.getElem?_set_ne (by omega),List.getElem?_set_ne (by omega),cellQ he ha hb]
    · have h1:(xs.set i x).getD a default = xs.getD a default:=by
        have h3:=List.getElem?_set_ne (l:=xs) (a:=x) (show i≠a from fun h=>hai h.symm)
        unfold List.getD
        rw [h3]
      have hne:i * z + j≠a * z + b:=by
        intro h
        have h2:(i * z + j) / z = (a * z + b) / z:=by rw [h]
        rw [Nat.mul_comm i,Nat.mul_comm a,Nat.mul_add_div hz,Nat.mul_add_div hz,Nat.div_eq_of_lt hj,Nat.div_eq_of_lt hb] at h2
        omega
      rw [h1,List.getElem?_set_ne hne,cellQ he ha hb]
  · have h2:xs.length * z≤a * z:=Nat.mul_le_mul_right z (by omega)
    rw [List.getElem?_eq_none (by rw [List.length_set,cellsD_len he]; omega),List.getElem?_eq_none (by rw [cellsD_len he,List.length_set]; omega)]
theorem spD (he:EncOK e z g) {β:Type} {e':β→D} {ys:List β} {xs:List α} {i j:Nat} (hi:i < xs.length) (h0:ys.length = 0) (hj:j < z:=by decide) (hc:(e (xs.getD i default)).cells[j]? = some (.sl (List.map e' ys)):=by rfl):(cellsD e xs)[i * z + j]? = some (.sl []):=by
  rw [cellQ he hi hj,hc,List.length_eq_zero_iff.1 h0]; rfl
theorem spLt {i j n z:Nat} (hi:i < n) (hj:j < z:=by decide):i * z + j < n * z:=by
  have:=Nat.mul_le_mul_right z (show i + 1≤n from hi)
  rw [Nat.succ_mul] at this; omega
theorem spOne {a b:Nat} {v:AV} (h:a < b):∀ p∈[(a,v)],p.1 < b:=fun p hp=>by cases List.mem_singleton.1 hp; exact h
def Ev.ldC (he:EncOK e z g) (f:Nat) (vs:List Value) (sp:List (Nat×AV)) (xs:List α) {i j:Nat} (hi:i < xs.length) (w:D) (hj:j < z:=by decide) (hw:(e (xs.getD i default)).cells[j]? = some w:=by rfl):Ev P :=
  .ldX f z vs sp (ds:=cellsD e xs) (off:=i * z + j) (w:=.d w) (cellQ_lt he hi hj) (.inl ⟨w,by rw [cellQ he hi hj,hw],rfl⟩)
def Ev.ldS (he:EncOK e z g) (f:Nat) (vs:List Value) (xs:List α) {i j:Nat} (hi:i < xs.length) (w:AV) (hj:j < z:=by decide):Ev P :=
  .ldX f z vs [(i * z + j,w)] (ds:=cellsD e xs) (off:=i * z + j) (w:=w) (cellQ_lt he hi hj) (.inr List.mem_cons_self)
theorem vsOff {n m i j z:Nat} (h:n≤m * z) (hm:m≤i):n≤i * z + j:=Nat.le_trans h (Nat.le_trans (Nat.mul_le_mul_right z hm) (Nat.le_add_right _ _))
def setAt (xs:List α) (i:Nat) (F:α→α):List α:=xs.set i (F (xs.getD i default))
theorem vs0 (z:Nat):([]:List Value).length≤0 * z:=Nat.zero_le _
def Ev.stC (he:EncOK e z g) (f:Nat) {vs:List Value} {m:Nat} (hvs:vs.length≤m * z) (xs:List α) {i j:Nat} (hi:m≤i∧i < xs.length) (F:α→α) (w:AV) {d:D} (hs:Sub w (.d d)) (hw:w.scalar = true:=by rfl) (hw':cellsAV w = some [w]:=by rfl)
    (hj:j < z:=by decide) (hf:j≠f:=by decide) (hx:(e (F (xs.getD i default))).cells = (e (xs.getD i default)).cells.set j d:=by rfl):Ev P :=
  .stX f z (vs:=vs) [] [] (ds:=cellsD e xs) (ds':=cellsD e (setAt xs i F)) (off:=i * z + j) w (d:=d) hw hw' hs (vsOff hvs hi.1) (cellQ_lt he hi.2 hj) (fun h=>by rw [modQ hj] at h; exact absurd h hf) (fun p hp=>by cases hp) (setQ he hi.2 hj hx)
def Ev.stS (he:EncOK e z g) (f:Nat) {vs:List Value} {m:Nat} (hvs:vs.length≤m * z) (xs:List α) {i:Nat} (hi:m≤i∧i < xs.length) (F:α→α) (w0 w:AV) {d:D} (hs:Sub w (.d d)) (hd:d≠.sl []) (hw:w.scalar = true:=by rfl) (hw':cellsAV w = some [w]:=by rfl)
    (hj:f < z:=by decide) (hx:(e (F (xs.getD i default))).cells = (e (xs.getD i default)).cells.set f d:=by rfl):Ev P :=
  .stX f z (vs:=vs) [(i * z + f,w0)] [(i * z + f,w)] (ds:=cellsD e xs) (ds':=cellsD e (setAt xs i F)) (off:=i * z + f) w (d:=d) hw hw' hs (vsOff hvs hi.1) (cellQ_lt he hi.2 hj) (fun _=>hd) (fun p hp=>.inl (by cases List.mem_singleton.1 hp; exact ⟨rfl,rfl⟩)) (setQ he hi.2 hj hx)
inductive CellL:List AV→List D→Prop
  | nil:CellL [] []
  | cons {a:AV} {d:D} {L:List AV} {ds:List D} (h:Sub a (.d d)) (hd:d.isAgg = false) (r:CellL L ds):CellL (a :: L) (d :: ds)
theorem CellL.get:∀ {L:List AV} {ds:List D},CellL L ds→∀ j (h1:j < L.length) (h2:j < ds.length),Sub L[j] (.d ds[j])∧ds[j].isAgg = false
  | _,_,.nil,j,h,_=>by cases h
  | _,_,.cons h hd r,0,_,_=>⟨h,hd⟩
  | _,_,.cons h hd r,j + 1,h1,h2=>r.get j (Nat.lt_of_succ_lt_succ h1) (Nat.lt_of_succ_lt_succ h2)
def Ev.apC (he:EncOK e z g) (f:Nat) {vs:List Value} {m:Nat} (hvs:vs.length≤m * z) (xs:List α) (x:α) {n:Nat} (L:List AV) {b:Nat} (hn:n = xs.length∧m≤n∧(n + 1) * 2 * b≤281474976710656) {dd:List D} (hdd:(e x).cells = dd) (hLd:CellL L dd) (hL:L.length = z:=by rfl)
    (hnil:L[f]? = some .nils:=by rfl) (hf:f < z:=by decide):Ev P :=
  .apX f (z:=z) (n:=n) (vs:=vs) [] (ds:=cellsD e xs) (ds':=cellsD e (xs ++ [x])) (dd:=dd) L (b:=b) (by rw [cellsD_len he,hn.1]) hL (by rw [←hdd,he.len]) hLd.get hf (fun j h1 _ hj _=>by subst hj; rw [List.getElem?_eq_getElem h1] at hnil; exact Option.some.inj hnil) (by rw [cellsD_len he,←hn.1]; exact Nat.le_trans hvs (Nat.mul_le_mul_right z hn.2.1)) (fun p hp=>by cases hp) hn.2.2
    (by rw [cellsD_app,←hdd]; simp [flat])
end
theorem ACalls.litC {P:Program} {α:Type} {e:α→D} {z:Nat} {g:Bool} (he:EncOK e z g) {fn:FuncId} {args:List AV} {r:AV} {G1 G2 G1' G2':AHeap} {l l' f:Nat} {vs:List Value} {sp:List (Nat×AV)} {xs:List α} {ds':List D} {m:Nat} (hvs:vs.length≤m * z) (hm:m≤xs.length) (hsp:∀ p∈sp,p.1 < xs.length * z)
    (h:∀ vs':List Value,vs'.length≤xs.length * z→ACalls P fn args (G1 ++ (l,.rowQ f z vs' [] (cellsD e xs)) :: G2) r (G1' ++ (l',.rowQ f z vs' [] ds') :: G2')) :
    ACalls P fn args (G1 ++ (l,.rowQ f z vs sp (cellsD e xs)) :: G2) r (G1' ++ (l',.rowQ f z vs sp ds') :: G2') :=
  ACalls.lit (K:=xs.length * z) (fun vs' h'=>h vs' (Nat.le_of_eq h')) (Nat.le_trans hvs (Nat.mul_le_mul_right z hm)) (by rw [cellsD_len he]; exact Nat.le_refl _) hsp
section
variable {P:Program} {α:Type} {e:α→D} {z:Nat} {g:Bool}
variable {ro:Option Nat} {N n m:Nat} {H:AHeap} {Q:Exit→AAct→AHeap→Nat→Prop} {l l':List (Nat×AV)}
theorem setH_in {l0:Nat} {o:AObj}:∀ {H:AHeap} {p:AObj},(l0,p)∈H→(l0,o)∈setH l0 o H
  | [],p,h=>by cases h
  | (k',p') :: r,p,h=>by
    simp only [setH]
    cases hb:Nat.beq k' l0
    · have hne:k'≠l0:=fun h=>by rw [h,Nat.beq_refl] at hb; cases hb
      rcases List.mem_cons.1 h with h | h
      · cases h; exact absurd rfl hne
      · exact List.mem_cons_of_mem _ (setH_in h)
    · cases Nat.eq_of_beq_eq_true hb
      exact List.mem_cons_self
theorem setH_ne {l0 k:Nat} {o:AObj} (hne:k≠l0):∀ {H:AHeap} {p:AObj},(k,p)∈H→(k,p)∈setH l0 o H
  | [],p,h=>by cases h
  | (k',p') :: r,p,h=>by
    simp only [setH]
    rcases List.mem_cons.1 h with h | h
    · cases h
      cases hb:Nat.beq k l0
      · exact List.mem_cons_self
      · exact absurd (Nat.eq_of_beq_eq_true hb) hne
    · cases Nat.beq k' l0 <;> exact List.mem_cons_of_mem _ (setH_ne hne h)
theorem AWc.spI {c:ACode} {l0 f off:Nat} {vs:List Value} {ds:List D} (hd:ds[off]? = some (.sl [])) (hf:off % z = f) (hl:lkH H l0 = some (.rowQ f z vs [] ds)) (hnd:nodupH H = true) (h:AWc P ro m c ⟨N,l⟩ (setH l0 (.rowQ f z vs [(off,.nils)] ds) H) n Q):AWc P ro m c ⟨N,l⟩ H n Q:=by
  intro cc hcc S i w ca hact hh hn
  have hlt:off < ds.length:=by
    rcases Nat.lt_or_ge off ds.length with h | h
    · exact h
    · rw [List.getElem?_eq_none h] at hd; cases hd
  have hgd:ds[off] = .sl []:=by rw [List.getElem?_eq_getElem hlt] at hd; exact Option.some.inj hd
  have hbk:∀ b,blk i (setH l0 (.rowQ f z vs [(off,.nils)] ds) H) b↔blk i H b:=by
    intro b
    constructor
    · rintro ⟨k,p,hm,hb⟩
      rcases mem_setH hm with ⟨rfl,_,q,c⟩ | ⟨_,c⟩
      · exact ⟨k,q,c,hb⟩
      · exact ⟨k,p,c,hb⟩
    · rintro ⟨k,p,hm,hb⟩
      by_cases hk:k = l0
      · subst hk; exact ⟨k,_,setH_in hm,hb⟩
      · exact ⟨k,p,setH_ne hk hm,hb⟩
  have hh':HeapRel S i (setH l0 (.rowQ f z vs [(off,.nils)] ds) H) w:=by
    refine ⟨hh.cell,hh.size,fun k p hm=>?_,fun k p k' p' b x y e1 e2=>?_,hh.dom,hh.gr⟩
    · rcases mem_setH hm with ⟨rfl,rfl,q,hq⟩ | ⟨_,hq⟩
      · rcases hh.obj _ _ (lkH_mem hl) with ⟨b,hb,c,e,h0,h1,h2,h3,h4,h5,h6⟩ | ⟨_,hz⟩
        · refine .inl ⟨b,hb,c,e,h0,h1,h2,h3,fun p hp=>?_,h5,h6⟩
          cases List.mem_singleton.1 hp
          have hc:off < c.size:=by omega
          have:=h5 off hlt hc hf hgd
          have e1:c.getD off undef = c[off]:=by simp [hc]
          simp only
          rw [e1,this]
          exact .nils
        · rw [hz.2.2] at hlt; cases hlt
      · exact hh.obj _ _ hq
    · have key:∀ {k:Nat} {p:AObj},(k,p)∈setH l0 (.rowQ f z vs [(off,.nils)] ds) H→∃ q,(k,q)∈H:=fun h=>by
        rcases mem_setH h with ⟨rfl,_,q,hq⟩ | ⟨_,hq⟩
        · exact ⟨q,hq⟩
        · exact ⟨_,hq⟩
      obtain ⟨q,hq⟩:=key x
      obtain ⟨q',hq'⟩:=key y
      exact hh.inj _ _ _ _ b hq hq' e1 e2
  refine wpIn_mono (h cc hcc S i w ca hact hh' hn) ?_
  rintro ex ca' w' ⟨a',H1,n1,S1,i1,q,ra,rd,rh,rn,re,rt⟩
  refine ⟨a',H1,n1,S1,i1,q,ra,rd,rh,rn,re,⟨rt.up,rt.grow,fun b hb hx=>rt.old b hb fun h=>hx ((hbk b).1 h),fun a v h=>(rt.newSeal a v h).imp id (Or.imp (hbk _).1 id),fun k b h=>(rt.newEmb k b h).imp id (Or.imp (hbk _).1 id),fun b h=>(rt.sub b h).imp (hbk _).1 id,rt.os,rt.out,rt.tape⟩⟩
inductive BorO (l0:Nat) (e:α→D) (z:Nat) (xs:List α):AObj→AObj→Prop
  | same {o}:BorO l0 e z xs o o
  | cells {L L':List AV} (h:BorL l0 e z xs L L'):BorO l0 e z xs (.cells L) (.cells L')
def borH (l0:Nat) (e:α→D) (z:Nat) (xs:List α):AHeap→AHeap→Prop
  | [],[]=>True
  | (k,o) :: r,(k',o') :: r'=>k = k'∧((k = l0∧o' = .tok (xs.length * z))∨(k≠l0∧BorO l0 e z xs o o'))∧borH l0 e z xs r r'
  | _,_=>False
theorem borH_mem {l0:Nat} {xs:List α}:∀ {H H':AHeap},borH l0 e z xs H H'→∀ k o',(k,o')∈H'→∃ o,(k,o)∈H∧((k = l0∧o' = .tok (xs.length * z))∨(k≠l0∧BorO l0 e z xs o o'))
  | [],[],_,k,o',hm=>by cases hm
  | (k1,o1) :: r,(k2,o2) :: r',h,k,o',hm=>by
    obtain ⟨rfl,h2,h3⟩:=h
    rcases List.mem_cons.1 hm with hm | hm
    · cases hm; exact ⟨o1,List.mem_cons_self,h2⟩
    · obtain ⟨o,q1,q2⟩:=borH_mem h3 k o' hm
      exact ⟨o,List.mem_cons_of_mem _ q1,q2⟩
  | [],_ :: _,h,_,_,_=>h.elim
  | _ :: _,[],h,_,_,_=>h.elim
theorem borH_mem' {l0:Nat} {xs:List α}:∀ {H H':AHeap},borH l0 e z xs H H'→∀ k o,(k,o)∈H→∃ o',(k,o')∈H'
  | [],[],_,k,o',hm=>by cases hm
  | (k1,o1) :: r,(k2,o2) :: r',h,k,o',hm=>by
    obtain ⟨rfl,h2,h3⟩:=h
    rcases List.mem_cons.1 hm with hm | hm
    · cases hm; exact ⟨o2,List.mem_cons_self⟩
    · obtain ⟨o,q1⟩:=borH_mem' h3 k o' hm
      exact ⟨o,List.mem_cons_of_mem _ q1⟩
  | [],_ :: _,h,_,_,_=>h.elim
  | _ :: _,[],h,_,_,_=>h.elim
theorem BorO.to {l0 b:Nat} {xs:List α} {S S':Seal} {i:Emb} (hle:S.le S') (key:∀ {a a':AV},Bor l0 e z xs a a'→∀ {v:Value},V S i a v→V S' i a' v) {w:World} {b':Nat} {o p o':AObj} (h:BorO l0 e z xs o o') (hr:ObjRel S i w b' o) (hr':ObjRel S' i w b' o):ObjRel S' i w b' o':=by
  cases h with
  | same=>exact hr'
  | cells h =>
    obtain ⟨c,t,h1,h2,h3,_⟩:=hr
    obtain ⟨c',t',h1',_,_,h4⟩:=hr'
    obtain ⟨q1,q2⟩:=h.get
    exact ⟨c,t,h1,by omega,fun j j1 j2=>key (q2 j (by omega) j1) (h3 j (by omega) j2),h4⟩
theorem AWc.sealH {c:ACode} {l0:Nat} {xs:List α} {o:AObj} {H':AHeap} (he:EncOK e z g) (hl:lkH H l0 = some o) (ho:SubO o (.rowP (cellsD e xs))) (hs:borS l0 e z xs l l') (hH:borH l0 e z xs H H') (hnd:nodupH H = true) (h:AWc P ro m c ⟨N,l'⟩ H' n Q) :
    AWc P ro m c ⟨N,l⟩ H n Q:=by
  intro cc hcc S i w ca hact hh hn
  have hm:=lkH_mem hl
  have hb1:∀ b,blk i H' b↔blk i H b:=fun b=>by
    constructor
    · rintro ⟨k,p,hm,hb⟩
      obtain ⟨q,hq,_⟩:=borH_mem hH k p hm
      exact ⟨k,q,hq,hb⟩
    · rintro ⟨k,p,hm,hb⟩
      obtain ⟨q,hq⟩:=borH_mem' hH k p hm
      exact ⟨k,q,hq,hb⟩
  have hinj:∀ k o k' o' b,(k,o)∈H'→(k',o')∈H'→i k = some b→i k' = some b→k = k':=fun k o k' o' b x y e1 e2=>by
    obtain ⟨q,hq,_⟩:=borH_mem hH k o x
    obtain ⟨q',hq',_⟩:=borH_mem hH k' o' y
    exact hh.inj _ _ _ _ b hq hq' e1 e2
  suffices key:∃ S':Seal,ActRel S' i ⟨N,l'⟩ ca∧HeapRel S' i H' w∧Tr S i H w S' i H' w by
    obtain ⟨S',hact',h2,h3⟩:=key
    refine wpIn_mono (h cc hcc S' i w ca hact' h2 hn) ?_
    rintro ex ca' w' ⟨a',H1,n1,S1,i1,q,ra,rd,rh,rn,re,rt⟩
    exact ⟨a',H1,n1,S1,i1,q,ra,rd,rh,rn,re,h3.trans rt⟩
  rcases hh.obj _ _ hm with ⟨b,hb,hrel0⟩ | ⟨h0,hz⟩
  · obtain ⟨c0,et,hc0,hsz,hv,hns⟩:=ho.1 _ _ _ _ hrel0
    obtain ⟨h1,h2,h3⟩:=seal_row (k:=xs.length * z) hh hm hb hc0 hns
    have hto:∀ {a a':AV},Bor l0 e z xs a a'→∀ {v:Value},V S i a v→V (S.row b (xs.length * z) c0) i a' v:=fun hf v=>hf.to hb h1 (fun o len cap q1 q2=>dv_row' he hsz hv h1 o len cap q1 q2)
    refine ⟨_,⟨hact.size,fun t v hv'=>?_⟩,⟨h2.cell,h2.size,fun k p hp=>?_,hinj,h2.dom,h2.gr⟩,⟨h3.up,h3.grow,h3.old,h3.newSeal,h3.newEmb,fun b hb=>.inl ((hb1 b).1 hb),h3.os,h3.out,h3.tape⟩⟩
    · obtain ⟨u,hu,hf⟩:=hs.get t v hv'
      exact hto hf (hact.get t u hu)
    · obtain ⟨q,hq,hc⟩:=borH_mem hH k p hp
      rcases hc with ⟨rfl,rfl⟩ | ⟨hne,hc⟩
      · exact h2.obj _ _ (setH_in hm)
      · have hin:(k,q)∈setH l0 (.tok (xs.length * z)) H:=setH_ne hne hq
        rcases hh.obj _ _ hq with ⟨bq,hbq,hr⟩ | ⟨hn0,hz⟩
        · rcases h2.obj _ _ hin with ⟨bq',hbq',hr'⟩ | ⟨hn0,_⟩
          · rw [hbq] at hbq'; cases hbq'
            exact .inl ⟨bq,hbq,hc.to (b:=b) (p:=q) h1 hto hr hr'⟩
          · rw [hn0] at hbq; cases hbq
        · refine .inr ⟨hn0,?_⟩
          cases hc with
          | same=>exact hz
          | cells _=>exact hz.elim
  · have hz':=ho.2 hz
    have hk:xs.length * z = 0:=by
      have h5:cellsD e xs = []:=hz'
      rw [←cellsD_len he,h5]; rfl
    refine ⟨S,⟨hact.size,fun t v hv'=>?_⟩,⟨hh.cell,hh.size,fun k p hp=>?_,hinj,hh.dom,hh.gr⟩,⟨.refl S,Nat.le_refl _,fun _ _ _=>rfl,fun a v ha=>.inl ha,fun _ _ h=>.inl h,fun x hx=>.inl ((hb1 x).1 hx),rfl,rfl,rfl⟩⟩
    · obtain ⟨u,hu,hf⟩:=hs.get t v hv'
      exact hf.dead h0 (hact.get t u hu)
    · obtain ⟨q,hq,hc⟩:=borH_mem hH k p hp
      rcases hc with ⟨rfl,rfl⟩ | ⟨hne,hc⟩
      · exact .inr ⟨h0,hk⟩
      · rcases hh.obj _ _ hq with ⟨bq,hbq,hr⟩ | ⟨hn0,hz⟩
        · exact .inl ⟨bq,hbq,hc.to (b:=0) (p:=q) (.refl S) (fun hf v=>hf.dead h0) hr hr⟩
        · refine .inr ⟨hn0,?_⟩
          cases hc with
          | same=>exact hz
          | cells _=>exact hz.elim
end
section
variable {P:Program}
theorem mkAgg_lit:∀ {C:List Value},C≠[]→mkAgg (C.map .lit) = .agg (C.map .lit)
  | [],h=>absurd rfl h
  | c :: r,_=>rfl
theorem AOpT.ldRaw {A:List (Nat×AV)} {x:Arg} {l off z:Nat} {L:List AV} (hx:evA A x = some (.ptr l off)) (hz:0 < z) (hle:off + z≤L.length):AOpT P (.load x z true) A [(l,.cells L)] (.agg ((L.drop off).take z)) [(l,.cells L)]:=by
  have key:∀ C:List Value,C.length = L.length→AOpT P (.load x z true) A [(l,.cells (C.map .lit))] (.agg (((C.drop off).take z).map .lit)) [(l,.cells (C.map .lit))]:=fun C hC=>by
    refine evOp_ok (own:=false) (nl:=0) (H:=[(l,.cells (C.map .lit))]) (q:=⟨_,_,_,off + z≤(C.map AV.lit).length⟩) ?_ (by rw [List.length_map,hC]; exact hle)
    simp only [evOp,hx,Option.bind_some,loadA,lk1,cond_true]
    rw [←List.map_drop,←List.map_take,mkAgg_lit]
    intro h
    have:=congrArg List.length h
    simp at this
    omega
  refine ⟨(key (List.replicate L.length undef) (by simp)).1,fun o ho=>⟨((key (List.replicate L.length undef) (by simp)).2 o ho).1,fun S i w ρ hev hh hf=>?_⟩⟩
  rcases hh.obj _ _ List.mem_cons_self with ⟨b,hb,c,e,hc,hs,hv,hns⟩ | ⟨_,hz⟩
  case inr=>exact hz.elim
  have hh':HeapRel S i [(l,.cells (c.toList.map .lit))] w:=by
    refine ⟨hh.cell,hh.size,fun k o hm=>?_,fun k o k' o' b x y _ _=>?_,hh.dom,hh.gr⟩
    · cases List.mem_singleton.1 hm
      refine .inl ⟨b,hb,c,e,hc,by simp,fun j k1 k2=>?_,hns⟩
      simp only [List.getElem_map,Array.getElem_toList]
      exact .lit
    · cases List.mem_singleton.1 x; cases List.mem_singleton.1 y; rfl
  refine (((key c.toList (by simpa using hs)).2 o ho).2 S i w ρ hev hh' hf).mono fun v w' hp=>?_
  obtain ⟨S',i',p1,p2,p3,p4,p5⟩:=hp
  have hb1:∀ {k:Emb} {b:Nat} {p q:AObj},blk k [(l,p)] b→blk k [(l,q)] b:=by
    rintro k b p q ⟨l,o,hm,hk⟩
    cases List.mem_singleton.1 hm
    exact ⟨l,q,List.mem_singleton.2 rfl,hk⟩
  rcases p2.obj _ _ List.mem_cons_self with ⟨b',hb',c',e',hc',hs',hv',hns'⟩ | ⟨_,hz⟩
  case inr=>exact hz.elim
  have hcc:c' = c:=by
    refine Array.ext (by simpa using hs') fun j h1 h2=>?_
    have:=hv' j (by simpa using h2) h1
    rw [List.getElem_map] at this
    simpa using vLit this
  subst hcc
  refine ⟨S',i',?_,⟨p2.cell,p2.size,fun k o hm=>?_,fun k o k' o' b x y _ _=>?_,p2.dom,p2.gr⟩,p3,⟨p4.up,p4.grow,fun b hb hx=>p4.old b hb fun h=>hx (hb1 h),fun a v h=>(p4.newSeal a v h).imp id (Or.imp hb1 id),fun l b h=>(p4.newEmb l b h).imp id (Or.imp hb1 id),
    fun b h=>(p4.sub b (hb1 h)).imp hb1 id,p4.os,p4.out,p4.tape⟩,p5⟩
  · generalize hV:AV.agg (((c'.toList.drop off).take z).map .lit) = a at p1
    cases p1 <;> first | (cases hV; done) | skip
    rename_i vs hl h
    cases hV
    refine .agg (by rw [←hl]; simp; omega) fun j h1 h2=>?_
    have hj:j < z:=by simp at h1; omega
    have h3:=h j (by rw [hl]; exact h2) h2
    rw [List.getElem_map] at h3
    have h4:=vLit h3
    rw [h4]
    simp only [List.getElem_take,List.getElem_drop,Array.getElem_toList]
    exact (hv (off + j) (by omega) (by omega)).mono p4.up p3
  · cases List.mem_singleton.1 hm
    refine .inl ⟨b',hb',c',e',hc',hs,fun j h1 h2=>(hv j h1 h2).mono p4.up p3,hns'⟩
  · cases List.mem_singleton.1 x; cases List.mem_singleton.1 y; rfl
def rlQ (l0 z0:Nat) (u:List (Nat×AV)) (H:AHeap):AOp→Option QO
  | .load x z true=>match evA u x with
    | some (.ptr l off)=>match lkH H l with
      | some (.cells L)=>bif (Nat.beq l l0 && Nat.beq z z0) && (Nat.blt 0 z && Nat.ble (off + z) L.length) then some ⟨.agg ((L.drop off).take z),[(l,.cells L)],[(l,.cells L)],true,[]⟩ else none
      | _=>none
    | _=>none
  | _=>none
def Ev.rawL (l0 z0:Nat):Ev P:=.q ⟨fun _ u H op=>rlQ l0 z0 u H op,fun {nl u H op r} h hc=>by
  unfold rlQ at h
  split at h <;> first | cases h | skip
  split at h <;> first | cases h | skip
  rename_i hx
  split at h <;> first | cases h | skip
  rename_i L hl
  generalize hb:((Nat.beq _ l0 && Nat.beq _ z0) && (Nat.blt 0 _ && Nat.ble _ L.length)) = bb at h
  cases bb <;> cases h
  simp only [Bool.and_eq_true] at hb
  exact ⟨AOpT.ldRaw hx (Nat.le_of_ble_eq_true hb.2.1) (Nat.le_of_ble_eq_true hb.2.2),fun y hy=>(by cases List.mem_singleton.1 hy; exact lkH_mem hl),fun _=>rfl⟩⟩
end
end Go.Proofs.Abs
end
section
namespace Go.Proofs.Abs
open Go
set_option linter.unusedVariables false
set_option linter.unusedSectionVars false
set_option linter.unusedSimpArgs false
def pfind (ks:List Nat):List (D×D×Nat)→List D→Option (Option (Nat×D×Nat))
  | [],_=>some none
  | (.agg ys,v) :: r,xs=>match eqDs ks xs ys with
    | some true=>some (some (0,v))
    | some false=>(pfind ks r xs).map fun o=>o.map fun x=>(x.1 + 1,x.2)
    | none=>none
  | _,_=>none
section
variable {P:Program}
theorem lookup_inv {op:Op} {x k:Arg} {ks:List Nat} {z:D} {ok:Bool} (h:compOp P op = .mgetp x k ks z ok):∃ t x' k' kt et j v fs,op = .lookup t x' k' ok∧argA x' = some x∧argA k' = some k∧und P t = .map kt et∧und P kt = .struct fs∧plainKinds P fs.toList 0 = some ks ∧
    P.stoodInHeld kt = false∧P.info? et = some j∧j.zero = some v∧constD v = some z:=by
  cases op with
  | lookup t x' i ok' =>
    simp only [compOp] at h
    split at h
    · rename_i a b kt et h1 h2 h3
      split at h
      · cases h
      · rename_i fs zz h4 h5
        split at h
        · rename_i ks' hks
          split at h
          · rename_i hg
            cases h
            simp only [Option.bind_eq_some_iff] at h5
            obtain ⟨v,⟨j,hj,hv⟩,hz⟩:=h5
            exact ⟨t,x',i,kt,et,j,v,fs,rfl,h1,h2,h3,h4,hks,by simpa using hg,hj,hv,hz⟩
          · cases h
        · cases h
      · cases h
    · cases h
  | call c =>
    exfalso
    rcases compCall_inv (P:=P) (c:=c) with hb | hk
    · simp only [compOp] at h
      rw [hb] at h
      cases h
    · simp only [compOp] at h
      rw [h] at hk
      cases hk
  | makeFunc fn first caps =>
    exfalso
    cases fn with
    | func f =>
      simp only [compOp] at h
      repeat' split at h
      all_goals cases h
    | _=>cases h
  | makeMap t r=>cases r <;> simp [compOp] at h
  | _ =>
    exfalso
    unfold compOp at h
    simp only [compBin,compConv,szK,sbK,aggK] at h
    repeat' split at h
    all_goals first | (cases h; done) | skip
theorem update_inv {op:Op} {x k v:Arg} {ks:List Nat} (h:compOp P op = .msetp x k v ks):∃ t x' k' v' kt et fs,op = .mapUpdate t x' k' v'∧argA x' = some x∧argA k' = some k∧argA v' = some v∧und P t = .map kt et∧und P kt = .struct fs∧plainKinds P fs.toList 0 = some ks ∧
    P.stoodInHeld kt = false:=by
  cases op with
  | mapUpdate t x' k' v' =>
    simp only [compOp] at h
    split at h
    · rename_i a b c kt et h1 h2 h3 h4
      split at h
      · cases h
      · rename_i fs h5
        split at h
        · rename_i ks' hks
          split at h
          · rename_i hg
            cases h
            exact ⟨t,x',k',v',kt,et,fs,rfl,h1,h2,h3,h4,h5,hks,by simpa using hg⟩
          · cases h
        · cases h
      · cases h
    · cases h
  | call c =>
    exfalso
    rcases compCall_inv (P:=P) (c:=c) with hb | hk
    · simp only [compOp] at h
      rw [hb] at h
      cases h
    · simp only [compOp] at h
      rw [h] at hk
      cases hk
  | makeFunc fn first caps =>
    exfalso
    cases fn with
    | func f =>
      simp only [compOp] at h
      repeat' split at h
      all_goals cases h
    | _=>cases h
  | makeMap t r=>cases r <;> simp [compOp] at h
  | _ =>
    exfalso
    unfold compOp at h
    simp only [compBin,compConv,szK,sbK,aggK] at h
    repeat' split at h
    all_goals first | (cases h; done) | skip
theorem run_eqS {S:Seal} {w:World} {t:TypeId} {fs:Array Field} {ks:List Nat} {xs ys:List D} {b:Bool} {u v:Value} (ht:P.underlying t = some (.struct fs)) (hks:plainKinds P fs.toList 0 = some ks) (hg:P.stoodInHeld t = false)
    (h:eqDs ks xs ys = some b) (h1:DV S (.agg xs) u) (h2:DV S (.agg ys) v):(Op.equal t u v).run P w = .ok b w:=by
  obtain ⟨us,hu,hul,_,hus⟩:=dAgg_cells h1
  obtain ⟨vs,hv,hvl,_,hvs⟩:=dAgg_cells h2
  rw [hu,hv]
  have hund:(underlying t).run P w = .ok (.struct fs) w:=by simp [underlying,ht]
  show (Op.equalIn (9998 + 1 + 1) t _ _).run P w = _
  rw [Op.equalIn]
  simp only [Sem.run_bind,hund,Result.andThen_ok]
  have hpr:(program:Sem Program).run P w = .ok P w:=rfl
  simp only [hpr,Result.andThen_ok,hg,Bool.false_eq_true,if_false]
  have:=eq_loop (P:=P) (S:=S) (w:=w) (d:=9998) (us:=us) (vs:=vs) fs.toList 0 ks xs ys b hks h (fun j hj=>⟨us[j],by simp,hus j hj (by omega)⟩) (fun j hj=>⟨vs[j],by simp,hvs j hj (by omega)⟩)
  rw [←Array.forIn_toList]
  simp only [Sem.run_bind]
  rw [this,Result.andThen_ok]
  cases b <;> rfl
def EsD (S:Seal) (es:List (D×D×Nat)) (l:List MapEntry):Prop:=es.length = l.length∧∀ j (h1:j < es.length) (h2:j < l.length),DV S es[j].1 l[j].key∧DV S es[j].2.1 l[j].val∧l[j].born = es[j].2.2
theorem esD_cons {S:Seal} {a:D×D×Nat} {e:MapEntry} {es:List (D×D×Nat)} {l:List MapEntry}:EsD S (a :: es) (e :: l)↔(DV S a.1 e.key∧DV S a.2.1 e.val∧e.born = a.2.2)∧EsD S es l:=by
  constructor
  · rintro ⟨h1,h2⟩
    refine ⟨h2 0 (by simp) (by simp),by simpa using h1,fun j j1 j2=>?_⟩
    exact h2 (j + 1) (by simpa using j1) (by simpa using j2)
  · rintro ⟨h0,h1,h2⟩
    refine ⟨by simpa using h1,fun j j1 j2=>?_⟩
    cases j with
    | zero=>exact h0
    | succ j=>exact h2 j (by simpa using j1) (by simpa using j2)
theorem ask_at {S:Seal} {w:World} {kt:TypeId} {fs:Array Field} {ks:List Nat} {xs:List D} {u:Value} (ht:P.underlying kt = some (.struct fs)) (hks:plainKinds P fs.toList 0 = some ks) (hg:P.stoodInHeld kt = false) (hu:DV S (.agg xs) u) :
    ∀ (es:List (D×D×Nat)) (l:List MapEntry) (i:Nat) (q:Option (Nat×D×Nat)),EsD S es l→pfind ks es xs = some q→∃ a,(Instr.findAsking kt u l i).run P w = .ok a w ∧
      (match q with
        | none=>a = none
        | some (j,d)=>∃ (h:j < l.length),a = some (i + j,l[j].val)∧∃ (h2:j < es.length),es[j].2 = d∧∃ ys,es[j].1 = .agg ys∧eqDs ks xs ys = some true)
  | [],[],i,q,h,hq=>by cases hq; exact ⟨none,rfl,rfl⟩
  | [],_ :: _,i,q,h,hq=>by cases h.1
  | _ :: _,[],i,q,h,hq=>by cases h.1
  | (y,d) :: es,e :: l,i,q,h,hq=>by
    obtain ⟨⟨h1,h2⟩,h3⟩:=esD_cons.1 h
    simp only at h1 h2
    cases y <;> simp only [pfind] at hq <;> try (cases hq; done)
    rename_i ys
    split at hq
    · rename_i he
      cases hq
      refine ⟨some (i,e.val),?_,by simp,by simp,by simp,rfl,ys,rfl,he⟩
      simp only [Instr.findAsking,Sem.run_bind,run_eqS (P:=P) (w:=w) ht hks hg he hu h1,Result.andThen_ok,if_true,Sem.run_pure]
    · rename_i he
      obtain ⟨q',hq',rfl⟩:=Option.map_eq_some_iff.1 hq
      obtain ⟨a,ha,hp⟩:=ask_at ht hks hg hu es l (i + 1) q' h3 hq'
      refine ⟨a,?_,?_⟩
      · simp only [Instr.findAsking,Sem.run_bind,run_eqS (P:=P) (w:=w) ht hks hg he hu h1,Result.andThen_ok,Bool.false_eq_true,if_false]
        exact ha
      · cases q' with
        | none=>exact hp
        | some x =>
          obtain ⟨j,d'⟩:=x
          obtain ⟨g1,g2,g3,g4,g5⟩:=hp
          refine ⟨by simp; exact g1,?_,by simp; exact g3,by simpa using g4,by simpa using g5⟩
          rw [g2]
          simp only [List.getElem_cons_succ,Option.some.injEq,Prod.mk.injEq,and_true]
          omega
    · cases hq
theorem key_find {S:Seal} {w:World} {kt:TypeId} {fs:Array Field} {ks:List Nat} {xs:List D} {u:Value} (ht:P.underlying kt = some (.struct fs)) (hks:plainKinds P fs.toList 0 = some ks) (hg:P.stoodInHeld kt = false) (hu:DV S (.agg xs) u)
    {es:List (D×D×Nat)} {l:List MapEntry} {q:Option (Nat×D×Nat)} (hes:EsD S es l) (hq:pfind ks es xs = some q):∃ a,(Instr.findKey kt u l).run P w = .ok a w ∧
      (match q with
        | none=>a = none
        | some (j,d)=>∃ (h:j < l.length),a = some (j,l[j].val)∧∃ (h2:j < es.length),es[j].2 = d∧∃ ys,es[j].1 = .agg ys∧eqDs ks xs ys = some true):=by
  have hund:(underlying kt).run P w = .ok (.struct fs) w:=by simp [underlying,ht]
  cases l with
  | nil =>
    cases es with
    | nil =>
      cases hq
      refine ⟨none,?_,rfl⟩
      simp only [Instr.findKey,Sem.run_bind,hund,Result.andThen_ok,Instr.findNow,Sem.run_pure]
    | cons _ _=>cases hes.1
  | cons e l =>
    obtain ⟨a,h1,h2⟩:=ask_at (w:=w) ht hks hg hu es (e :: l) 0 q hes hq
    refine ⟨a,?_,?_⟩
    · simp only [Instr.findKey,Sem.run_bind,hund,Result.andThen_ok,Instr.findNow,Instr.sameNow]
      exact h1
    · cases q with
      | none=>exact h2
      | some x=>simpa using h2
theorem check_loop {w:World} {e:Bool} {n:Nat} {us:List Value}:∀ (fs:List Field) (m:Nat) (ks:List Nat),plainKinds P fs m = some ks→m + fs.length≤us.length →
    (forIn fs PUnit.unit fun f r=>if f.name≠"_" then do
      let x ←part f.type us.toArray f.offset
      Instr.checkKey e (n + 1) f.type x
      pure (ForInStep.yield PUnit.unit) else do
      pure PUnit.unit
      pure (ForInStep.yield PUnit.unit):Sem _).run P w = .ok PUnit.unit w
  | [],m,ks,hk,hl=>rfl
  | f :: r,m,ks,hk,hl=>by
    obtain ⟨h1,h2,k,ks',rfl,hk',dd,hd,ha,hcase⟩:=plainKinds_cons hk
    have hm:m < us.length:=by simp at hl; omega
    have p1:=run_part (P:=P) (w:=w) (cs:=us.toArray) (off:=f.offset) hd ha (v:=us[m]) (by rw [h1]; simp [hm])
    have ih:=check_loop (e:=e) (n:=n) (w:=w) (us:=us) r (m + 1) ks' hk' (by simp at hl; omega)
    have hc:(Instr.checkKey e (n + 1) f.type us[m]).run P w = .ok () w:=by
      have hund:(underlying f.type).run P w = .ok dd w:=by simp [underlying,hd]
      rw [Instr.checkKey]
      simp only [Sem.run_bind,hund,Result.andThen_ok]
      rcases hcase with ⟨_,kd,rfl⟩ | ⟨_,rfl⟩ | ⟨_,rfl⟩ <;> rfl
    rw [List.forIn_cons]
    simp only [ne_eq,h2,not_false_eq_true,if_true,Sem.run_bind,p1,hc,Result.andThen_ok,Sem.run_pure]
    exact ih
theorem run_checkS {S:Seal} {w:World} {kt:TypeId} {fs:Array Field} {ks:List Nat} {xs:List D} {u:Value} {e:Bool} (ht:P.underlying kt = some (.struct fs)) (hks:plainKinds P fs.toList 0 = some ks) (hl:ks.length = xs.length) (hu:DV S (.agg xs) u) :
    (Instr.checkKey e 10000 kt u).run P w = .ok () w:=by
  obtain ⟨us,hu',hul,_,hus⟩:=dAgg_cells hu
  rw [hu']
  have hund:(underlying kt).run P w = .ok (.struct fs) w:=by simp [underlying,ht]
  have hkl:∀ (fs:List Field) (m:Nat) (ks:List Nat),plainKinds P fs m = some ks→ks.length = fs.length:=by
    intro fs
    induction fs with
    | nil=>intro m ks h; cases h; rfl
    | cons f r ih =>
      intro m ks h
      obtain ⟨_,_,k,ks',rfl,hk',_⟩:=plainKinds_cons h
      simp [ih _ _ hk']
  show (Instr.checkKey e (9998 + 1 + 1) kt _).run P w = _
  rw [Instr.checkKey]
  simp only [Sem.run_bind,hund,Result.andThen_ok]
  have:=check_loop (P:=P) (w:=w) (e:=e) (n:=9998) (us:=us) fs.toList 0 ks hks (by rw [←hkl _ _ _ hks,hl]; omega)
  rw [←Array.forIn_toList]
  rw [this]
  rfl
theorem same_loop {S:Seal} {n:Nat}:∀ (ks:List Nat) (xs ys:List D) (us vs:List Value),eqDs ks xs ys = some true→xs.length = us.length→ys.length = vs.length→(∀ j (h1:j < xs.length) (h2:j < us.length),DV S xs[j] us[j])→(∀ j (h1:j < ys.length) (h2:j < vs.length),DV S ys[j] vs[j]) →
    us.length = vs.length∧((vs.zip us).all fun (x,y)=>Instr.sameBits n x y) = true
  | ks,[],ys,us,vs,h,l1,l2,h1,h2=>by
    cases ks with
    | cons k ks=>simp [eqDs] at h
    | nil =>
      cases ys with
      | cons _ _=>simp [eqDs] at h
      | nil =>
        cases us with
        | cons _ _=>cases l1
        | nil=>cases vs with
          | cons _ _=>cases l2
          | nil=>exact ⟨rfl,rfl⟩
  | [],x :: xs,ys,us,vs,h,l1,l2,h1,h2=>by simp [eqDs] at h
  | k :: ks,x :: xs,[],us,vs,h,l1,l2,h1,h2=>by
    exfalso
    match k with
    | 0=>cases x <;> simp [eqDs] at h
    | 1=>cases x <;> simp [eqDs] at h
    | 2=>cases x <;> simp [eqDs] at h
    | k + 3=>simp [eqDs] at h
  | k :: ks,x :: xs,y :: ys,us,vs,h,l1,l2,h1,h2=>by
    cases us with
    | nil=>cases l1
    | cons u us =>
      cases vs with
      | nil=>cases l2
      | cons v vs =>
        have hu:DV S x u:=h1 0 (by simp) (by simp)
        have hv:DV S y v:=h2 0 (by simp) (by simp)
        have key:eqDs ks xs ys = some true∧Instr.sameBits n v u = true:=by
          match k with
          | 0 =>
            cases x <;> cases y <;> simp only [eqDs,reduceCtorEq] at h
            rename_i k1 a k2 b
            cases hkk:decide (k1 = k2) <;> rw [hkk] at h <;> simp only [cond_true,cond_false,Option.map_eq_some_iff,reduceCtorEq] at h
            obtain ⟨b2,hb2,hab⟩:=h
            rw [Bool.and_eq_true] at hab
            cases hu; cases hv
            refine ⟨by rw [hb2,hab.2],?_⟩
            have e1:=of_decide_eq_true hkk
            have e2:=of_decide_eq_true hab.1
            subst e1 e2
            cases n <;> simp [Instr.sameBits]
          | 1 =>
            cases x <;> cases y <;> simp only [eqDs,reduceCtorEq] at h
            simp only [Option.map_eq_some_iff] at h
            obtain ⟨b2,hb2,hab⟩:=h
            rw [Bool.and_eq_true] at hab
            cases hu; cases hv
            refine ⟨by rw [hb2,hab.2],?_⟩
            have e2:=of_decide_eq_true hab.1
            subst e2
            cases n <;> simp [Instr.sameBits,ba_beq]
          | 2 =>
            cases x <;> cases y <;> simp only [eqDs,reduceCtorEq] at h
            simp only [Option.map_eq_some_iff] at h
            obtain ⟨b2,hb2,hab⟩:=h
            rw [Bool.and_eq_true] at hab
            cases hu; cases hv
            refine ⟨by rw [hb2,hab.2],?_⟩
            have e2:=eq_of_beq hab.1
            subst e2
            cases n <;> simp [Instr.sameBits]
          | k + 3=>simp [eqDs] at h
        obtain ⟨g1,g2⟩:=same_loop ks xs ys us vs key.1 (by simpa using l1) (by simpa using l2) (fun j j1 j2=>h1 (j + 1) (by simpa using j1) (by simpa using j2)) (fun j j1 j2=>h2 (j + 1) (by simpa using j1) (by simpa using j2))
        refine ⟨by simp [g1],?_⟩
        simp only [List.zip_cons_cons,List.all_cons,Bool.and_eq_true]
        exact ⟨key.2,g2⟩
theorem run_stays {S:Seal} {w:World} {ks:List Nat} {xs ys:List D} {u v:Value} (h:eqDs ks xs ys = some true) (h1:DV S (.agg xs) u) (h2:DV S (.agg ys) v):(Instr.keyThatStays v u).run P w = .ok u w:=by
  obtain ⟨us,hu,hul,_,hus⟩:=dAgg_cells h1
  obtain ⟨vs,hv,hvl,_,hvs⟩:=dAgg_cells h2
  have hs:Instr.sameBits 10000 v u = true:=by
    obtain ⟨g1,g2⟩:=same_loop (S:=S) (n:=9999) ks xs ys us vs h (by omega) (by omega) (fun j j1 j2=>hus j j1 j2) (fun j j1 j2=>hvs j j1 j2)
    rw [hu,hv]
    show (vs.toArray.size == us.toArray.size && _) = true
    simp only [List.size_toArray,g1,beq_self_eq_true,Bool.true_and]
    exact g2
  simp only [Instr.keyThatStays,hs,if_true,Sem.run_pure]
theorem objD_iff {S:Seal} {i:Emb} {w:World} {b k:Nat} {es:List (D×D×Nat)}:ObjRel S i w b (.mpb es k)↔∃ c,w.heap[b]? = some (.map c k)∧EsD S es c.toList∧∀ a:Addr,a.block = b→S.cell a = none:=by
  constructor
  · rintro ⟨c,h1,h2,h3,h4⟩
    exact ⟨c,h1,⟨by simp [h2],fun j j1 j2=>h3 j j1 (by simpa using j2)⟩,h4⟩
  · rintro ⟨c,h1,⟨h2,h3⟩,h4⟩
    exact ⟨c,h1,by simp [h2],fun j j1 j2=>h3 j j1 (by simpa using j2),h4⟩
theorem post_setmapD {S:Seal} {i:Emb} {w:World} {l b k k':Nat} {m m':List (D×D×Nat)} {c c':Array MapEntry} {r:AV} {v:Value} (hh:HeapRel S i [(l,.mpb m k)] w) (hi:i l = some b)
    (hc:w.heap[b]? = some (.map c k)) (hns:∀ a:Addr,a.block = b→S.cell a = none) (he:EsD S m' c'.toList) (hr:V S i r v) :
    Post S i [(l,.mpb m k)] w r [(l,.mpb m' k')] v { w with heap:=w.heap.setIfInBounds b (.map c' k') }:=by
  obtain ⟨hnew,hold⟩:=MapKept.heap_set (o':=.map c' k') hc
  have hblk:blk i [(l,.mpb m k)] b:=⟨l,_,List.mem_cons_self,hi⟩
  have hcell:∀ a v,a.block≠b→w.cell? a = some v→World.cell? { w with heap:=w.heap.setIfInBounds b (.map c' k') } a = some v:=fun a v hb ha=>by
    unfold World.cell? at *
    show (match (w.heap.setIfInBounds b (.map c' k'))[a.block]? with | _=>_) = _
    rw [hold _ hb]
    exact ha
  refine ⟨S,i,hr,⟨fun a v ha=>?_,fun k n hk=>?_,?_,?_,fun l b hb=>(by show b < (w.heap.setIfInBounds _ _).size; rw [Array.size_setIfInBounds]; exact hh.dom l b hb),hh.gr⟩,fun _ _ h=>h,
    ⟨.refl S,by show w.heap.size≤(w.heap.setIfInBounds _ _).size; rw [Array.size_setIfInBounds]; exact Nat.le_refl _,fun k _ hk=>hold k fun hkb=>hk (hkb ▸ hblk),fun a v h=>.inl h,fun l b h=>.inl h,?_,rfl,rfl,rfl⟩,fun l b h=>.inl h⟩
  · by_cases hb:a.block = b
    · rw [hns a hb] at ha; cases ha
    · exact hcell a v hb (hh.cell a v ha)
  · by_cases hb:k = b
    · subst hb
      obtain ⟨c0,e0,f0,h0,hs0⟩:=hh.size k n hk
      rw [hc] at h0
      cases h0
    · show ∃ c e f,(w.heap.setIfInBounds b (.map c' k'))[k]? = _∧_
      rw [hold k hb]; exact hh.size k n hk
  · intro l' o' hm
    simp only [List.mem_singleton,Prod.mk.injEq] at hm
    obtain ⟨rfl,rfl⟩:=hm
    exact .inl ⟨b,hi,objD_iff.2 ⟨c',hnew,he,hns⟩⟩
  · intro l1 o1 l2 o2 b' hm hm' _ _
    simp only [List.mem_singleton,Prod.mk.injEq] at hm hm'
    rw [hm.1,hm'.1]
  · rintro b' ⟨l',o',hm,hb⟩
    simp only [List.mem_singleton,Prod.mk.injEq] at hm
    refine .inl ⟨l,_,List.mem_cons_self,?_⟩
    rw [←hm.1]; exact hb
def pval (q:Option (Nat×D×Nat)) (z:D):D:=match q with
  | some (_,d,_)=>d
  | none=>z
def pputD (q:Option (Nat×D×Nat)) (es:List (D×D×Nat)) (k d:D) (n:Nat):List (D×D×Nat):=match q with
  | some (j,_,b)=>es.set j (k,d,b)
  | none=>es ++ [(k,d,n)]
def pclk (q:Option (Nat×D×Nat)) (n:Nat):Nat:=match q with
  | some _=>n
  | none=>n + 1
def pborn (q:Option (Nat×D×Nat)) (n:Nat):Nat:=match q with
  | some (_,_,b)=>b
  | none=>n
theorem constD_dv {S:Seal} {v:Value} {z:D} (h:constD v = some z):DV S z v:=by
  exact (constD_ok (S:=S) h).1
theorem AOpT.mgetp {u:List (Nat×AV)} {x k:Arg} {l n:Nat} {es:List (D×D×Nat)} {ks:List Nat} {xs:List D} {q:Option (Nat×D×Nat)} {z:D} {ok:Bool} (hx:evA u x = some (.mp l)) (hk:evA u k = some (.d (.agg xs))) (hl:ks.length = xs.length) (hq:pfind ks es xs = some q) :
    AOpT P (.mgetp x k ks z ok) u [(l,.mpb es n)] (bif ok then .tup [.d (pval q z),.d (.bool q.isSome)] else .d (pval q z)) [(l,.mpb es n)]:=by
  refine ⟨fun y hy h=>by rw [hy] at h; exact absurd h (by simp),fun o ho=>?_⟩
  obtain ⟨t,x',k',kt,et,j,v0,fs,hop,hxa,hka,ht,hkt,hks,hg,hj,hz,hzc⟩:=lookup_inv ho
  have h1:=und_some ht (by simp)
  have h2:=und_some hkt (by simp)
  refine .pure (by simp [hop]) fun S i w ρ hev hh=>?_
  have hvx:=argV hev hxa hx
  have hvk:=vD (argV hev hka hk)
  generalize hux:ρ x' = ux at hvx
  cases hvx with
  | mp hi =>
    rename_i b
    rcases hh.obj l (.mpb es n) List.mem_cons_self with ⟨b',hb',ho⟩ | ⟨hn,_⟩
    case inr=>rw [hi] at hn; cases hn
    rw [hi] at hb'
    cases hb'
    obtain ⟨c,hc,hes,hns⟩:=objD_iff.1 ho
    obtain ⟨a,hf,hp⟩:=key_find (P:=P) (w:=w) h2 hks hg hvk hes hq
    have hck:∀ e,(Instr.checkKey e 10000 kt (ρ k')).run P w = .ok () w:=fun e=>run_checkS h2 hks hl hvk
    have key:∃ v,DV S (pval q z) v∧(execOp ρ o).run P w = .ok (.value (if ok then .tuple #[v,.bool q.isSome] else v)) w:=by
      cases q with
      | none =>
        subst hp
        refine ⟨v0,constD_dv hzc,?_⟩
        simp only [execOp,hop,hux,Instr.lookup,Sem.run_bind,run_und h1,MapKept.run_getObj_map hc,Result.andThen_ok,Sem.run_pure,hck,hf,run_zeroValue hj hz]
        rfl
      | some y =>
        obtain ⟨jj,d,bb⟩:=y
        obtain ⟨g1,g2,g3,g4,_⟩:=hp
        subst g2
        refine ⟨c.toList[jj].val,?_,?_⟩
        · have:=(hes.2 jj g3 g1).2.1
          simp only [pval]
          rw [g4] at this
          exact this
        · simp only [execOp,hop,hux,Instr.lookup,Sem.run_bind,run_und h1,MapKept.run_getObj_map hc,Result.andThen_ok,Sem.run_pure,hck,hf]
          rfl
    obtain ⟨v,hv,hrun⟩:=key
    refine ⟨_,hrun,?_⟩
    cases ok with
    | false=>exact .d hv
    | true =>
      refine .tup rfl fun n g1 g2=>?_
      match n,g1 with
      | 0,_=>exact .d hv
      | 1,_=>exact .d .bool
theorem esD_put {S:Seal} {es:List (D×D×Nat)} {c:Array MapEntry} {ku vu:Value} {kd vd:D} {n:Nat} (hes:EsD S es c.toList) (hk:DV S kd ku) (hv:DV S vd vu):EsD S (es ++ [(kd,vd,n)]) (c.push { key:=ku,val:=vu,born:=n }).toList:=by
  obtain ⟨e1,e2⟩:=hes
  refine ⟨by simp [e1],fun j j1 j2=>?_⟩
  simp only [Array.toList_push]
  by_cases hj:j < es.length
  · rw [List.getElem_append_left hj]
    have:((c.toList ++ [{ key:=ku,val:=vu,born:=n:MapEntry }])[j]'(by simpa using j2)) = c.toList[j]'(by omega):=List.getElem_append_left (by omega)
    rw [this]
    exact e2 j hj (by omega)
  · have hje:j = es.length:=by simp at j1; omega
    subst hje
    have:((c.toList ++ [{ key:=ku,val:=vu,born:=n:MapEntry }])[es.length]'(by simpa using j2)) = { key:=ku,val:=vu,born:=n:MapEntry }:=by
      rw [List.getElem_append_right (by omega)]
      simp [e1]
    rw [this]
    simp only [List.getElem_concat_length]
    exact ⟨hk,hv,trivial⟩
theorem esD_set {S:Seal} {es:List (D×D×Nat)} {c:Array MapEntry} {kd vd:D} {n jj:Nat} (f:MapEntry→MapEntry) (hes:EsD S es c.toList) (g3:jj < es.length) (g1:jj < c.size) (hk:DV S kd (f c[jj]).key) (hv:DV S vd (f c[jj]).val) (hb:(f c[jj]).born = n):EsD S (es.set jj (kd,vd,n)) (c.modify jj f).toList:=by
  obtain ⟨e1,e2⟩:=hes
  refine ⟨by simp at e1 ⊢; exact e1,fun j j1 j2=>?_⟩
  have hj:j < es.length:=by simpa using j1
  have hjs:j < c.size:=by simpa using j2
  simp only [List.getElem_set,Array.getElem_toList,Array.getElem_modify]
  by_cases hq:jj = j
  · subst hq
    rw [if_pos rfl,if_pos rfl]
    exact ⟨hk,hv,hb⟩
  · rw [if_neg hq,if_neg hq]
    have:=e2 j hj (by simpa using hjs)
    rwa [Array.getElem_toList] at this
theorem AOpT.msetp {u:List (Nat×AV)} {x k v:Arg} {l n:Nat} {es:List (D×D×Nat)} {ks:List Nat} {xs:List D} {q:Option (Nat×D×Nat)} {w0:AV} {d:D} (hx:evA u x = some (.mp l)) (hk:evA u k = some (.d (.agg xs))) (hl:ks.length = xs.length) (hq:pfind ks es xs = some q)
    (hv:evA u v = some w0) (hs:Sub w0 (.d d)):AOpT P (.msetp x k v ks) u [(l,.mpb es n)] .any [(l,.mpb (pputD q es (.agg xs) d n) (pclk q n))]:=by
  refine ⟨fun y hy h=>by rw [hy] at h; exact absurd h (by simp),fun o ho=>?_⟩
  obtain ⟨t,x',k',v',kt,et,fs,hop,hxa,hka,hva,ht,hkt,hks,hg⟩:=update_inv ho
  have h1:=und_some ht (by simp)
  have h2:=und_some hkt (by simp)
  refine ⟨by simp [hop],fun S i w ρ hev hh hf=>?_⟩
  have hvx:=argV hev hxa hx
  have hvk:=vD (argV hev hka hk)
  have hvv:DV S d (ρ v'):=vD (hs _ _ _ (argV hev hva hv))
  generalize hux:ρ x' = ux at hvx
  cases hvx with
  | mp hi =>
    rename_i b
    rcases hh.obj l (.mpb es n) List.mem_cons_self with ⟨b',hb',ho⟩ | ⟨hn,_⟩
    case inr=>rw [hi] at hn; cases hn
    rw [hi] at hb'
    cases hb'
    obtain ⟨c,hc,hes,hns⟩:=objD_iff.1 ho
    obtain ⟨a,hfk,hp⟩:=key_find (P:=P) (w:=w) h2 hks hg hvk hes hq
    have hck:∀ e,(Instr.checkKey e 10000 kt (ρ k')).run P w = .ok () w:=fun e=>run_checkS h2 hks hl hvk
    cases q with
    | none =>
      subst hp
      have hrun:(execOp ρ o).run P w = .ok .skip { w with heap:=w.heap.setIfInBounds b (.map (c.push { key:=ρ k',val:=ρ v',born:=n }) (n + 1)) }:=by
        simp only [execOp,hop,hux,Instr.mapUpdate,Sem.run_bind,run_und h1,MapKept.run_getObj_map hc,Result.andThen_ok,Sem.run_pure,hck,hfk,MapKept.run_setObj_map _ hc]
      rw [hrun]
      exact post_setmapD hh hi hc hns (esD_put hes hvk hvv) .any
    | some y =>
      obtain ⟨jj,d0,bb⟩:=y
      obtain ⟨g1,g2,g3,g4,ys,g5,g6⟩:=hp
      subst g2
      have hjc:jj < c.size:=by simpa using g1
      have hj3:DV S es[jj].1 c[jj].key∧DV S es[jj].2.1 c[jj].val∧c[jj].born = es[jj].2.2:=hes.2 jj g3 g1
      have hyk:DV S (.agg ys) c[jj].key:=by
        have:=hj3.1
        rwa [g5] at this
      have hst:=run_stays (P:=P) (w:=w) g6 hvk hyk
      have hrun:(execOp ρ o).run P w = .ok .skip { w with heap:=w.heap.setIfInBounds b (.map (c.modify jj fun e=>{ e with key:=ρ k',val:=ρ v' }) n) }:=by
        simp only [execOp,hop,hux,Instr.mapUpdate,Sem.run_bind,run_und h1,MapKept.run_getObj_map hc,Result.andThen_ok,Sem.run_pure,hck,hfk,Option.map_some,Array.getElem?_eq_getElem hjc,Option.getD_some,hst,MapKept.run_setObj_map _ hc]
      rw [hrun]
      exact post_setmapD hh hi hc hns (esD_set _ hes g3 hjc hvk hvv (by rw [hj3.2.2,g4])) .any
theorem entry_inv {op:Op} {x k:Arg} {ks:List Nat} {z:D} (h:compOp P op = .mentp x k ks z):∃ t x' k' kt et j v fs,op = .mapEntry t x' k'∧argA x' = some x∧argA k' = some k∧und P t = .map kt et∧und P kt = .struct fs∧plainKinds P fs.toList 0 = some ks ∧
    P.stoodInHeld kt = false∧P.info? et = some j∧j.zero = some v∧constD v = some z:=by
  cases op with
  | mapEntry t x' i =>
    simp only [compOp] at h
    split at h
    · rename_i a b kt et h1 h2 h3
      split at h
      · rename_i fs zz h4 h5
        split at h
        · rename_i ks' hks
          split at h
          · rename_i hg
            cases h
            simp only [Option.bind_eq_some_iff] at h5
            obtain ⟨v,⟨j,hj,hv⟩,hz⟩:=h5
            exact ⟨t,x',i,kt,et,j,v,fs,rfl,h1,h2,h3,h4,hks,by simpa using hg,hj,hv,hz⟩
          · cases h
        · cases h
      · cases h
    · cases h
  | call c =>
    exfalso
    rcases compCall_inv (P:=P) (c:=c) with hb | hk
    · simp only [compOp] at h
      rw [hb] at h
      cases h
    · simp only [compOp] at h
      rw [h] at hk
      cases hk
  | makeFunc fn first caps =>
    exfalso
    cases fn with
    | func f =>
      simp only [compOp] at h
      repeat' split at h
      all_goals cases h
    | _=>cases h
  | makeMap t r=>cases r <;> simp [compOp] at h
  | _ =>
    exfalso
    unfold compOp at h
    simp only [compBin,compConv,szK,sbK,aggK] at h
    repeat' split at h
    all_goals first | (cases h; done) | skip
theorem store_inv {op:Op} {x s v:Arg} (h:compOp P op = .mestp x s v):∃ t x' s' v',op = .entryStore t x' s' v'∧argA x' = some x∧argA s' = some s∧argA v' = some v:=by
  cases op with
  | entryStore t x' s' v' =>
    simp only [compOp] at h
    split at h
    · cases h; exact ⟨t,x',s',v',rfl,by assumption,by assumption,by assumption⟩
    · cases h
  | call c =>
    exfalso
    rcases compCall_inv (P:=P) (c:=c) with hb | hk
    · simp only [compOp] at h
      rw [hb] at h
      cases h
    · simp only [compOp] at h
      rw [h] at hk
      cases hk
  | makeFunc fn first caps =>
    exfalso
    cases fn with
    | func f =>
      simp only [compOp] at h
      repeat' split at h
      all_goals cases h
    | _=>cases h
  | makeMap t r=>cases r <;> simp [compOp] at h
  | _ =>
    exfalso
    unfold compOp at h
    simp only [compBin,compConv,szK,sbK,aggK] at h
    repeat' split at h
    all_goals first | (cases h; done) | skip
theorem AOpT.mentp {u:List (Nat×AV)} {x k:Arg} {l n:Nat} {es:List (D×D×Nat)} {ks:List Nat} {xs:List D} {q:Option (Nat×D×Nat)} {z:D} (hx:evA u x = some (.mp l)) (hk:evA u k = some (.d (.agg xs))) (hl:ks.length = xs.length) (hq:pfind ks es xs = some q) :
    AOpT P (.mentp x k ks z) u [(l,.mpb es n)] (.tup [.d (pval q z),.d (.int .i64 (pborn q n:Nat))]) [(l,.mpb (pputD q es (.agg xs) (pval q z) n) (pclk q n))]:=by
  refine ⟨fun y hy h=>by rw [hy] at h; exact absurd h (by simp),fun o ho=>?_⟩
  obtain ⟨t,x',k',kt,et,j,v0,fs,hop,hxa,hka,ht,hkt,hks,hg,hj,hz,hzc⟩:=entry_inv ho
  have h1:=und_some ht (by simp)
  have h2:=und_some hkt (by simp)
  refine ⟨by simp [hop],fun S i w ρ hev hh hf=>?_⟩
  have hvx:=argV hev hxa hx
  have hvk:=vD (argV hev hka hk)
  have tup2:∀ {v:Value} {d:D} {m:Nat} {S:Seal} {i:Emb},DV S d v→V S i (.tup [.d d,.d (.int .i64 (m:Nat))]) (.tuple #[v,goInt (m:Nat)]):=fun hv=>by
    refine .tup rfl fun n g1 g2=>?_
    match n,g1 with
    | 0,_=>exact .d hv
    | 1,_=>exact .d .int
  generalize hux:ρ x' = ux at hvx
  cases hvx with
  | mp hi =>
    rename_i b
    rcases hh.obj l (.mpb es n) List.mem_cons_self with ⟨b',hb',ho⟩ | ⟨hn,_⟩
    case inr=>rw [hi] at hn; cases hn
    rw [hi] at hb'
    cases hb'
    obtain ⟨c,hc,hes,hns⟩:=objD_iff.1 ho
    obtain ⟨a,hfk,hp⟩:=key_find (P:=P) (w:=w) h2 hks hg hvk hes hq
    have hck:∀ e,(Instr.checkKey e 10000 kt (ρ k')).run P w = .ok () w:=fun e=>run_checkS h2 hks hl hvk
    cases q with
    | none =>
      subst hp
      have hrun:(execOp ρ o).run P w = .ok (.value (.tuple #[v0,goInt (n:Nat)])) { w with heap:=w.heap.setIfInBounds b (.map (c.push { key:=ρ k',val:=v0,born:=n }) (n + 1)) }:=by
        simp only [execOp,hop,hux,Instr.mapEntry,Sem.run_bind,run_und h1,MapKept.run_getObj_map hc,Result.andThen_ok,Sem.run_pure,hck,hfk,run_zeroValue hj hz,MapKept.run_setObj_map _ hc]
      rw [hrun]
      exact post_setmapD hh hi hc hns (esD_put hes hvk (constD_dv hzc)) (tup2 (constD_dv hzc))
    | some y =>
      obtain ⟨jj,d0,bb⟩:=y
      obtain ⟨g1,g2,g3,g4,ys,g5,g6⟩:=hp
      subst g2
      have hjc:jj < c.size:=by simpa using g1
      have hj3:DV S es[jj].1 c[jj].key∧DV S es[jj].2.1 c[jj].val∧c[jj].born = es[jj].2.2:=hes.2 jj g3 g1
      have hyk:DV S (.agg ys) c[jj].key:=by
        have:=hj3.1
        rwa [g5] at this
      have hvd:DV S d0 c[jj].val:=by
        have:=hj3.2.1
        rwa [g4] at this
      have hbb:c[jj].born = bb:=by rw [hj3.2.2,g4]
      have hst:=run_stays (P:=P) (w:=w) g6 hvk hyk
      have hrun:(execOp ρ o).run P w = .ok (.value (.tuple #[c[jj].val,goInt (bb:Nat)])) { w with heap:=w.heap.setIfInBounds b (.map (c.modify jj fun e=>{ e with key:=ρ k' }) n) }:=by
        simp only [execOp,hop,hux,Instr.mapEntry,Sem.run_bind,run_und h1,MapKept.run_getObj_map hc,Result.andThen_ok,Sem.run_pure,hck,hfk,Option.map_some,Array.getElem?_eq_getElem hjc,Array.getElem_toList,Option.getD_some,hst,hbb,MapKept.run_setObj_map _ hc]
      rw [hrun]
      exact post_setmapD hh hi hc hns (esD_set _ hes g3 hjc hvk hvd hbb) (tup2 hvd)
def pbix:List (D×D×Nat)→Nat→Option Nat
  | [],_=>none
  | e :: r,n=>bif Nat.beq e.2.2 n then some 0 else (pbix r n).map (· + 1)
theorem pbix_find {S:Seal} {n:Nat}:∀ {es:List (D×D×Nat)} {l:List MapEntry},EsD S es l→l.findIdx? (fun e=>((e.born:Int) == (n:Int))) = pbix es n
  | [],[],_=>rfl
  | [],_ :: _,h=>by cases h.1
  | _ :: _,[],h=>by cases h.1
  | a :: es,e :: l,h=>by
    obtain ⟨⟨_,_,h3⟩,h4⟩:=esD_cons.1 h
    rw [List.findIdx?_cons,pbix_find h4]
    simp only [pbix,←h3]
    have:((e.born:Int) == (n:Int)) = Nat.beq e.born n:=by
      rw [Bool.eq_iff_iff]
      simp only [beq_iff_eq]
      constructor
      · intro h; rw [Int.ofNat.inj h]; exact Nat.beq_refl _
      · intro h; rw [Nat.eq_of_beq_eq_true h]
    rw [this]
    cases Nat.beq e.born n <;> rfl
theorem AOpT.mestp {u:List (Nat×AV)} {x s v:Arg} {l n m j:Nat} {es:List (D×D×Nat)} {w0:AV} {d:D} {e0:D×D×Nat} (hx:evA u x = some (.mp l)) (hs0:evA u s = some (.d (.int .i64 (m:Nat)))) (hj:pbix es m = some j) (he0:es[j]? = some e0)
    (hv:evA u v = some w0) (hs:Sub w0 (.d d)):AOpT P (.mestp x s v) u [(l,.mpb es n)] .any [(l,.mpb (es.set j (e0.1,d,e0.2.2)) n)]:=by
  refine ⟨fun y hy h=>by rw [hy] at h; exact absurd h (by simp),fun o ho=>?_⟩
  obtain ⟨t,x',s',v',hop,hxa,hsa,hva⟩:=store_inv ho
  refine ⟨by simp [hop],fun S i w ρ hev hh hf=>?_⟩
  have hvx:=argV hev hxa hx
  have hvs:=vInt (argV hev hsa hs0)
  have hvv:DV S d (ρ v'):=vD (hs _ _ _ (argV hev hva hv))
  generalize hux:ρ x' = ux at hvx
  cases hvx with
  | mp hi =>
    rename_i b
    rcases hh.obj l (.mpb es n) List.mem_cons_self with ⟨b',hb',ho⟩ | ⟨hn,_⟩
    case inr=>rw [hi] at hn; cases hn
    rw [hi] at hb'
    cases hb'
    obtain ⟨c,hc,hes,hns⟩:=objD_iff.1 ho
    have hfi:c.findIdx? (fun e=>((e.born:Int) == (m:Int))) = some j:=by
      have:=pbix_find (n:=m) hes
      rw [hj] at this
      rw [←this]
      rcases c with ⟨c⟩
      exact List.findIdx?_toArray _ _
    have hjl:j < es.length:=by
      rcases Nat.lt_or_ge j es.length with h | h
      · exact h
      · rw [List.getElem?_eq_none h] at he0; cases he0
    have hjc:j < c.size:=by have:=hes.1; simp at this; omega
    have hj3:DV S es[j].1 c[j].key∧DV S es[j].2.1 c[j].val∧c[j].born = es[j].2.2:=hes.2 j hjl (by simpa using hjc)
    have hee:es[j] = e0:=by rw [List.getElem?_eq_getElem hjl] at he0; exact Option.some.inj he0
    rw [hee] at hj3
    have hrun:(execOp ρ o).run P w = .ok .skip { w with heap:=w.heap.setIfInBounds b (.map (c.modify j fun e=>{ e with val:=ρ v' }) n) }:=by
      simp only [execOp,hop,hux,hvs,Instr.entryStore,Sem.run_bind,MapKept.run_getObj_map hc,Result.andThen_ok,Sem.run_pure,asInt,asIntOf,hfi,MapKept.run_setObj_map _ hc]
    rw [hrun]
    exact post_setmapD hh hi hc hns (esD_set _ hes hjl hjc hj3.1 hvv hj3.2.2) .any
theorem AOpT.mkmapB {u:List (Nat×AV)} {l:Nat}:AOpT P .mkmap u [] (.mp l) [(l,.mpb [] 0)]:=by
  obtain ⟨h1,h2⟩:=AOpT.mkmap (P:=P) (u:=u) (l:=l)
  refine ⟨h1,fun o ho=>?_⟩
  rcases map_inv (by rw [ho]; rfl) with ⟨t,hop⟩ | ⟨t,x,i,hop⟩ | ⟨t,x,k,v,hop⟩
  · refine ⟨by simp [hop],fun S i w ρ hev hh hf=>?_⟩
    have hrun:(execOp ρ o).run P w = .ok (.value (.map (some w.heap.size))) (w.alloc (.map #[] 0)):=by
      simp only [execOp,hop,Instr.makeMap,Option.map_none,Sem.run_bind,Result.andThen_ok,run_newObj,Sem.run_pure]
      rfl
    rw [hrun]
    obtain ⟨S',i',p1,p2,p3,p4,p5⟩:=post_newmap hh (hf l (by simp [AHeap.keys]) (by simp [AHeap.keys]))
    refine ⟨S',i',p1,⟨p2.cell,p2.size,fun k o hm=>?_,fun k o k' o' b x y _ _=>?_,p2.dom,p2.gr⟩,p3,⟨p4.up,p4.grow,p4.old,p4.newSeal,p4.newEmb,fun b ⟨k,o,hm,hb⟩=>?_,p4.os,p4.out,p4.tape⟩,p5⟩
    · cases List.mem_singleton.1 hm
      rcases p2.obj l _ List.mem_cons_self with ⟨b,hb,c,kk,hc,hs,_,hns⟩ | ⟨_,hz⟩
      · have hb2:i' l = some w.heap.size:=by
          cases p1 with
          | mp h=>exact h
        rw [hb2] at hb
        cases hb
        have hnew:(w.alloc (.map #[] 0)).heap[w.heap.size]? = some (.map #[] 0):=by
          show (w.heap.push _)[w.heap.size]? = _
          simp
        exact .inl ⟨_,hb2,#[],hnew,rfl,(fun j h _=>absurd h (Nat.not_lt_zero _)),hns⟩
      · exact hz.elim
    · cases List.mem_singleton.1 x; cases List.mem_singleton.1 y; rfl
    · cases List.mem_singleton.1 hm
      exact p4.sub b ⟨l,_,List.mem_singleton.2 rfl,hb⟩
  · rw [hop] at ho
    simp only [compOp] at ho
    repeat' (first | cases ho | split at ho)
  · rw [hop] at ho
    simp only [compOp] at ho
    repeat' (first | cases ho | split at ho)
end
structure PM (κ β:Type) where
  es:List (κ×β×Nat)
  n:Nat
abbrev PM.nil {κ β:Type}:PM κ β:=⟨[],0⟩
section
variable {P:Program} {κ β:Type} [DecidableEq κ] {ks:List Nat} {ek:κ→D} {ev:β→D}
def mpP (ek:κ→D) (ev:β→D) (m:List (κ×β×Nat)):List (D×D×Nat):=m.map fun e=>(ek e.1,ev e.2.1,e.2.2)
def pidx:List (κ×β×Nat)→κ→Option (Nat×β×Nat)
  | [],_=>none
  | (a,v,b) :: r,k=>bif decide (k = a) then some (0,v,b) else (pidx r k).map fun x=>(x.1 + 1,x.2)
def pget (m:PM κ β) (k:κ) (z:β):β:=match pidx m.es k with
  | some (_,v,_)=>v
  | none=>z
def phas (m:PM κ β) (k:κ):Bool:=(pidx m.es k).isSome
def pput (m:PM κ β) (k:κ) (v:β):PM κ β:=match pidx m.es k with
  | some (j,_,b)=>⟨m.es.set j (k,v,b),m.n⟩
  | none=>⟨m.es ++ [(k,v,m.n)],m.n + 1⟩
def pstamp (m:PM κ β) (k:κ):Nat:=match pidx m.es k with
  | some (_,_,b)=>b
  | none=>m.n
def pbx:List (κ×β×Nat)→Nat→Option Nat
  | [],_=>none
  | e :: r,n=>bif Nat.beq e.2.2 n then some 0 else (pbx r n).map (· + 1)
def pstore (m:PM κ β) (b:Nat) (v:β):Option (PM κ β):=match pbx m.es b with
  | some j=>(m.es[j]?).map fun e=>⟨m.es.set j (e.1,v,e.2.2),m.n⟩
  | none=>none
structure KeyOK (ks:List Nat) (ek:κ→D):Prop where
  ag:∀ a,ek a = .agg (ek a).cells
  len:∀ a,ks.length = (ek a).cells.length
  eq:∀ a b,eqDs ks (ek a).cells (ek b).cells = some (decide (a = b))
abbrev pmO (ek:κ→D) (ev:β→D) (m:PM κ β):AObj:=.mpb (mpP ek ev m.es) m.n
theorem pfind_typed (hk:KeyOK ks ek) (k:κ):∀ m:List (κ×β×Nat),pfind ks (mpP ek ev m) (ek k).cells = some ((pidx m k).map fun x=>(x.1,ev x.2.1,x.2.2))
  | []=>rfl
  | (a,v,b) :: r=>by
    simp only [mpP,List.map_cons]
    rw [hk.ag a]
    simp only [pfind,pidx,hk.eq]
    cases decide (k = a)
    · have:=pfind_typed hk k r
      simp only [mpP] at this
      simp only [cond_false]
      rw [this]
      cases pidx r k <;> rfl
    · rfl
theorem pbix_typed (n:Nat):∀ m:List (κ×β×Nat),pbix (mpP ek ev m) n = pbx m n
  | []=>rfl
  | e :: r=>by
    have:=pbix_typed n r
    simp only [mpP] at this
    simp only [mpP,List.map_cons,pbix,pbx,this]
def mgQ (l0:List Nat) (o:AObj) (kd:D) (z r:D) (b:Bool) (u:List (Nat×AV)) (H:AHeap):AOp→Option QO
  | .mgetp x k ks z' ok=>match evA u x,evA u k with
    | some (.mp l),some (.d kd')=>match lkH H l with
      | some o'=>bif natListBeq ks l0 then some ⟨bif ok then .tup [.d r,.d (.bool b)] else .d r,[(l,o)],[(l,o)],true,[(.o o',.o o),(.d kd',.d kd),(.d z',.d z)]⟩ else none
      | _=>none
    | _,_=>none
  | _=>none
def Ev.mgP (hk:KeyOK ks ek) (ev:β→D) (m:PM κ β) (k:κ) (z:β):Ev P:=.q ⟨fun _ u H op=>mgQ ks (pmO ek ev m) (ek k) (ev z) (ev (pget m k z)) (phas m k) u H op,fun {nl u H op r} h hc=>by
  unfold mgQ at h
  split at h <;> first | cases h | skip
  rename_i x k' ks' z' ok
  split at h <;> first | cases h | skip
  rename_i l kd' hx hkk
  split at h <;> first | cases h | skip
  rename_i o' hl
  generalize hb:natListBeq ks' ks = bb at h
  cases bb <;> cases h
  cases natListBeq_eq hb
  obtain ⟨c1,r1⟩:=okC_cons.1 hc
  obtain ⟨c2,r2⟩:=okC_cons.1 r1
  obtain ⟨c3,_⟩:=okC_cons.1 r2
  simp only [Cm.o.injEq,Cm.d.injEq] at c1 c2 c3
  subst c1 c2 c3
  rw [hk.ag k] at hkk
  have h0:=AOpT.mgetp (P:=P) (x:=x) (k:=k') (n:=m.n) (z:=ev z) (ok:=ok) hx hkk (hk.len k) (pfind_typed (ev:=ev) hk k m.es)
  refine ⟨?_,fun y hy=>(by cases List.mem_singleton.1 hy; exact lkH_mem hl),fun _=>rfl⟩
  have e1:pval ((pidx m.es k).map fun x=>(x.1,ev x.2.1,x.2.2)) (ev z) = ev (pget m k z):=by
    unfold pget; cases pidx m.es k <;> rfl
  have e2:((pidx m.es k).map fun x=>(x.1,ev x.2.1,x.2.2)).isSome = phas m k:=by
    unfold phas; cases pidx m.es k <;> rfl
  rw [e1,e2] at h0
  exact h0⟩
theorem pput_eq (hk:KeyOK ks ek) (m:PM κ β) (k:κ) (v:β):pputD ((pidx m.es k).map fun x=>(x.1,ev x.2.1,x.2.2)) (mpP ek ev m.es) (.agg (ek k).cells) (ev v) m.n = mpP ek ev (pput m k v).es∧pclk ((pidx m.es k).map fun x=>(x.1,ev x.2.1,x.2.2)) m.n = (pput m k v).n:=by
  unfold pput
  rw [←hk.ag k]
  cases pidx m.es k with
  | none=>simp [pputD,pclk,mpP]
  | some y=>simp [pputD,pclk,mpP,List.map_set]
def msQ (l0:List Nat) (o o2:AObj) (kd:D) (w:AV) (u:List (Nat×AV)) (H:AHeap):AOp→Option QO
  | .msetp x k v ks=>match evA u x,evA u k,evA u v with
    | some (.mp l),some (.d kd'),some w'=>match lkH H l with
      | some o'=>bif natListBeq ks l0 then some ⟨.any,[(l,o)],[(l,o2)],false,[(.o o',.o o),(.d kd',.d kd),(.v w',.v w)]⟩ else none
      | _=>none
    | _,_,_=>none
  | _=>none
def Ev.msP (hk:KeyOK ks ek) (ev:β→D) (m:PM κ β) (k:κ) (v:β) (w:AV) (hs:Sub w (.d (ev v))):Ev P:=.q ⟨fun _ u H op=>msQ ks (pmO ek ev m) (pmO ek ev (pput m k v)) (ek k) w u H op,fun {nl u H op r} h hc=>by
  unfold msQ at h
  split at h <;> first | cases h | skip
  rename_i x k' v' ks'
  split at h <;> first | cases h | skip
  rename_i l kd' w' hx hkk hvv
  split at h <;> first | cases h | skip
  rename_i o' hl
  generalize hb:natListBeq ks' ks = bb at h
  cases bb <;> cases h
  cases natListBeq_eq hb
  obtain ⟨c1,r1⟩:=okC_cons.1 hc
  obtain ⟨c2,r2⟩:=okC_cons.1 r1
  obtain ⟨c3,_⟩:=okC_cons.1 r2
  simp only [Cm.o.injEq,Cm.d.injEq,Cm.v.injEq] at c1 c2 c3
  subst c1 c2 c3
  rw [hk.ag k] at hkk
  have h0:=AOpT.msetp (P:=P) (x:=x) (k:=k') (v:=v') (n:=m.n) hx hkk (hk.len k) (pfind_typed (ev:=ev) hk k m.es) hvv hs
  refine ⟨?_,fun y hy=>(by cases List.mem_singleton.1 hy; exact lkH_mem hl),fun h=>by cases h⟩
  obtain ⟨e1,e2⟩:=pput_eq (ev:=ev) hk m k v
  rw [e1,e2] at h0
  exact h0⟩
def meQ (l0:List Nat) (o o2:AObj) (kd z r:D) (b:Nat) (u:List (Nat×AV)) (H:AHeap):AOp→Option QO
  | .mentp x k ks z'=>match evA u x,evA u k with
    | some (.mp l),some (.d kd')=>match lkH H l with
      | some o'=>bif natListBeq ks l0 then some ⟨.tup [.d r,.d (.int .i64 (b:Nat))],[(l,o)],[(l,o2)],false,[(.o o',.o o),(.d kd',.d kd),(.d z',.d z)]⟩ else none
      | _=>none
    | _,_=>none
  | _=>none
def Ev.meP (hk:KeyOK ks ek) (ev:β→D) (m:PM κ β) (k:κ) (z:β):Ev P:=.q ⟨fun _ u H op=>meQ ks (pmO ek ev m) (pmO ek ev (pput m k (pget m k z))) (ek k) (ev z) (ev (pget m k z)) (pstamp m k) u H op,fun {nl u H op r} h hc=>by
  unfold meQ at h
  split at h <;> first | cases h | skip
  rename_i x k' ks' z'
  split at h <;> first | cases h | skip
  rename_i l kd' hx hkk
  split at h <;> first | cases h | skip
  rename_i o' hl
  generalize hb:natListBeq ks' ks = bb at h
  cases bb <;> cases h
  cases natListBeq_eq hb
  obtain ⟨c1,r1⟩:=okC_cons.1 hc
  obtain ⟨c2,r2⟩:=okC_cons.1 r1
  obtain ⟨c3,_⟩:=okC_cons.1 r2
  simp only [Cm.o.injEq,Cm.d.injEq] at c1 c2 c3
  subst c1 c2 c3
  rw [hk.ag k] at hkk
  have h0:=AOpT.mentp (P:=P) (x:=x) (k:=k') (n:=m.n) (z:=ev z) hx hkk (hk.len k) (pfind_typed (ev:=ev) hk k m.es)
  refine ⟨?_,fun y hy=>(by cases List.mem_singleton.1 hy; exact lkH_mem hl),fun h=>by cases h⟩
  have e1:pval ((pidx m.es k).map fun x=>(x.1,ev x.2.1,x.2.2)) (ev z) = ev (pget m k z):=by
    unfold pget; cases pidx m.es k <;> rfl
  have e2:pborn ((pidx m.es k).map fun x=>(x.1,ev x.2.1,x.2.2)) m.n = pstamp m k:=by
    unfold pstamp; cases pidx m.es k <;> rfl
  obtain ⟨e3,e4⟩:=pput_eq (ev:=ev) hk m k (pget m k z)
  rw [e1,e2,e3,e4] at h0
  exact h0⟩
def mtQ (o o2:AObj) (b:Nat) (w:AV) (u:List (Nat×AV)) (H:AHeap):AOp→Option QO
  | .mestp x s v=>match evA u x,evA u s,evA u v with
    | some (.mp l),some (.d sd),some w'=>match lkH H l with
      | some o'=>some ⟨.any,[(l,o)],[(l,o2)],false,[(.o o',.o o),(.d sd,.d (.int .i64 (b:Nat))),(.v w',.v w)]⟩
      | _=>none
    | _,_,_=>none
  | _=>none
def Ev.mtP (ek:κ→D) (ev:β→D) (m m':PM κ β) (b:Nat) (v:β) (hm:pstore m b v = some m') (w:AV) (hs:Sub w (.d (ev v))):Ev P:=.q ⟨fun _ u H op=>mtQ (pmO ek ev m) (pmO ek ev m') b w u H op,fun {nl u H op r} h hc=>by
  unfold mtQ at h
  split at h <;> first | cases h | skip
  rename_i x s v'
  split at h <;> first | cases h | skip
  rename_i l sd w' hx hss hvv
  split at h <;> first | (cases h; done) | skip
  rename_i o' hl
  cases h
  obtain ⟨c1,r1⟩:=okC_cons.1 hc
  obtain ⟨c2,r2⟩:=okC_cons.1 r1
  obtain ⟨c3,_⟩:=okC_cons.1 r2
  simp only [Cm.o.injEq,Cm.d.injEq,Cm.v.injEq] at c1 c2 c3
  subst c1 c2 c3
  refine ⟨?_,fun y hy=>(by cases List.mem_singleton.1 hy; exact lkH_mem hl),fun h=>by cases h⟩
  unfold pstore at hm
  split at hm
  · rename_i j hj
    obtain ⟨e,he,rfl⟩:=Option.map_eq_some_iff.1 hm
    have h0:=AOpT.mestp (P:=P) (x:=x) (s:=s) (v:=v') (n:=m.n) (m:=b) (j:=j) (es:=mpP ek ev m.es) (e0:=(ek e.1,ev e.2.1,e.2.2)) hx hss (by rw [pbix_typed]; exact hj) (by simp [mpP,he]) hvv hs
    have e1:(mpP ek ev m.es).set j (ek e.1,ev v,e.2.2) = mpP ek ev (m.es.set j (e.1,v,e.2.2)):=by simp [mpP,List.map_set]
    rw [e1] at h0
    exact h0
  · cases hm⟩
def mkQ (b:Bool) (nl:Nat):AOp→Option QO
  | .mkmap=>some ⟨.mp nl,[],[(nl,bif b then .mpb [] 0 else .mp [])],false,[]⟩
  | _=>none
def Ev.mkP (b:Bool):Ev P:=.q ⟨fun nl _ _ op=>mkQ b nl op,fun {nl u H op r} h hc=>by
  unfold mkQ at h
  split at h <;> cases h
  refine ⟨?_,fun y hy=>(by cases hy),fun h=>by cases h⟩
  cases b
  · exact AOpT.mkmap
  · exact AOpT.mkmapB⟩
end
end Go.Proofs.Abs
end
section
namespace Go.Proofs.Abs
open Go
set_option linter.unusedVariables false
section
variable {P:Program} {ro:Option Nat} {m:Nat} {N:Nat} {l:List (Nat×AV)} {H:AHeap} {n:Nat} {Q:Exit→AAct→AHeap→Nat→Prop}
def RetQ (m N k:Nat) (L:List (Nat×AV)) (Hc:AHeap):Exit→AAct→AHeap→Nat→Prop:=fun ex a H n=>(ex = .normal∨ex = .ret)∧InS m N k L Hc a H n
theorem acalls_ret {k:FuncId} {F:AFunc} (hF:HasF P k F) {args:List AV} {H H':AHeap} {r:AV} (n K:Nat) (k':Nat) (L:List (Nat×AV)) (Hc:AHeap) (hd:DoneS F.res r H' .ret ⟨F.n,L⟩ Hc k')
    (hb:AWc P none n F.body ⟨F.n,startL 0 args⟩ H n (RetQ n F.n k' L Hc)) (hchk:bodyOK n K F.n args H r H' = true:=by rfl) (hm:Nat.ble n k' = true:=by rfl):ACalls P k args H r H' :=
  acalls_canon hF n K hchk (hb.mono fun ex a H n ⟨he,hi⟩=>canQ hm hi ⟨he,hd.2⟩)
theorem rq {k:Nat} {L:List (Nat×AV)} {Hc:AHeap} (ps:List (Nat×Nat)) (zs:List AObj) (h:lhsC (insC m k ps zs L Hc l H n) = rhsC (insC m k ps zs L Hc l H n):=by kernel_rfl):RetQ m N k L Hc .ret ⟨N,l⟩ H n:=⟨.inr rfl,inT ps zs h⟩
theorem rz {k:Nat} {L:List (Nat×AV)} {Hc:AHeap} (h:lhsC (insC m k [] [] L Hc l H n) = rhsC (insC m k [] [] L Hc l H n):=by kernel_rfl):RetQ m N k L Hc .ret ⟨N,l⟩ H n:=⟨.inr rfl,inT [] [] h⟩
theorem rqn {k:Nat} {L:List (Nat×AV)} {Hc:AHeap} (ps:List (Nat×Nat)) (zs:List AObj) (h:lhsC (insC m k ps zs L Hc l H n) = rhsC (insC m k ps zs L Hc l H n):=by kernel_rfl):RetQ m N k L Hc .normal ⟨N,l⟩ H n:=⟨.inl rfl,inT ps zs h⟩
theorem inZ {m N k:Nat} {l':List (Nat×AV)} {H':AHeap} {l:List (Nat×AV)} {H:AHeap} {n:Nat} (h:lhsC (insC m k [] [] l' H' l H n) = rhsC (insC m k [] [] l' H' l H n):=by kernel_rfl):InS m N k l' H' ⟨N,l⟩ H n:=inT [] [] h
theorem AWc.cB {α:Type} {c:Arg} {x y:ACode} {b:Bool} {X Y:α} {r:α} (h:_root_.cond b X Y = r) (hx:X = r→AWc P ro m x ⟨N,l⟩ H n Q) (hy:Y = r→AWc P ro m y ⟨N,l⟩ H n Q) (hb:evA l c = some (.d (.bool b)):=by kernel_rfl):AWc P ro m (.cond c x y) ⟨N,l⟩ H n Q:=by
  cases b
  · exact AWc.cF rfl (hy h) hb
  · exact AWc.cT rfl (hx h) hb
theorem AWc.cD {α:Type} {c:Arg} {x y:ACode} {b:Bool} {X Y:α} {r:α} (h:_root_.cond b X Y = r) (hy:Y = r→AWc P ro m y ⟨N,l⟩ H n Q) (hx:X = r→AWc P ro m x ⟨N,l⟩ H n Q) (hb:evA l c = some (.d (.bool b)):=by kernel_rfl):AWc P ro m (.cond c x y) ⟨N,l⟩ H n Q:=AWc.cB h hx hy hb
theorem AWc.j {α:Type} {x y:ACode} (k:Nat) (I:α→Prop) (L:α→List (Nat×AV)) (Hc:α→AHeap) (hx:AWc P ro m x ⟨N,l⟩ H n (then' (fun a H n=>∃ y,I y∧InS m N k (L y) (Hc y) a H n) Q)) (hy:∀ z,I z→AWc P ro m y ⟨N,L z⟩ (Hc z) k Q) (hm:m≤k:=by exact rfl_le) :
    AWc P ro m (.seq x y) ⟨N,l⟩ H n Q:=AWc.seqS k L Hc I hm hx hy
theorem AWc.lp {σ:Type} {c:ACode} (K:Nat) (I:Nat→σ→Prop) (L:σ→List (Nat×AV)) (Hc:σ→AHeap) {k₀:Nat} (x₀:σ) (h₀:I k₀ x₀) (ps:List (Nat×Nat)) (zs:List AObj)
    (round:∀ k x,I (k + 1) x→AWc P ro m c ⟨N,L x⟩ (Hc x) K (then' (fun a H n=>∃ y,I k y∧InS m N K (L y) (Hc y) a H n) Q)) (hm:m≤K:=by exact rfl_le) (h0:∀ x,¬ I 0 x:=by intro x hx; cases hx)
    (hi:lhsC (insC m K ps zs (L x₀) (Hc x₀) l H n) = rhsC (insC m K ps zs (L x₀) (Hc x₀) l H n):=by kernel_rfl):AWc P ro m (.loop c) ⟨N,l⟩ H n Q :=
  AWc.loopK K L Hc I k₀ x₀ hm h0 h₀ (inT ps zs hi) round
end
end Go.Proofs.Abs
end
