import Derived.Test.YtnhndjbninibhaaDoorAbsxb
import Derived.KernelRfl
import GoSem.Core.Utf8
import Derived.Laws.IdiomStrings
set_option linter.unusedVariables false
set_option linter.unusedSimpArgs false
set_option linter.unusedSectionVars false
section
namespace Go.Proofs.Abs
open Go
set_option linter.unusedVariables false
set_option linter.unusedSectionVars false
set_option linter.unusedSimpArgs false
theorem post_roomR {S:Seal} {i:Emb} {w:World} {l nl b z n cap m:Nat} {c c':Array Value} {e:TypeId} {o:AObj} {ds:List D} (hh:HeapRel S i [(l,o)] w) (hi:i l = some b) (hc:w.heap[b]? = some (.cells c e (0,0)))
    (hns:∀ a:Addr,a.block = b→S.cell a = none) (hsz:c'.size = c.size) (hf:i nl = none) (hne:nl≠l) (hds:ds.length≤c'.size) (hv:∀ j (h1:j < ds.length) (h2:j < c'.size),DV S ds[j] c'[j])
    (hm:S.size b = some m) (hcap:cap * z≤m) (hn:n≤cap):Post S i [(l,o)] w (.row nl z n) [(nl,.rowP ds)] (.slice (some ⟨b,0,none⟩) n cap) (w.setRow b c'):=by
  have hh0:HeapRel S i [(l,.tok 0)] w:=⟨hh.cell,hh.size,fun l' o' hm'=>by
    simp only [List.mem_singleton,Prod.mk.injEq] at hm'
    obtain ⟨rfl,rfl⟩:=hm'
    exact .inl ⟨b,hi,c,e,hc,fun a ha _=>hns a ha⟩,fun l1 o1 l2 o2 b' h1 h2 _ _=>by
    simp only [List.mem_singleton,Prod.mk.injEq] at h1 h2
    rw [h1.1,h2.1],hh.dom,hh.gr⟩
  have hset:(i.set nl b) nl = some b:=by simp [Emb.set]
  obtain ⟨S',i',p1,p2,p3,p4,p5⟩:=post_room (k:=0) (c':=c') (nl:=nl) (r:=.row nl z n) (v:=.slice (some ⟨b,0,none⟩) n cap) hh0 hi hc (fun a ha _=>hns a ha) hsz (fun m hm=>absurd hm (Nat.not_lt_zero _)) hf hne
    (.row hset (m:=m) hm hcap hn) (Nat.le_refl _)
  have hb0:i' nl = some b:=by cases p1 with | row h _ _ _=>exact h
  have hnew:=setRow_heap w b c c' e (0,0) hc
  have hle:S.le S':=p4.up
  refine ⟨S',i',p1,⟨p2.cell,p2.size,fun l' o' hm'=>?_,fun l1 o1 l2 o2 b' h1 h2 _ _=>?_,p2.dom,p2.gr⟩,p3,⟨p4.up,p4.grow,fun b' hb' hnb=>p4.old b' hb' fun ⟨l',o',q1,q2⟩=>hnb ?_,fun a v ha=>?_,fun l' b' hb'=>?_,fun b' ⟨l',o',q1,q2⟩=>?_,p4.os,p4.out,p4.tape⟩,fun l' b' hb'=>?_⟩
  · simp only [List.mem_singleton,Prod.mk.injEq] at hm'
    obtain ⟨rfl,rfl⟩:=hm'
    rcases p2.obj l' (.tok 0) List.mem_cons_self with ⟨b',hb',c1,e1,hc1,hns1⟩ | ⟨h,_⟩
    case inr=>rw [hb0] at h; cases h
    rw [hb0] at hb'; cases hb'
    rw [hnew] at hc1
    cases hc1
    exact .inl ⟨_,hb0,c',e,hnew,hds,fun j h1 h2=>(hv j h1 h2).mono hle,fun a ha=>hns1 a ha (Nat.zero_le _)⟩
  · simp only [List.mem_singleton,Prod.mk.injEq] at h1 h2
    rw [h1.1,h2.1]
  · simp only [List.mem_singleton,Prod.mk.injEq] at q1
    obtain ⟨rfl,rfl⟩:=q1
    exact ⟨l',o,List.mem_singleton.2 rfl,q2⟩
  · rcases p4.newSeal a v ha with h | ⟨l',o',q1,q2⟩ | h
    · exact .inl h
    · simp only [List.mem_singleton,Prod.mk.injEq] at q1
      obtain ⟨rfl,rfl⟩:=q1
      exact .inr (.inl ⟨l',o,List.mem_singleton.2 rfl,q2⟩)
    · exact .inr (.inr h)
  · rcases p4.newEmb l' b' hb' with h | ⟨l',o',q1,q2⟩ | h
    · exact .inl h
    · simp only [List.mem_singleton,Prod.mk.injEq] at q1
      obtain ⟨rfl,rfl⟩:=q1
      exact .inr (.inl ⟨l',o,List.mem_singleton.2 rfl,q2⟩)
    · exact .inr (.inr h)
  · simp only [List.mem_singleton,Prod.mk.injEq] at q1
    obtain ⟨rfl,rfl⟩:=q1
    rcases p4.sub b' ⟨l',.tok 0,List.mem_singleton.2 rfl,q2⟩ with ⟨l2,o2,q3,q4⟩ | h
    · simp only [List.mem_singleton,Prod.mk.injEq] at q3
      obtain ⟨rfl,rfl⟩:=q3
      exact .inl ⟨l2,o,List.mem_singleton.2 rfl,q4⟩
    · exact .inr h
  · rcases p5 l' b' hb' with h | ⟨h1,h2⟩
    · exact .inl h
    · exact .inr ⟨h1,h2⟩
section
variable {P:Program} {w:World} {α:Type} {e:α→D} {z:Nat} {g:Bool}
theorem AOpT.appW {A:List (Nat×AV)} {x y:Arg} {by' nl l0 n:Nat} {zz:List D} {yv:AV} {xs ys:List α} (he:EncOK e z g) (hx:evA A x = some (.row l0 z n)) (hn:n≤xs.length) (hy:evA A y = some yv) (hsrc:toSrc yv = some (ys.map e)) (hne:nl≠l0)
    (hzl:zz.length = z) (hby:0 < by') (hfit:(n + ys.length) * 2 * by'≤281474976710656):AOpT P (.app x y z by' zz) A [(l0,rowO e xs)] (.row nl z (n + ys.length)) [(nl,rowO e (xs.take n ++ ys))]:=by
  refine ⟨fun w hw hb=>(by subst hw; cases hb),fun o hao=>?_⟩
  have hyz:∀ d∈ys.map e,d.cells.length = z:=mapLen he.len
  obtain ⟨c,hop,hk⟩:=compOp_app hao
  cases hk with
  | app hc ha hxa hya ht hu hu2 hz hj =>
    rename_i x0 y0 t u ee ts j
    obtain ⟨j',z0,hj',hz0,hcz⟩:=zeroA_inv hz
    rw [hj] at hj'
    cases hj'
    have hzz:zz.length = z0.cells.size:=by simpa using (constDs_at hcz).1
    have hut:=und_some hu (by simp)
    obtain ⟨d,hd,huu⟩:∃ d,((∃ e',d = .slice e')∨d = .string)∧P.underlying u = some d:=by
      rcases hu2 with ⟨e',h⟩ | h
      · exact ⟨_,.inl ⟨e',rfl⟩,und_some h (by simp)⟩
      · exact ⟨_,.inr rfl,und_some h (by simp)⟩
    have h0:c.argTypes[0]? = some t:=arr0 ht
    have h1:c.argTypes[1]? = some u:=by rw [←Array.getElem?_toList,ht]; rfl
    refine ⟨by simp [hop],fun S i w ρ hev hh hf=>?_⟩
    have hfn:i nl = none:=hf nl (by simp [AHeap.keys]) (by simpa [AHeap.keys] using hne)
    have hhe:HeapRel S i [] w:=hh.perm fun x hx=>by cases hx
    have hkeys:∀ l∈AHeap.keys [(nl,rowO e (xs.take n ++ ys))],l ∉ AHeap.keys [(l0,rowO e xs)]:=fun l hl=>by
      simp only [AHeap.keys,List.map_cons,List.map_nil,List.mem_singleton] at hl ⊢; subst hl; exact hne
    have hvx:=argV hev hxa hx
    have hvy:=argV hev hya hy
    have hexec:(execOp ρ o).run P w = ((Builtin.append_ c.argTypes o.type #[ρ x0,ρ y0]).run P w).andThen fun v w'=>.ok (.value v) w':=by
      simp only [execOp,hop,resolve,hc,arr2 ha,List.map_toArray,List.map_cons,List.map_nil,Sem.run_bind,Sem.run_pure,Result.andThen_ok,invoke,builtin]
    generalize hxv:ρ x0 = vx at hvx
    rw [hexec,hxv]
    obtain ⟨new,hn1,hn2,hn3,hn4⟩:=src_ok (P:=P) hsrc hvy hyz
    rw [List.length_map] at hn1 hn4
    have hcell:∀ a v,S.cell a = some v→w.drew.cell? a = some v:=fun a v h=>by rw [World.cell?_drew]; exact hh.cell a v h
    obtain ⟨old,ho1,ho2,ho3⟩:=own_src (P:=P) he (.inr rfl) hh (Src.row hn) hvx
    have htl:(xs.take n).length = n:=by rw [List.length_take]; omega
    rw [htl] at ho1 ho3
    have w1:=ho3 w.drew (fun a=>World.cell?_drew w a)
    have hone:∀ v∈new,v.oneCell' = true:=by
      intro v hv
      obtain ⟨m,hm,rfl⟩:=List.getElem_of_mem hv
      have hm':m < (flat (ys.map e)).length:=by rw [flat_len hyz,List.length_map]; omega
      exact one_of_dv (hn3 m hm' hm) (hn2 _ (List.getElem_mem hm'))
    have hlx:(cellsD e (xs.take n)).length = n * j.size:=by rw [cellsD_len he,htl]
    have hly:(cellsD e ys).length = ys.length * j.size:=cellsD_len he ys
    have hcd:cellsD e (xs.take n ++ ys) = cellsD e (xs.take n) ++ cellsD e ys:=cellsD_app _ _
    have hlen:n + ys.length≤140737488355328:=by
      have h1:(n + ys.length) * 2≤(n + ys.length) * 2 * j.bytes:=Nat.le_mul_of_pos_right _ hby
      omega
    -- a new row
    have grown:∀ (base:Option Addr) (cap:Nat),vx = .slice base n cap→cap < n + ys.length→Ends P (Post S i [(l0,rowO e xs)] w (.row nl j.size (n + ys.length)) [(nl,rowO e (xs.take n ++ ys))]) (((Builtin.append_ c.argTypes o.type #[vx,ρ y0]).run P w).andThen fun v w'=>.ok (.value v) w'):=by
      intro base cap hvb hg
      subst hvb
      have hfitg:Builtin.nextslicecap (n + ys.length) cap * j.bytes≤281474976710656:=by
        refine Nat.le_trans (Nat.mul_le_mul_right _ (nextslicecap_le hg)) ?_
        rw [Nat.mul_comm 2]; exact hfit
      have hrun:=run_append_grows' (P:=P) (w:=w) (ty:=o.type) h0 h1 hut huu hd hj hz0 (hn4 w hh.cell).1 (hn4 w.drew hcell).2 w1.2 hg (by omega) hfitg
      rw [hrun,Result.andThen_ok]
      have hcap:=grownCap_ge w (n + ys.length) cap ee
      generalize hgc:grownCap w (n + ys.length) cap ee = gcap at *
      generalize hC:old.toArray ++ new.toArray ++ Builtin.zeroCells z0.cells (gcap - (n + ys.length)) = C at *
      have hnb:NewBlk w (w.drew.alloc (.cells C ee)) C ee (0,0):=by
        have:=newblk_alloc w.drew C ee
        exact ⟨this.size,this.old,this.new,this.os,this.out,this.tape⟩
      have hsz:C.size = gcap * j.size:=by
        rw [←hC]
        simp only [Array.size_append,size_zeroCells,←hzz,hzl,List.size_toArray,ho1,hn1]
        rw [←Nat.add_mul,←Nat.add_mul]
        congr 1; omega
      have hat:∀ m (h:m < (old ++ new).length),C[m]? = some (old ++ new)[m]:=by
        intro m hm
        rw [←hC,show old.toArray ++ new.toArray = (old ++ new).toArray by simp,Array.getElem?_append_left (by simpa using hm)]
        simp only [List.getElem?_toArray]
        exact List.getElem?_eq_getElem hm
      refine Post.more (post_row hhe hnb hfn ?_ (fun m h1 h2=>?_) (by rw [hsz]; exact Nat.le_refl _) hcap) hkeys
      · rw [hcd,List.length_append,hlx,hly,hsz,←Nat.add_mul]; exact Nat.mul_le_mul_right _ hcap
      · have h3:m < (old ++ new).length:=by
          rw [List.length_append,ho1,hn1,←hlx,←hly,←List.length_append,←hcd]; exact h1
        have h4:C[m] = (old ++ new)[m]:=(Array.getElem?_eq_some_iff.1 (hat m h3)).2
        rw [h4]
        simp only [hcd]
        by_cases hm:m < (cellsD e (xs.take n)).length
        · rw [List.getElem_append_left hm,List.getElem_append_left (by omega)]
          exact ho2 m hm (by omega)
        · have h5:m < (old ++ new).length:=h3
          rw [List.length_append] at h5
          have hm2:m < (cellsD e (xs.take n)).length + (cellsD e ys).length:=by rw [hcd,List.length_append] at h1; exact h1
          rw [List.getElem_append_right (by omega),List.getElem_append_right (by omega)]
          have:=hn3 (m - (cellsD e (xs.take n)).length) (by show _ < (cellsD e ys).length; omega) (by omega)
          have he':m - old.length = m - (cellsD e (xs.take n)).length:=by omega
          simp only [he']
          exact this
    cases hvx with
    | rown =>
      by_cases hy0:ys.length = 0
      · have hys:ys = []:=List.length_eq_zero_iff.1 hy0
        subst hys
        simp only [List.length_nil] at hn4
        rw [run_append_none' h0 h1 hut huu hd hj (hn4 w hh.cell).1 (hn4 w hh.cell).2,Result.andThen_ok]
        simp only [List.take_zero,List.append_nil,List.length_nil]
        exact Post.more (post_rowNil hhe hfn) (fun l hl=>by simp only [AHeap.keys,List.map_cons,List.map_nil,List.mem_singleton] at hl ⊢; subst hl; exact hne)
      · exact grown none 0 rfl (by omega)
    | row hi hNs hcN hl =>
      rename_i b cap m
      by_cases hroom:n + ys.length≤cap
      · rcases hh.obj l0 _ List.mem_cons_self with ⟨b',hb',C,eb,hC,hsC,hvC,hns⟩ | ⟨hno,_⟩
        case inr=>rw [hi] at hno; cases hno
        rw [hi] at hb'
        cases hb'
        obtain ⟨c1,e1,f1,h1',hN⟩:=hh.size _ _ hNs
        rw [hC] at h1'
        cases h1'
        have hfitC:n * j.size + new.length≤C.size:=by
          rw [hn1,←Nat.add_mul,hN]
          exact Nat.le_trans (Nat.mul_le_mul_right _ hroom) hcN
        rw [run_append_room' h0 h1 hut huu hd hj (hn4 w hh.cell).1 (hn4 w hh.cell).2 hC hone hroom hfitC,Result.andThen_ok]
        generalize hC':(C.toList.take (n * j.size) ++ new ++ C.toList.drop (n * j.size + new.length)).toArray = C'
        have hsz:C'.size = C.size:=by rw [←hC']; simp; omega
        have hkeep:∀ m,m < n * j.size→C'[m]? = C[m]?:=by
          intro m hm
          rw [←hC']
          simp only [List.getElem?_toArray]
          rw [List.getElem?_append_left (by simp; omega),List.getElem?_append_left (by simp; omega),List.getElem?_take]
          rw [if_pos (by omega)]
          simp
        have hat:∀ m (h:m < new.length),C'[n * j.size + m]? = some new[m]:=by
          intro m hm
          rw [←hC']
          simp only [List.getElem?_toArray]
          rw [List.getElem?_append_left (by simp; omega),List.getElem?_append_right (by simp; omega)]
          have:n * j.size + m - (List.take (n * j.size) C.toList).length = m:=by simp; omega
          rw [this,List.getElem?_eq_getElem hm]
        have hxs:cellsD e xs = cellsD e (xs.take n) ++ cellsD e (xs.drop n):=by rw [←cellsD_app,List.take_append_drop]
        have hroomD:(cellsD e (xs.take n ++ ys)).length≤C'.size:=by
          rw [hcd,List.length_append,hlx,hly,hsz,←hn1]; exact hfitC
        refine post_roomR hh hi hC hns hsz hfn hne hroomD (fun q h1 h2=>?_) hNs hcN hroom
        simp only [hcd]
        by_cases hm:q < (cellsD e (xs.take n)).length
        · rw [List.getElem_append_left hm]
          have h3:q < (cellsD e xs).length:=by rw [hxs,List.length_append]; omega
          have h4:q < C.size:=by omega
          have h5:C'[q] = C[q]:=by
            have:=hkeep q (by omega)
            rw [Array.getElem?_eq_getElem h2,Array.getElem?_eq_getElem h4] at this
            exact Option.some.inj this
          rw [h5]
          have h6:=hvC q h3 h4
          have h7:(cellsD e xs)[q] = (cellsD e (xs.take n))[q]:=by
            simp only [hxs]
            rw [List.getElem_append_left hm]
          rw [h7] at h6
          exact h6
        · have hm2:q < (cellsD e (xs.take n)).length + (cellsD e ys).length:=by rw [hcd,List.length_append] at h1; exact h1
          rw [List.getElem_append_right (by omega)]
          have h3:q - (cellsD e (xs.take n)).length < new.length:=by omega
          have h5:C'[q] = new[q - (cellsD e (xs.take n)).length]:=by
            have:=hat _ h3
            rw [show n * j.size + (q - (cellsD e (xs.take n)).length) = q by omega,Array.getElem?_eq_getElem h2] at this
            exact Option.some.inj this
          rw [h5]
          exact hn3 _ (by show _ < (cellsD e ys).length; omega) h3
      · exact grown (some ⟨b,0,none⟩) cap rfl (by omega)
end
section
variable {P:Program} {aops os:List AOper} {draw:Bool} {N k c:Nat} {l:List (Nat×AV)} {H H':AHeap} {A:List Tk} {Q:AAct→AHeap→Nat→Prop}
variable {x y:Arg} {gd:Option (Nat×Bool)} {af:List Nat} {t:Nat} {α:Type} {e:α→D} {z:Nat} {g:Bool} {xs ys zs:List α} {l0 n:Nat}
theorem RegV.appW {by':Nat} {zz:List D} (hg:gOn gd (us l ⟨some t,.app x y z by' zz,gd,af⟩) = some true) (hx:evA (us l ⟨some t,.app x y z by' zz,gd,af⟩) x = some (.row l0 z n)) (hy:(evA (us l ⟨some t,.app x y z by' zz,gd,af⟩) y).bind toSrc = some (ys.map e)) (he:EncOK e z g)
    (hl:lkH H l0 = some (rowO e xs)) (hzl:zz.length = z) (hby:Nat.blt 0 by' = true) (hb:n≤xs.length∧(n + ys.length) * 2 * by'≤281474976710656) (hzs:xs.take n ++ ys = zs) (hd:Nat.blt t N = true) (hne:Nat.beq c l0 = false)
    (hn0:newOK c [(l0,rowO e xs)] [(c,rowO e zs)] = true) (hc:topK c [(c,rowO e zs)] = c + 1) (hH:appK [(c,rowO e zs)] (restK [(l0,rowO e xs)] [(c,rowO e zs)] H) = H')
    (hn:RegV P aops draw N (k + 1) os (c + 1) ((t,.row c z (n + ys.length)) :: l) H' (⟨[l0,c],false⟩ :: A) Q):RegV P aops draw N k (⟨some t,.app x y z by' zz,gd,af⟩ :: os) c l H A Q:=by
  have hne':c≠l0:=fun h=>by rw [h,Nat.beq_refl] at hne; cases hne
  obtain ⟨yv,hyv,hsrc⟩:=Option.bind_eq_some_iff.1 hy
  subst hzs
  have h0:=AOpT.appW (P:=P) (nl:=c) he hx hb.1 hyv hsrc hne' hzl (Nat.le_of_ble_eq_true hby) hb.2
  exact RegV.up (fun _ h'=>RegU.op hg h0 hd (fun y hy=>by cases List.mem_singleton.1 hy; exact lkH_mem hl) hn0 rfl (q:=false) (fun h=>by cases h) rfl hH hc h') hn
end
end Go.Proofs.Abs
end
section
namespace Go.Proofs.Abs
open Go
set_option linter.unusedVariables false
set_option linter.unusedSectionVars false
set_option linter.unusedSimpArgs false
section
variable {P:Program} {f:FuncId} {α:Type} {e:α→D} {z:Nat} {g:Bool}
end
section
variable {P:Program} {α:Type} {e:α→D} {z:Nat} {g:Bool}
section
variable [Inhabited α]
end
end
section
variable {P:Program} {aops os:List AOper} {draw:Bool} {N k c:Nat} {l:List (Nat×AV)} {H H':AHeap} {A:List Tk} {Q:AAct→AHeap→Nat→Prop}
variable {gd:Option (Nat×Bool)} {af:List Nat} {t:Nat}
variable {α:Type} [Inhabited α] {e:α→D} {z:Nat} {g:Bool} {xs ys:List α} {l0 i j:Nat} {x y:Arg}
end
end Go.Proofs.Abs
end
section
namespace Go.Proofs.Abs
open Go
set_option linter.unusedVariables false
set_option linter.unusedSectionVars false
section
variable {P:Program}
theorem post_toV {S:Seal} {i:Emb} {H:AHeap} {w w':World} {nl z n b len cap:Nat} {xs ds:List D} {c:Array Value} {e:TypeId} (hp:Post S i H w (.apo nl z xs) [(nl,.tok n)] (.slice (some ⟨b,0,none⟩) len cap) w')
    (hc:w'.heap[b]? = some (.cells c e (0,0))) (hsz:n + ds.length≤c.size) (hv:∀ j (h1:j < ds.length) (h2:n + j < c.size),DV S ds[j] c[n + j]) :
    Post S i H w (.apo nl z xs) [(nl,.tokv n ds)] (.slice (some ⟨b,0,none⟩) len cap) w':=by
  obtain ⟨S',i',hV,hh,hle,ht,hn⟩:=hp
  have hb:i' nl = some b:=by cases hV with | apo h=>exact h
  refine ⟨S',i',hV,⟨hh.cell,hh.size,fun l o hm=>?_,fun l o l' o' b x y _ _=>?_,hh.dom,hh.gr⟩,hle,⟨ht.up,ht.grow,ht.old,ht.newSeal,ht.newEmb,fun b' ⟨l,o,hm,hb'⟩=>?_,ht.os,ht.out,ht.tape⟩,hn⟩
  · cases List.mem_singleton.1 hm
    rcases hh.obj nl (.tok n) List.mem_cons_self with ⟨b',hb',c',e',hc',hns⟩ | ⟨h0,_⟩
    case inr=>rw [hb] at h0; cases h0
    rw [hb] at hb'; cases hb'
    exact .inl ⟨b,hb,c,e,hc,hsz,fun j h1 h2=>(hv j h1 h2).mono ht.up,hns⟩
  · cases List.mem_singleton.1 x; cases List.mem_singleton.1 y; rfl
  · cases List.mem_singleton.1 hm
    exact ht.sub b' ⟨nl,.tok n,List.mem_singleton.2 rfl,hb'⟩
theorem app_newO {S:Seal} {i:Emb} {w:World} {c:Call} {t u e:TypeId} {ts:List TypeId} {d:TypeDesc} {j:TypeInfo} {z0:Value} {zz:List D} {ty:TypeId} {nl:Nat}
    (ht:c.argTypes.toList = t :: u :: ts) (hut:P.underlying t = some (.slice e)) (huu:P.underlying u = some d) (hd:(∃ e',d = .slice e')∨d = .string) (hj:P.info? e = some j) (hz0:j.zero = some z0)
    (hzz:zz.length = z0.cells.size) (hzl:zz.length = j.size) {base:Option Addr} {sCap:Nat} {xs:List D} {d0:D} {vx vy:Value} (hvx:vx = .slice base xs.length sCap)
    (hx:DV S (.sl xs) vx) (hxz:∀ d∈xs,d.cells.length = j.size) {y:AV} (hsrc:toSrc y = some [d0]) (hvy:V S i y vy) (hyz:d0.cells.length = j.size) (hh:HeapRel S i [] w)
    (hg:sCap < xs.length + 1) (h63:xs.length + 1≤9223372036854775807) (hfit:Builtin.nextslicecap (xs.length + 1) sCap * j.bytes≤281474976710656) (hf:i nl = none) :
    ∃ v w',(Builtin.append_ c.argTypes ty #[vx,vy]).run P w = .ok v w'∧Post S i [] w (.apo nl j.size xs) [(nl,.tokv (xs.length * j.size) d0.cells)] v w':=by
  have hyz':∀ d∈[d0],d.cells.length = j.size:=fun d hd=>by cases List.mem_singleton.1 hd; exact hyz
  obtain ⟨new,hn1,hn2,hn3,hn4⟩:=src_ok (P:=P) hsrc hvy hyz'
  obtain ⟨old,ho1,ho2,ho3,ho4⟩:=src_ok (P:=P) (x:=.d (.sl xs)) (i:=i) rfl (.d hx) hxz
  have hcell:∀ a v,S.cell a = some v→w.drew.cell? a = some v:=fun a v h=>by rw [World.cell?_drew]; exact hh.cell a v h
  subst hvx
  have h0:c.argTypes[0]? = some t:=arr0 ht
  have h1:c.argTypes[1]? = some u:=by rw [←Array.getElem?_toList,ht]; rfl
  have hrun:=run_append_grows' (P:=P) (w:=w) (ty:=ty) h0 h1 hut huu hd hj hz0 (hn4 w hh.cell).1 (hn4 w.drew hcell).2 (ho4 w.drew hcell).2 hg h63 hfit
  have hcap:=grownCap_ge w (xs.length + 1) sCap e
  rw [show [d0].length = 1 from rfl] at hrun
  generalize hgc:grownCap w (xs.length + 1) sCap e = cap at *
  generalize hC:old.toArray ++ new.toArray ++ Builtin.zeroCells z0.cells (cap - (xs.length + 1)) = C at *
  have hnb:NewBlk w (w.drew.alloc (.cells C e)) C e (0,0):=by
    have:=newblk_alloc w.drew C e
    exact ⟨this.size,this.old,this.new,this.os,this.out,this.tape⟩
  have hdv:DV (S.add w.heap.size (xs.length * j.size) C) (.sl xs) (.slice (some ⟨w.heap.size,0,none⟩) xs.length cap):=by
    refine dv_new (cs:=old) hh hxz ho2 ho1 (fun m hm=>?_) (fun m h1 h2=>ho3 m h1 h2) (by omega)
    rw [←hC,Array.getElem?_append_left (by simp; omega),Array.getElem?_append_left (by simpa using hm),←Array.getElem?_toList,List.getElem?_eq_getElem hm]
  have hfd:flat [d0] = d0.cells:=by simp [flat]
  have hCn:∀ m (hm:m < new.length),C[xs.length * j.size + m]? = some new[m]:=by
    intro m hm
    rw [←hC,Array.getElem?_append_left (by simp; omega),Array.getElem?_append_right (by simp; omega),←Array.getElem?_toList]
    simp only [List.size_toArray,ho1,Nat.add_sub_cancel_left]
    rw [List.getElem?_eq_getElem hm]
  have hnl:new.length = d0.cells.length:=by rw [hn1,hyz]; simp
  refine ⟨_,_,hrun,post_toV (post_tok (k:=xs.length * j.size) hh hnb hf ?_) hnb.new (ds:=d0.cells) ?_ fun m h1 h2=>?_⟩
  rotate_left
  · rw [←hC]; simp only [Array.size_append,List.size_toArray,ho1]; omega
  · have h3:=hCn m (by omega)
    rw [Array.getElem?_eq_getElem h2] at h3
    have h4:=hn3 m (by rw [hfd]; exact h1) (by omega)
    simp only [hfd] at h4
    rw [Option.some.inj h3]; exact h4
  refine .apo (n:=C.size) (by simp [Emb.set]) hdv hxz (by simp [Seal.add]) ?_ hcap
  rw [←hC]
  simp only [Array.size_append,size_zeroCells,←hzz,hzl,List.size_toArray,ho1,hn1,List.length_singleton,Nat.one_mul]
  have:xs.length * j.size + j.size = (xs.length + 1) * j.size:=by rw [Nat.add_mul,Nat.one_mul]
  rw [this,←Nat.add_mul]
  exact Nat.mul_le_mul_right _ (by omega)

theorem AOpT.appO {A:List (Nat×AV)} {x y:Arg} {z by' nl:Nat} {zz:List D} {yv:AV} {d0:D} (hy:evA A y = some yv) (hsrc:toSrc yv = some [d0]) (hzl:zz.length = z) (hby:0 < by') (hyz:d0.cells.length = z) :
    (evA A x = some .nils→by'≤140737488355328→AOpT P (.app x y z by' zz) A [] (.apo nl z []) [(nl,.tokv 0 d0.cells)]) ∧
    ∀ {l n:Nat} {xs:List D},evA A x = some (.ap l z xs)→n = xs.length * z→nl≠l→(xs.length + 1) * 2 * by'≤281474976710656→AOpT P (.app x y z by' zz) A [(l,.tok n)] (.apo nl z xs) [(nl,.tokv n d0.cells)]:=by
  have key:∀ o:Oper,compOp P o.op = .app x y z by' zz→(∀ c,o.op≠.defer c)∧∃ x0 j t u e ts z0 d,∃ c:Call,argA x0 = some x∧j.size = z∧j.bytes = by'∧c.argTypes.toList = t :: u :: ts∧P.underlying t = some (.slice e)∧P.underlying u = some d ∧
      ((∃ e',d = .slice e')∨d = .string)∧P.info? e = some j∧j.zero = some z0∧zz.length = z0.cells.size ∧
      ∀ S i w ρ,(∀ x a,evL A x = some a→V S i a (ρ x))→∃ y0:Operand,V S i yv (ρ y0)∧(execOp ρ o).run P w = ((Builtin.append_ c.argTypes o.type #[ρ x0,ρ y0]).run P w).andThen fun v w'=>.ok (.value v) w':=by
    intro o hao
    obtain ⟨c,hop,hk⟩:=compOp_app hao
    cases hk with
    | app hc ha hxa hya ht hu hu2 hz hj =>
      rename_i x0 y0 t u e ts j
      obtain ⟨j',z0,hj',hz0,hcz⟩:=zeroA_inv hz
      rw [hj] at hj'
      cases hj'
      obtain ⟨d,hd,huu⟩:∃ d,((∃ e',d = .slice e')∨d = .string)∧P.underlying u = some d:=by
        rcases hu2 with ⟨e',h⟩ | h
        · exact ⟨_,.inl ⟨e',rfl⟩,und_some h (by simp)⟩
        · exact ⟨_,.inr rfl,und_some h (by simp)⟩
      refine ⟨by simp [hop],x0,j,t,u,e,ts,z0,d,c,hxa,rfl,rfl,ht,und_some hu (by simp),huu,hd,hj,hz0,by simpa using (constDs_at hcz).1,fun S i w ρ hev=>⟨y0,argV hev hya hy,?_⟩⟩
      simp only [execOp,hop,resolve,hc,arr2 ha,List.map_toArray,List.map_cons,List.map_nil,Sem.run_bind,Sem.run_pure,Result.andThen_ok,invoke,builtin]
  have hyz':∀ d∈[d0],d.cells.length = z:=fun d hd=>by cases List.mem_singleton.1 hd; exact hyz
  constructor
  · intro hx hfit
    refine ⟨fun w hw hb=>(by subst hw; cases hb),fun o hao=>?_⟩
    obtain ⟨hnd,x0,j,t,u,e,ts,z0,d,c,hxa,rfl,rfl,ht,hut,huu,hd,hj,hz0,hzz,hrun⟩:=key o hao
    refine ⟨hnd,fun S i w ρ hev hh hf=>?_⟩
    have hfn:i nl = none:=hf nl (by simp [AHeap.keys]) (by simp [AHeap.keys])
    obtain ⟨y0,hvy,hr⟩:=hrun S i w ρ hev
    have hxn:ρ x0 = .slice none 0 0:=by
      have:=argV hev hxa hx
      generalize ρ x0 = v at this
      cases this; rfl
    have hnc:Builtin.nextslicecap 1 0 = 1:=nextslicecap_zero (by simp)
    obtain ⟨v,w',h1,h2⟩:=app_newO (nl:=nl) (ty:=o.type) (xs:=[]) ht hut huu hd hj hz0 hzz hzl hxn (hxn ▸ .nilsl) (by simp) hsrc hvy hyz hh (by simp) (by simp)
      (by simp only [List.length_nil,Nat.zero_add,hnc]; omega) hfn
    rw [hr,h1,Result.andThen_ok]
    have h3:Post S i [] w (AV.apo nl j.size []) [(nl,AObj.tokv 0 d0.cells)] v w':=by simpa using h2
    exact h3
  · intro l n xs hx hn hne hfit
    refine ⟨fun w hw hb=>(by subst hw; cases hb),fun o hao=>?_⟩
    obtain ⟨hnd,x0,j,t,u,e,ts,z0,d,c,hxa,rfl,rfl,ht,hut,huu,hd,hj,hz0,hzz,hrun⟩:=key o hao
    refine ⟨hnd,fun S i w ρ hev hh hf=>?_⟩
    have hnone:i nl = none:=hf nl (by simp [AHeap.keys]) (by simp [AHeap.keys,hne])
    have hh0:HeapRel S i [] w:=hh.perm (fun x hx=>by cases hx)
    have hkeys:∀ k∈AHeap.keys [(nl,AObj.tokv n d0.cells)],k ∉ AHeap.keys [(l,AObj.tok n)]:=by simp [AHeap.keys,hne]
    obtain ⟨y0,hvy,hr⟩:=hrun S i w ρ hev
    have hvx:=argV hev hxa hx
    have h0:c.argTypes[0]? = some t:=arr0 ht
    have h1:c.argTypes[1]? = some u:=by rw [←Array.getElem?_toList,ht]; rfl
    have hlen:xs.length + 1≤140737488355328:=by
      have h1:(xs.length + 1) * 2≤(xs.length + 1) * 2 * j.bytes:=Nat.le_mul_of_pos_right _ hby
      omega
    have hfit1:(xs.length + 1) * 2 * j.bytes = 2 * (xs.length + 1) * j.bytes:=by rw [Nat.mul_comm _ 2]
    rw [hr]
    generalize hvx':ρ x0 = vx at hvx
    have grown:∀ base cap,vx = .slice base xs.length cap→DV S (.sl xs) vx→(∀ d∈xs,d.cells.length = j.size)→cap < xs.length + 1→Ends P (Post S i [(l,.tok n)] w (.apo nl j.size xs) [(nl,.tokv n d0.cells)]) (((Builtin.append_ c.argTypes o.type #[vx,ρ y0]).run P w).andThen fun v w'=>.ok (.value v) w'):=by
      intro base cap hvb hdx hzx hg
      have hfitg:Builtin.nextslicecap (xs.length + 1) cap * j.bytes≤281474976710656:=Nat.le_trans (Nat.mul_le_mul_right _ (nextslicecap_le (by omega))) (by omega)
      obtain ⟨v,w',q1,q2⟩:=app_newO (nl:=nl) (ty:=o.type) ht hut huu hd hj hz0 hzz hzl hvb hdx hzx hsrc hvy hyz hh0 hg (by omega) hfitg hnone
      rw [q1,Result.andThen_ok,hn]
      rw [hn] at hkeys
      exact q2.more hkeys
    cases hvx with
    | apn=>exact grown none 0 rfl .nilsl (by simp) (by simp)
    | ap hi hdx hzx hNs hcN =>
      rename_i bb cap N
      by_cases hroom:xs.length + 1≤cap
      · rcases hh.obj l (.tok n) List.mem_cons_self with ⟨b',hb',C,eb,hC,hns⟩ | ⟨hno,_⟩
        case inr=>rw [hi] at hno; cases hno
        rw [hi] at hb'
        cases hb'
        obtain ⟨c1,e1,f1,h1',hN⟩:=hh.size _ _ hNs
        rw [hC] at h1'
        cases h1'
        obtain ⟨new,hn1,hn2,hn3,hn4⟩:=src_ok (P:=P) hsrc hvy hyz'
        rw [show [d0].length = 1 from rfl,Nat.one_mul] at hn1
        rw [show [d0].length = 1 from rfl] at hn4
        have hone:∀ v∈new,v.oneCell' = true:=by
          intro v hv
          obtain ⟨m,hm,rfl⟩:=List.getElem_of_mem hv
          have hm':m < (flat [d0]).length:=by rw [flat_len hyz']; simpa [hn1] using hm
          exact one_of_dv (hn3 m hm' hm) (hn2 _ (List.getElem_mem hm'))
        have hfitC:xs.length * j.size + new.length≤C.size:=by
          have:xs.length * j.size + j.size = (xs.length + 1) * j.size:=by rw [Nat.add_mul,Nat.one_mul]
          rw [hn1,this,hN]
          exact Nat.le_trans (Nat.mul_le_mul_right _ hroom) hcN
        rw [run_append_room' h0 h1 hut huu hd hj (hn4 w hh.cell).1 (hn4 w hh.cell).2 hC hone hroom hfitC,Result.andThen_ok]
        generalize hC':(C.toList.take (xs.length * j.size) ++ new ++ C.toList.drop (xs.length * j.size + new.length)).toArray = C'
        have hsz:C'.size = C.size:=by rw [←hC']; simp; omega
        have hkeep:∀ m,m < n→C'[m]? = C[m]?:=by
          intro m hm
          rw [←hC']
          simp only [List.getElem?_toArray]
          rw [List.getElem?_append_left (by simp; omega),List.getElem?_append_left (by simp; omega),List.getElem?_take]
          rw [if_pos (by omega)]
          simp
        have hup:S.le (S.ext bb n n C'):=by
          refine ⟨fun a v ha=>?_,fun b n h=>h⟩
          simp only [Seal.ext]
          rw [if_neg (by omega)]
          exact ha
        have hat:∀ m (h:m < new.length),C'[n + m]? = some new[m]:=by
          intro m hm
          rw [←hC']
          simp only [List.getElem?_toArray]
          rw [List.getElem?_append_left (by simp; omega),List.getElem?_append_right (by simp; omega)]
          have:n + m - (List.take (xs.length * j.size) C.toList).length = m:=by simp; omega
          rw [this,List.getElem?_eq_getElem hm]
        have hfd:flat [d0] = d0.cells:=by simp [flat]
        refine post_toV (post_room hh hi hC hns hsz hkeep hnone hne ?_ (Nat.le_refl _)) (setRow_heap w bb C C' eb (0,0) hC) (by omega) fun m g1 g2=>?_
        rotate_left
        · have h3:=hat m (by omega)
          rw [Array.getElem?_eq_getElem g2] at h3
          have h4:=hn3 m (by rw [hfd]; exact g1) (by omega)
          simp only [hfd] at h4
          rw [Option.some.inj h3]; exact h4
        exact .apo (n:=N) (by simp [Emb.set]) (hdx.mono hup) hzx hNs hcN hroom
      · exact grown _ _ rfl hdx hzx (by omega)
theorem AOpT.apoArg {ao:AOp} {A:List (Nat×AV)} {H H':AHeap} {r:AV} {t l z:Nat} {xs:List D} (ht:lk A t = some (.apo l z xs)) (h1:∀ cap,xs.length + 1≤cap→AOpT P ao ((t,.sl l 0 (xs.length + 1) cap z) :: A) H r H'):AOpT P ao A H r H':=by
  refine ⟨(h1 _ (Nat.le_refl _)).1,fun o ho=>⟨((h1 _ (Nat.le_refl _)).2 o ho).1,fun S i w ρ hev hh hf=>?_⟩⟩
  have hv:=hev (.tmp t) _ ht
  have key:∀ x,V S i x (ρ (.tmp t))→∀ y a,evL ((t,x) :: A) y = some a→V S i a (ρ y):=by
    intro x hx y a hy
    cases y with
    | tmp u =>
      simp only [evL,lk] at hy
      cases hb:Nat.beq t u with
      | true=>rw [hb] at hy; cases hy; cases Nat.eq_of_beq_eq_true hb; exact hx
      | false=>rw [hb] at hy; exact hev (.tmp u) a hy
    | const v=>exact hev (.const v) a hy
    | func f=>exact hev (.func f) a hy
    | global g=>cases hy
  generalize hu:ρ (.tmp t) = u at hv
  cases hv with
  | apo h hd hz hn hc hl=>exact ((h1 _ hl).2 o ho).2 S i w ρ (key _ (by rw [hu]; exact .sl h)) hh hf
theorem AOpT.iaO {A:List (Nat×AV)} {u z l0:Nat} {y:Arg} {xs:List D} {kd:IntKind} {n:Int} (hx:lk A u = some (.apo l0 z xs)) (hy:∀ v,evA ((u,v) :: A) y = some (.d (.int kd n))) (hb:0≤n∧n < ((xs.length + 1:Nat):Int)) :
    AOpT P (.iaddr (.t u) y z) A [] (.ptr l0 (n.toNat * z)) []:=by
  refine AOpT.apoArg hx fun cap _=>?_
  have:=evOp_ok (P:=P) (own:=false) (nl:=0) (H:=[]) (ao:=.iaddr (.t u) y z) (args:=(u,.sl l0 0 (xs.length + 1) cap z) :: A) (q:=⟨.ptr l0 (0 + n.toNat * z),[],[],0≤n∧n < ((xs.length + 1:Nat):Int)⟩)
    (by simp only [evOp,evA_head,hy,Nat.beq_refl,cond_true]; rfl) hb
  rw [Nat.zero_add] at this
  exact this
theorem post_setV {S:Seal} {i:Emb} {w:World} {l b n:Nat} {ds ds':List D} {c c':Array Value} {e:TypeId} {r:AV} {v:Value} (hh:HeapRel S i [(l,.tokv n ds)] w) (hi:i l = some b)
    (hc:w.heap[b]? = some (.cells c e (0,0))) (hns:∀ a:Addr,a.block = b→n≤a.off→S.cell a = none) (hsz:c'.size = c.size) (hkeep:∀ m,m < n→c'[m]? = c[m]?) (hl:n + ds'.length≤c'.size)
    (hv:∀ j (h1:j < ds'.length) (h2:n + j < c'.size),DV S ds'[j] c'[n + j]) (hr:V S i r v):Post S i [(l,.tokv n ds)] w r [(l,.tokv n ds')] v (w.setRow b c'):=by
  have hold:∀ k,k≠b→(w.setRow b c').heap[k]? = w.heap[k]?:=fun k hk=>setRow_other w b k c' hk
  have hnew:=setRow_heap w b c c' e (0,0) hc
  have hblk:blk i [(l,.tokv n ds)] b:=⟨l,_,List.mem_cons_self,hi⟩
  refine ⟨S,i,hr,⟨fun a v ha=>?_,fun k n hk=>?_,?_,?_,fun l b hb=>(by rw [setRow_size]; exact hh.dom l b hb),hh.gr⟩,fun _ _ h=>h,
    ⟨.refl S,by rw [setRow_size]; exact Nat.le_refl _,fun k _ hk=>hold k fun hkb=>hk (hkb ▸ hblk),fun a v h=>.inl h,fun l b h=>.inl h,?_,rfl,rfl,rfl⟩,fun l b h=>.inl h⟩
  · by_cases hb:a.block = b
    · have hoff:a.off < n:=by
        rcases Nat.lt_or_ge a.off n with h | h
        · exact h
        · rw [hns a hb h] at ha; cases ha
      have:=hh.cell a v ha
      unfold World.cell? at *
      rw [hb] at *
      rw [hc] at this
      rw [hnew]
      simp only at this ⊢
      rw [hkeep _ hoff]; exact this
    · rw [cell_setRow_other w b c' a hb]; exact hh.cell a v ha
  · by_cases hb:k = b
    · subst hb
      obtain ⟨c0,e0,f0,h0,hs0⟩:=hh.size k n hk
      rw [hc] at h0
      cases h0
      exact ⟨c',e,(0,0),hnew,by omega⟩
    · rw [hold k hb]; exact hh.size k n hk
  · intro l' o' hm
    simp only [List.mem_singleton,Prod.mk.injEq] at hm
    obtain ⟨rfl,rfl⟩:=hm
    exact .inl ⟨b,hi,c',e,hnew,hl,hv,hns⟩
  · intro l1 o1 l2 o2 b' hm hm' _ _
    simp only [List.mem_singleton,Prod.mk.injEq] at hm hm'
    rw [hm.1,hm'.1]
  · rintro b' ⟨l',o',hm,hb⟩
    simp only [List.mem_singleton,Prod.mk.injEq] at hm
    refine .inl ⟨l,_,List.mem_cons_self,?_⟩
    rw [←hm.1]; exact hb
theorem compOp_store {op:Op} {a b:Arg} {z:Nat} (h:compOp P op = .store a b z):∃ t x y j,op = .store t x y∧argA x = some a∧argA y = some b∧P.info? t = some j∧j.size = z:=by
  have no1:∀ {op:BinOp} {t:TypeId} {x y:Arg},compBin P op t x y = .store a b z→False:=by
    intro op t x y h
    unfold compBin at h
    repeat' split at h
    all_goals cases h
  have no2:∀ {s d:TypeId} {x:Arg},compConv P s d x = .store a b z→False:=by
    intro s d x h
    unfold compConv at h
    repeat' split at h
    all_goals cases h
  have no3:∀ {c:Call},compCall P c = .store a b z→False:=by
    intro c h
    have k:=compCall_inv (P:=P) (c:=c)
    rw [h] at k
    rcases k with k | k
    · cases k
    · cases k
  cases op <;> simp only [compOp,szK,sbK,aggK] at h
  all_goals (repeat' split at h)
  all_goals first | (cases h; done) | exact (no1 h).elim | exact (no2 h).elim | exact (no3 h).elim | skip
  all_goals first | (cases h; exact ⟨_,_,_,_,rfl,by assumption,by assumption,by assumption,rfl⟩) | exact absurd (by assumption:Op.makeFunc _ _ _ = Op.store _ _ _) (by simp) | exact absurd (by assumption:Op.makeMap _ _ = Op.store _ _ _) (by simp) | exact absurd (by assumption:Op.lookup _ _ _ _ = Op.store _ _ _) (by simp)
theorem AOpT.stO {A:List (Nat×AV)} {x y:Arg} {z l n:Nat} {yv:AV} {cs:List AV} {ds ds':List D} (hx:evA A x = some (.ptr l n)) (hy:evA A y = some yv) (hcs:cellsAV yv = some cs) (hds:toDs cs = some ds') (hz:cs.length = z) (hl:ds.length = z) :
    AOpT P (.store x y z) A [(l,.tokv n ds)] .any [(l,.tokv n ds')]:=by
  refine ⟨fun w hw hb=>(by subst hw; cases hb),fun o hao=>?_⟩
  obtain ⟨t,x0,y0,j,hop,hxa,hya,hj,rfl⟩:=compOp_store hao
  refine ⟨by simp [hop],fun S i w ρ hev hh hf=>?_⟩
  have hvx:=argV hev hxa hx
  have hvy:=argV hev hya hy
  obtain ⟨h1,h2⟩:=cellsAV_ok hcs hvy
  generalize hux:ρ x0 = u at hvx
  cases hvx with
  | ptr hi =>
    rename_i b
    rcases hh.obj l (.tokv n ds) List.mem_cons_self with ⟨b',hb',c,e,hc,hsz,hval,hns⟩ | ⟨hn,_⟩
    case inr=>rw [hi] at hn; cases hn
    rw [hi] at hb'
    cases hb'
    obtain ⟨k1,k2,k3⟩:=toDs_ok (S:=S) (i:=i) (f:=fun m=>(ρ y0).cells.getD m undef) 0 hds (fun m hm=>by
      have:=h2 m hm (by omega)
      simpa [show m < (ρ y0).cells.size by omega] using this)
    have hone:∀ v∈(ρ y0).cells.toList,v.oneCell' = true:=by
      intro v hv
      obtain ⟨k,hk,rfl⟩:=List.getElem_of_mem hv
      have hk':k < ds'.length:=by simp at hk; omega
      have:=k3 k hk'
      simp only [Nat.zero_add] at this
      have h4:(ρ y0).cells.toList[k] = (ρ y0).cells.getD k undef:=by simp at hk; simp [hk]
      rw [h4]
      exact one_of_dv this (k2 _ (List.getElem_mem hk'))
    have hlen':(ρ y0).cells.toList.length = cs.length:=by simpa using h1
    have hrun:=run_storeCells_at (P:=P) b n e (ρ y0).cells.toList 0 c w hc (by omega) hone
    have hex:(execOp ρ o).run P w = .ok .skip (w.setRow b (c.toList.take (n + 0) ++ (ρ y0).cells.toList ++ c.toList.drop (n + 0 + (ρ y0).cells.toList.length)).toArray):=by
      simp only [execOp,hop,Instr.storeAt,hux,Instr.sureAddr,Sem.run_bind,Sem.run_pure,Result.andThen_ok,storeVar,run_sizeOf hj]
      rw [if_neg (by rw [h1,hz]; simp)]
      rw [hrun]
      rfl
    rw [hex]
    have hsize:((c.toList.take (n + 0) ++ (ρ y0).cells.toList ++ c.toList.drop (n + 0 + (ρ y0).cells.toList.length)).toArray).size = c.size:=by
      simp; omega
    refine post_setV hh hi hc hns hsize (fun m hm=>?_) (by rw [hsize]; omega) (fun m m1 m2=>?_) .any
    · simp only [List.getElem?_toArray]
      rw [List.getElem?_append_left (by simp; omega),List.getElem?_append_left (by simp; omega),List.getElem?_take,if_pos (by omega)]
      simp
    · have:=k3 m m1
      simp only [Nat.zero_add] at this
      have hm:m < (ρ y0).cells.size:=by omega
      have he:((c.toList.take (n + 0) ++ (ρ y0).cells.toList ++ c.toList.drop (n + 0 + (ρ y0).cells.toList.length)).toArray)[n + m] = (ρ y0).cells.getD m undef:=by
        simp only [List.getElem_toArray]
        rw [List.getElem_append_left (by simp; omega),List.getElem_append_right (by simp; omega)]
        have:n + m - min n c.size = m:=by omega
        simp [this,hm]
      rw [he]; exact this
inductive ClV (l0 z:Nat) (xs:List D) (d:D):AV→AV→Prop
  | same {v}:ClV l0 z xs d v v
  | cl:ClV l0 z xs d (.apo l0 z xs) (.ap l0 z (xs ++ [d]))
inductive ClL (l0 z:Nat) (xs:List D) (d:D):List AV→List AV→Prop
  | nil:ClL l0 z xs d [] []
  | cons {x y:AV} {r s:List AV}:ClV l0 z xs d x y→ClL l0 z xs d r s→ClL l0 z xs d (x :: r) (y :: s)
inductive ClO (l0 z:Nat) (xs:List D) (d:D):AObj→AObj→Prop
  | same {o}:ClO l0 z xs d o o
  | cells {L L':List AV} (h:ClL l0 z xs d L L'):ClO l0 z xs d (.cells L) (.cells L')
inductive ClSl (l0 z:Nat) (xs:List D) (d:D):List (Nat×AV)→List (Nat×AV)→Prop
  | nil:ClSl l0 z xs d [] []
  | cons {t:Nat} {x y:AV} {r s:List (Nat×AV)}:ClV l0 z xs d x y→ClSl l0 z xs d r s→ClSl l0 z xs d ((t,x) :: r) ((t,y) :: s)
inductive ClH (l0 z:Nat) (xs:List D) (d:D) (n0:Nat) (ds0:List D):AHeap→AHeap→Prop
  | nil:ClH l0 z xs d n0 ds0 [] []
  | tok {r s:AHeap}:ClH l0 z xs d n0 ds0 r s→ClH l0 z xs d n0 ds0 ((l0,.tokv n0 ds0) :: r) ((l0,.tok (n0 + ds0.length)) :: s)
  | cons {t:Nat} {x y:AObj} {r s:AHeap}:ClO l0 z xs d x y→t≠l0→ClH l0 z xs d n0 ds0 r s→ClH l0 z xs d n0 ds0 ((t,x) :: r) ((t,y) :: s)
end
end Go.Proofs.Abs
end
section
namespace Go.Proofs.Abs
open Go
set_option linter.unusedVariables false
set_option linter.unusedSectionVars false
inductive Cm where
  | v (x:AV)
  | ds (x:List D)
  | d (x:D)
  | b (x:Bool)
  | i (n:Int)
  | n (n:Nat)
  | p (q:Prop)
  | o (x:AObj)
abbrev CmL:=List (Cm×Cm)
def okC (ps:CmL):Prop:=∀ p∈ps,p.1 = p.2
theorem okC.nil:okC []:=fun p hp=>by cases hp
theorem okC_cons {x:Cm×Cm} {r:CmL}:okC (x :: r)↔x.1 = x.2∧okC r:=by simp [okC]
theorem okC_app {a b:CmL}:okC (a ++ b)↔okC a∧okC b:=by
  simp only [okC,List.mem_append]
  exact ⟨fun h=>⟨fun p hp=>h p (.inl hp),fun p hp=>h p (.inr hp)⟩,fun h p hp=>hp.elim (h.1 p) (h.2 p)⟩
def lhsC:Option CmL→Option (List Cm)
  | some ps=>some (ps.map (·.1))
  | none=>some [.b true]
def rhsC:Option CmL→Option (List Cm)
  | some ps=>some (ps.map (·.2))
  | none=>some [.b false]
theorem map_fst_snd:∀ {ps:CmL},ps.map (·.1) = ps.map (·.2)→okC ps
  | [],_=>okC.nil
  | x :: r,h=>by
    simp only [List.map_cons,List.cons.injEq] at h
    exact okC_cons.2 ⟨h.1,map_fst_snd h.2⟩
theorem chk_ok {o:Option CmL} (h:lhsC o = rhsC o):∃ ps,o = some ps∧okC ps:=by
  cases o with
  | none=>simp [lhsC,rhsC] at h
  | some ps=>exact ⟨ps,rfl,map_fst_snd (by simpa [lhsC,rhsC] using h)⟩
def eqV (u v:AV):Option CmL:=some [(.v u,.v v)]
def sub0 (u v:AV):Option CmL:=match v with
  | .any=>some []
  | .d y=>match u with
    | .d x=>some [(.d x,.d y)]
    | .agg xs=>match toDs xs with
      | some ds=>some [(.d (.agg ds),.d y)]
      | none=>none
    | u=>match toSl u with
      | some l=>some [(.d (.sl l),.d y)]
      | none=>none
  | .ap l z ys=>match u with
    | .nils=>some [(.ds [],.ds ys)]
    | u=>eqV u (.ap l z ys)
  | .row l z n=>match u with
    | .nils=>some [(.n 0,.n n)]
    | u=>eqV u (.row l z n)
  | v=>eqV u v
theorem eqV_ok {u v:AV} {ps:CmL} (h:eqV u v = some ps) (hc:okC ps):Sub u v:=by
  cases h
  have:=(okC_cons.1 hc).1
  cases this; exact .refl _
theorem sub0_ok {u v:AV} {ps:CmL} (h:sub0 u v = some ps) (hc:okC ps):Sub u v:=by
  unfold sub0 at h
  split at h
  · exact .any _
  · split at h
    · cases h
      have:=(okC_cons.1 hc).1
      cases this; exact .refl _
    · split at h
      · rename_i ds hds
        cases h
        have:=(okC_cons.1 hc).1
        simp only [Cm.d.injEq] at this
        subst this
        exact .aggd hds
      · cases h
    · split at h
      · rename_i l hl
        cases h
        have:=(okC_cons.1 hc).1
        simp only [Cm.d.injEq] at this
        subst this
        exact .sl hl
      · cases h
  · split at h
    · cases h
      have:=(okC_cons.1 hc).1
      simp only [Cm.ds.injEq] at this
      subst this
      exact .nil
    · exact eqV_ok h hc
  · split at h
    · cases h
      have:=(okC_cons.1 hc).1
      simp only [Cm.n.injEq] at this
      subst this
      exact .nilr
    · exact eqV_ok h hc
  · exact eqV_ok h hc
def subL0:List AV→List AV→Option CmL
  | [],[]=>some []
  | u :: us,v :: vs=>match sub0 u v,subL0 us vs with
    | some a,some b=>some (a ++ b)
    | _,_=>none
  | _,_=>none
theorem subL0_ok:∀ {us vs:List AV} {ps:CmL},subL0 us vs = some ps→okC ps→SubL us vs
  | [],[],ps,h,_=>.nil
  | u :: us,v :: vs,ps,h,hc=>by
    simp only [subL0] at h
    split at h
    · rename_i a b h1 h2
      cases h
      obtain ⟨c1,c2⟩:=okC_app.1 hc
      exact .cons (sub0_ok h1 c1) (subL0_ok h2 c2)
    · cases h
  | [],_ :: _,ps,h,_=>by cases h
  | _ :: _,[],ps,h,_=>by cases h
def subC (u v:AV):Option CmL:=match u,v with
  | .tup xs,.tup ys=>subL0 xs ys
  | .agg xs,.agg ys=>subL0 xs ys
  | .d (.agg ds),.agg ys=>subL0 (ds.map .d) ys
  | u,v=>sub0 u v
theorem subC_ok {u v:AV} {ps:CmL} (h:subC u v = some ps) (hc:okC ps):Sub u v:=by
  unfold subC at h
  split at h
  · exact .tup (subL0_ok h hc)
  · exact .agg (subL0_ok h hc)
  · exact Sub.dagg.trans (.agg (subL0_ok h hc))
  · exact sub0_ok h hc
def subLC:List AV→List AV→Option CmL
  | [],[]=>some []
  | u :: us,v :: vs=>match subC u v,subLC us vs with
    | some a,some b=>some (a ++ b)
    | _,_=>none
  | _,_=>none
theorem subLC_ok:∀ {us vs:List AV} {ps:CmL},subLC us vs = some ps→okC ps→SubL us vs
  | [],[],ps,h,_=>.nil
  | u :: us,v :: vs,ps,h,hc=>by
    simp only [subLC] at h
    split at h
    · rename_i a b h1 h2
      cases h
      obtain ⟨c1,c2⟩:=okC_app.1 hc
      exact .cons (subC_ok h1 c1) (subLC_ok h2 c2)
    · cases h
  | [],_ :: _,ps,h,_=>by cases h
  | _ :: _,[],ps,h,_=>by cases h
theorem SubO.qp {f z:Nat} {vs:List Value} {sp:List (Nat×AV)} {ds:List D}:SubO (.rowQ f z vs sp ds) (.rowP ds) :=
  ⟨fun S i w b ⟨c,e,h0,h1,h2,_,_,_,h6⟩=>⟨c,e,h0,h1,h2,h6⟩,fun h=>h.2.2⟩
theorem SubO.qq {f z:Nat} {vs:List Value} {sp:List (Nat×AV)} {ds:List D}:SubO (.rowQ f z vs sp ds) (.rowQ f z vs [] ds) :=
  ⟨fun S i w b ⟨c,e,h0,h1,h2,h3,h4,h5,h6⟩=>⟨c,e,h0,h1,h2,h3,(fun x hx=>by cases hx),h5,h6⟩,fun h=>⟨h.1,rfl,h.2.2⟩⟩
theorem SubO.q1 {f z a:Nat} {vs:List Value} {u v:AV} {ds:List D} (h:Sub u v):SubO (.rowQ f z vs [(a,u)] ds) (.rowQ f z vs [(a,v)] ds) :=
  ⟨fun S i w b ⟨c,e,h0,h1,h2,h3,h4,h5,h6⟩=>⟨c,e,h0,h1,h2,h3,(fun x hx=>by cases List.mem_singleton.1 hx; exact h _ _ _ (h4 _ (List.mem_singleton.2 rfl))),h5,h6⟩,fun h=>by cases h.2.1⟩
def subO (p q:AObj):Option CmL:=match p,q with
  | .cells xs,.cells ys=>subLC xs ys
  | .rowQ f z vs sp ds,.rowQ f' z' vs' [] ds'=>some [(.o (.rowQ f z vs [] ds),.o (.rowQ f' z' vs' [] ds'))]
  | .rowQ f z vs [(a,u)] ds,.rowQ f' z' vs' [(a',v)] ds'=>match sub0 u v with
    | some cs=>some ((.n a,.n a') :: (.o (.rowQ f z vs [] ds),.o (.rowQ f' z' vs' [] ds')) :: cs)
    | none=>none
  | .rowQ f z vs sp ds,.rowP ds'=>some [(.o (.rowP ds),.o (.rowP ds'))]
  | p,q=>some [(.o p,.o q)]
theorem subO_ok {p q:AObj} {ps:CmL} (h:subO p q = some ps) (hc:okC ps):SubO p q:=by
  unfold subO at h
  split at h
  · exact .cells (subLC_ok h hc)
  · cases h
    have:=(okC_cons.1 hc).1
    simp only [Cm.o.injEq] at this
    rw [←this]
    exact .qq
  · split at h
    · rename_i cs hcs
      cases h
      obtain ⟨c1,r1⟩:=okC_cons.1 hc
      obtain ⟨c2,r2⟩:=okC_cons.1 r1
      simp only [Cm.n.injEq,Cm.o.injEq,AObj.rowQ.injEq] at c1 c2
      obtain ⟨rfl,rfl,rfl,_,rfl⟩:=c2
      subst c1
      exact .q1 (sub0_ok hcs r2)
    · cases h
  · cases h
    have:=(okC_cons.1 hc).1
    simp only [Cm.o.injEq] at this
    rw [←this]
    exact .qp
  · cases h
    have:=(okC_cons.1 hc).1
    cases this; exact .refl _
def slotsC (l:List (Nat×AV)) (s:Nat→Nat) (k:Nat):List (Nat×AV)→Option CmL
  | []=>some []
  | (t,v) :: r=>match lk l t with
    | some u=>bif AV.ltb k v then (match subC u (v.ren s),slotsC l s k r with
      | some a,some b=>some (a ++ b)
      | _,_=>none) else none
    | none=>none
theorem slotsC_ok {l:List (Nat×AV)} {s:Nat→Nat} {k:Nat}:∀ {l':List (Nat×AV)} {ps:CmL},slotsC l s k l' = some ps→okC ps→slotsS l s k l'
  | [],_,_,_=>trivial
  | (t,v) :: r,ps,h,hc=>by
    simp only [slotsC] at h
    split at h
    · rename_i u hu
      cases hb:AV.ltb k v <;> rw [hb] at h
      · cases h
      · simp only [cond_true] at h
        split at h
        · rename_i a b h1 h2
          cases h
          obtain ⟨c1,c2⟩:=okC_app.1 hc
          exact ⟨⟨u,hu,subC_ok h1 c1⟩,hb,slotsC_ok h2 c2⟩
        · cases h
    · cases h
def objsC (H:AHeap) (s:Nat→Nat) (k:Nat):AHeap→Option CmL
  | []=>some []
  | (t,o) :: r=>match lkH H (s t) with
    | some p=>bif Nat.blt t k && AObj.ltb k o then (match subO p (o.ren s),objsC H s k r with
      | some a,some b=>some (a ++ b)
      | _,_=>none) else none
    | none=>none
theorem objsC_ok {H:AHeap} {s:Nat→Nat} {k:Nat}:∀ {H':AHeap} {ps:CmL},objsC H s k H' = some ps→okC ps→objsS H s k H'
  | [],_,_,_=>trivial
  | (t,o) :: r,ps,h,hc=>by
    simp only [objsC] at h
    split at h
    · rename_i p hp
      cases hb:(Nat.blt t k && AObj.ltb k o) <;> rw [hb] at h
      · cases h
      · simp only [cond_true] at h
        split at h
        · rename_i a b h1 h2
          cases h
          obtain ⟨c1,c2⟩:=okC_app.1 hc
          rw [Bool.and_eq_true] at hb
          exact ⟨⟨p,hp,subO_ok h1 c1⟩,hb.1,hb.2,objsC_ok h2 c2⟩
        · cases h
    · cases h
def insC (m k:Nat) (ps:List (Nat×Nat)) (zs:List AObj) (l':List (Nat×AV)) (H':AHeap) (l:List (Nat×AV)) (H:AHeap) (n:Nat):Option CmL :=
  bif zs.all nilB && subOK m k ps H' then (match slotsC l (sub1 ps) k l',objsC (zsH n zs ++ H) (sub1 ps) k H' with
    | some a,some b=>some (a ++ b)
    | _,_=>none) else none
theorem inT {m N k:Nat} {l':List (Nat×AV)} {H':AHeap} {l:List (Nat×AV)} {H:AHeap} {n:Nat} (ps:List (Nat×Nat)) (zs:List AObj) (h:lhsC (insC m k ps zs l' H' l H n) = rhsC (insC m k ps zs l' H' l H n):=by kernel_rfl) :
    InS m N k l' H' ⟨N,l⟩ H n:=by
  obtain ⟨cs,h1,hc⟩:=chk_ok h
  unfold insC at h1
  cases hb:(zs.all nilB && subOK m k ps H') <;> rw [hb] at h1
  · cases h1
  · simp only [cond_true] at h1
    split at h1
    · rename_i a b g1 g2
      cases h1
      obtain ⟨c1,c2⟩:=okC_app.1 hc
      rw [Bool.and_eq_true] at hb
      exact ⟨rfl,zs,ps,hb.1,hb.2,slotsC_ok g1 c1,objsC_ok g2 c2⟩
    · cases h1
end Go.Proofs.Abs
end
section
namespace Go.Proofs.Abs
open Go
set_option linter.unusedVariables false
set_option linter.unusedSectionVars false
structure QO where
  v:AV
  hin:AHeap
  hout:AHeap
  q:Bool
  ps:CmL
structure QEv (P:Program) where
  run:Nat→List (Nat×AV)→AHeap→AOp→Option QO
  ok:∀ {nl:Nat} {u:List (Nat×AV)} {H:AHeap} {op:AOp} {r:QO},run nl u H op = some r→okC r.ps→AOpT P op u r.hin r.v r.hout∧(∀ x∈r.hin,x∈H)∧(r.q = true→r.hin = r.hout)
inductive Ev (P:Program):Type 1 where
  | q (R:QEv P)
  | br {b β:Bool} (h:b = β)
  | sd {p:Prop} (h:p)
  | raw
  | iad {α:Type} [Inhabited α] (e:α→D) (xs:List α) (z:Nat) (hz:∀ a,(e a).cells.length = z) {n:Int} (hb:0≤n∧n < (xs.length:Int))
  | iadE {α:Type} [Inhabited α] (e:α→D) (xs:List α) (z:Nat) (hz:∀ a,(e a).cells.length = z) {n:Int} (hb:0≤n∧n < (xs.length:Int)) {w:D} (hw:e (rd xs n) = w)
  | iao {α:Type} (e:α→D) (xs:List α)
  | ln {α:Type} (e:α→D) (xs:List α)
  | bs (b:List UInt8)
  | slc {α:Type} (e:α→D) (xs:List α) (z:Nat) (hz:∀ a,(e a).cells.length = z) {lo hi:Int} (hb:0≤lo∧lo≤hi∧hi≤(xs.length:Int))
  | apN {α:Type} (e:α→D) (ys:List α) (z:Nat) (hz:∀ a,(e a).cells.length = z) {by':Nat} (hb:ys.length * by'≤281474976710656)
  | apA {α:Type} (e:α→D) (xs ys:List α) (z:Nat) (hz:∀ a,(e a).cells.length = z) {by':Nat} (hb:(xs.length + ys.length) * 2 * by'≤281474976710656)
  | apO {α:Type} (e:α→D) (xs:List α) {by':Nat} (hb:(xs.length + 1) * 2 * by'≤281474976710656)
  | call {f:FuncId} {ys:List AV} {hin hout:AHeap} {r:AV} (h:ACalls P f ys hin r hout) (ps:List (Nat×Nat)) (K:Nat)
  | cq {f:FuncId} {ys:List AV} {hin:AHeap} {r:AV} (h:ACalls P f ys hin r hin) (ps:List (Nat×Nat)) (K:Nat)
structure SO (P:Program):Type 1 where
  v:AV
  hin:AHeap
  hout:AHeap
  q:Bool
  ps:CmL
  evs:List (Ev P)
def norm8 (op:AOp) (v:AV):AV:=match op with
  | .cvi _ _=>(match v with | .d (.int .u8 n)=>.d (.int .u8 ((u8 n).toNat:Nat)) | v=>v)
  | .bin op _ _=>(match op with
    | .add | .sub | .mul | .and | .or | .xor | .andNot | .shl=>(match v with | .d (.int .u8 n)=>.d (.int .u8 ((u8 n).toNat:Nat)) | v=>v)
    | _=>v)
  | _=>v
def sideQ (ev:Arg→Option AV) (H:AHeap):AOp→Bool
  | .mv _ | .pick _ _ _ | .beq _ _ _ | .nileq _ _ _ _ | .un _ _ | .cvi _ _ | .ext _ _ | .faddr _ _ | .slen _ | .cap _ | .mm _ _ | .nilchk _ | .mkfn _ _ | .alloc _ | .box _ | .s2bs _=>true
  | .bin op x y=>match op with
    | .shl | .shr | .quo | .rem=>false
    | .add=>(match ev x with | some (.d (.str _))=>false | _=>true)
    | _=>true
  | .fld x o z g=>match ev x with
    | some (.d (.agg cs))=>bif g then Nat.ble (o + z) cs.length else true
    | _=>false
  | .load x z g=>match ev x with
    | some (.cp d off)=>bif g then d.isAgg && Nat.ble (off + z) d.cells.length else true
    | some (.ptr l off)=>match lkH H l with
      | some (.cells L)=>bif g then Nat.ble (off + z) L.length else true
      | _=>false
    | _=>false
  | .store x v z=>match ev x,(ev v).bind cellsAV with
    | some (.ptr l off),some cs=>match lkH H l with
      | some (.cells L)=>Nat.beq cs.length z && Nat.ble (off + z) L.length && cs.all AV.scalar
      | _=>false
    | _,_=>false
  | .build zz ps=>bldQ ev (zz.map zAV) ps
  | .bslice n z zz ps=>match allAV ev (ps.map (·.2)) with
    | some vs=>match toEs vs with
      | some ds=>Nat.beq zz.length z && Nat.ble (n * z) 16777216 && ds.all fun d=>Nat.beq d.cells.length z
      | none=>false
    | none=>false
  | _=>false
where bldQ (ev:Arg→Option AV):List AV→List (Nat×Nat×Arg)→Bool
  | _,[]=>true
  | L,(off,sz,a) :: r=>match (ev a).bind cellsAV with
    | some cs=>Nat.beq cs.length sz && Nat.ble (off + sz) L.length && bldQ ev (upd L off cs) r
    | none=>false
theorem bldQ_ok {ev:Arg→Option AV}:∀ {ps:List (Nat×Nat×Arg)} {L L':List AV} {s:Prop},buildF ev L ps = some (L',s)→sideQ.bldQ ev L ps = true→s
  | [],L,L',s,h,_=>by cases h; trivial
  | (off,sz,a) :: r,L,L',s,h,hb=>by
    simp only [buildF] at h
    simp only [sideQ.bldQ] at hb
    split at h
    · rename_i cs hcs
      rw [hcs] at hb
      simp only [Bool.and_eq_true] at hb
      split at h
      · rename_i L2 s2 h2
        cases h
        exact ⟨⟨Nat.eq_of_beq_eq_true hb.1.1,Nat.le_of_ble_eq_true hb.1.2⟩,bldQ_ok h2 hb.2⟩
      · cases h
    · cases h
theorem sideQ_ok {ev:Arg→Option AV} {H:AHeap} {nl:Nat} {op:AOp} {q:Out} (h:evOp false nl ev H op = some q) (hb:sideQ ev H op = true):q.side:=by
  cases op <;> simp only [sideQ,Bool.false_eq_true] at hb <;> try (simp only [evOp] at h)
  case mv=>simp only [Option.bind_eq_some_iff,out,Option.some.injEq] at h; obtain ⟨_,_,rfl⟩:=h; trivial
  case pick =>
    split at h <;> first | cases h | skip
    simp only [Option.bind_eq_some_iff,out,Option.some.injEq] at h; obtain ⟨_,_,rfl⟩:=h; trivial
  case bin bop x y =>
    split at h <;> first | cases h | skip
    rename_i a b ha hb'
    simp only [Option.bind_eq_some_iff,out,Option.some.injEq] at h
    obtain ⟨⟨r,s⟩,h1,rfl⟩:=h
    simp only
    unfold binA at h1
    split at h1
    · cases bop <;> simp only [Bool.false_eq_true] at hb <;> simp only [Bool.cond_decide] at h1 <;> (split at h1 <;> first | (cases h1; done) | (cases h1; trivial))
    · cases bop <;> simp only [Bool.false_eq_true] at hb <;> simp only at h1 <;> first | (cases h1; done) | skip
      all_goals first | (simp only [Option.some.injEq,Prod.mk.injEq] at h1; exact h1.2 ▸ trivial) | (rw [ha] at hb; simp at hb)
    · cases h1
  case beq =>
    split at h <;> first | cases h | skip
    trivial
  case nileq =>
    split at h <;> first | cases h | skip
    simp only [Option.bind_eq_some_iff,out,Option.some.injEq] at h; obtain ⟨_,_,rfl⟩:=h; trivial
  case un=>split at h <;> first | (cases h; done) | (cases h; trivial)
  case cvi=>split at h <;> first | (cases h; done) | (cases h; trivial)
  case ext =>
    split at h <;> first | cases h | skip
    simp only [Option.bind_eq_some_iff,out,Option.some.injEq] at h; obtain ⟨_,_,rfl⟩:=h; trivial
  case faddr=>split at h <;> first | (cases h; done) | (cases h; trivial)
  case slen=>split at h <;> first | (cases h; done) | (cases h; trivial)
  case cap=>split at h <;> first | (cases h; done) | (cases h; trivial)
  case mm=>split at h <;> first | (cases h; done) | (cases h; trivial)
  case nilchk=>split at h <;> first | (cases h; done) | (cases h; trivial)
  case mkfn=>split at h <;> first | (cases h; done) | (cases h; trivial)
  case alloc=>cases h; trivial
  case box=>split at h <;> first | (cases h; done) | (cases h; trivial)
  case s2bs=>split at h <;> first | (cases h; done) | (cases h; trivial)
  case fld x o z g =>
    split at h <;> first | cases h | skip
    rename_i cs hx
    rw [hx] at hb
    cases g
    · simp only [cond_false] at h
      split at h <;> first | (cases h; done) | (cases h; trivial)
    · simp only [cond_true] at h hb
      cases h; exact Nat.le_of_ble_eq_true hb
  case load x z g =>
    simp only [Option.bind_eq_some_iff] at h
    obtain ⟨y,hy,h⟩:=h
    rw [hy] at hb
    unfold loadA at h
    split at h
    · cases g
      · simp only [cond_false] at h
        split at h <;> first | (cases h; done) | (cases h; trivial)
      · simp only [cond_true,Bool.and_eq_true] at h hb
        generalize hq:(Nat.beq _ 0 && _) = qq at h
        cases qq <;> cases h
        · exact ⟨hb.1,Nat.le_of_ble_eq_true hb.2⟩
        · exact hb.1
    · split at h
      · rename_i L hL
        simp only [hL] at hb
        cases g
        · simp only [cond_false] at h
          split at h <;> first | (cases h; done) | (cases h; trivial)
        · simp only [cond_true] at h hb
          cases h; exact Nat.le_of_ble_eq_true hb
      · cases h
    · cases h
  case store x v z =>
    split at h <;> first | cases h | skip
    rename_i l off cs hx hcs
    rw [hx,hcs] at hb
    simp only at hb
    split at h <;> first | cases h | skip
    rename_i L hL
    rw [hL] at hb
    simp only [Bool.and_eq_true] at hb
    exact ⟨Nat.eq_of_beq_eq_true hb.1.1,Nat.le_of_ble_eq_true hb.1.2,hb.2⟩
  case build zz ps =>
    split at h <;> first | cases h | skip
    rename_i L s hL
    exact bldQ_ok hL hb
  case bslice n z zz ps =>
    generalize hq:natListBeq _ _ = qq at h
    cases qq
    · cases h
    · simp only [cond_true,cond_false] at h
      split at h <;> first | cases h | skip
      rename_i vs hvs
      rw [hvs] at hb
      simp only at hb
      split at h <;> first | cases h | skip
      rename_i ds hds
      rw [hds] at hb
      simp only [Bool.and_eq_true,List.all_eq_true] at hb
      exact ⟨Nat.eq_of_beq_eq_true hb.1.1,Nat.le_of_ble_eq_true hb.1.2,fun d hd=>Nat.eq_of_beq_eq_true (hb.2 d hd)⟩
end Go.Proofs.Abs
end
section
namespace Go.Proofs.Abs
open Go
set_option linter.unusedVariables false
set_option linter.unusedSectionVars false
section
variable {P:Program}
def hasC (H:AHeap):AHeap→Option CmL
  | []=>some []
  | (l,o) :: r=>match lkH H l,hasC H r with
    | some p,some ps=>some ((.o p,.o o) :: ps)
    | _,_=>none
theorem hasC_ok {H:AHeap}:∀ {G:AHeap} {ps:CmL},hasC H G = some ps→okC ps→∀ x∈G,lkH H x.1 = some x.2
  | [],_,_,_=>fun x hx=>by cases hx
  | (l,o) :: r,ps,h,hc=>by
    simp only [hasC] at h
    split at h
    · rename_i p ps' h1 h2
      cases h
      obtain ⟨c1,c2⟩:=okC_cons.1 hc
      cases c1
      intro x hx
      rcases List.mem_cons.1 hx with rfl | hx
      · exact h1
      · exact hasC_ok h2 c2 x hx
    · cases h
def callC (evs:List (Ev P)) (u:List (Nat×AV)) (H:AHeap) (gg:Arg) (as:List Arg) (f:FuncId) (ys:List AV) (hin:AHeap) (r:AV) (hout:AHeap) (ps:List (Nat×Nat)) (K:Nat) (q:Bool):Option (SO P) :=
  match evA u gg,allAV (evA u) as with
  | some fv,some vs=>match callOf fv vs with
    | some (f',ws)=>bif useOK ps K hin r hout then (match subLC ws (AV.renL (sub1 ps) ys),hasC H (hin.ren (sub1 ps)) with
      | some a,some b=>some ⟨r.ren (sub1 ps),hin.ren (sub1 ps),hout.ren (sub1 ps),q,(.n f',.n f) :: (a ++ b),evs⟩
      | _,_=>none) else none
    | none=>none
  | _,_=>none
def isNil2 (a b:AHeap):Bool:=match a,b with
  | [],[]=>true
  | _,_=>false
def encL (n:Int):List UInt8:=(Utf8.encode n).data.toList
def notI (a:AOp):Prop:=∀ x,a≠.i2s x
theorem notI_bad:notI .bad:=fun x h=>by cases h
theorem notI_sz {t:TypeId} {f:Nat→AOp} (h:∀ z,notI (f z)):notI (szK P t f):=by
  unfold szK
  split
  · exact h _
  · exact notI_bad
theorem notI_ag {t:TypeId} {f:Bool→AOp} (h:∀ z,notI (f z)):notI (aggK P t f):=by
  unfold aggK
  split
  · exact h _
  · exact notI_bad
theorem notI_sb {t:TypeId} {f:Nat→Nat→AOp} (h:∀ z b,notI (f z b)):notI (sbK P t f):=by
  unfold sbK
  split
  · exact h _ _
  · exact notI_bad
theorem i2s_inv {op:Op} {a:Arg} (h:compOp P op = .i2s a):∃ s d x k,op = .convert s d x∧argA x = some a∧und P s = .int k∧und P d = .string:=by
  unfold compOp at h
  split at h
  case h_6=>
    split at h
    · rename_i s d y x hx
      unfold compConv at h
      repeat' split at h
      all_goals first | cases h | skip
      exact ⟨_,_,_,_,rfl,hx,by assumption,by assumption⟩
    · cases h
  case h_13 =>
    rename_i c
    rcases compCall_inv (P:=P) (c:=c) with hb | hk
    · rw [hb] at h; cases h
    · rw [h] at hk; cases hk
  all_goals first
    | (cases h; done)
    | (repeat' split at h
       all_goals first | (cases h; done) | (unfold compBin at h; repeat' split at h
                                            all_goals (cases h; done)) | (exact absurd h (notI_sz (fun _=>notI_ag fun _ x h=>by cases h) _)) | (exact absurd h (notI_sz (fun _ x h=>by cases h) _)) | (exact absurd h (notI_sb (fun _ _ x h=>by cases h) _)) | (exact absurd h (notI_sz (fun z=>by split <;> (intro x h; cases h)) _)) | skip)
    | skip
theorem AOpT.i2s {u:List (Nat×AV)} {x:Arg} {k:IntKind} {n:Int} (hx:evA u x = some (.d (.int k n))):AOpT P (.i2s x) u [] (.d (.str (encL n))) []:=by
  refine ⟨fun y hy h=>by rw [hy] at h; exact absurd h (by simp),fun o ho=>?_⟩
  obtain ⟨s,d,x',k0,hop,hx',hs,hd⟩:=i2s_inv ho
  have h1:=und_some hs (by simp)
  have h2:=und_some hd (by simp)
  refine .pure (by simp [hop]) fun S i w ρ hev hh=>⟨.string (Utf8.encode n),?_,?_⟩
  · have hv:=vInt (argV hev hx' hx)
    simp only [execOp,hop,hv,convert,Sem.run_bind,run_und h1,run_und h2,Result.andThen_ok,Conv.intToString]
    rfl
  · have e:Utf8.encode n = ⟨(encL n).toArray⟩:=by simp [encL]
    rw [e]
    exact .d .str
def rfrom (s:ByteArray):Nat→Nat→List Int
  | 0,_=>[]
  | b + 1,i=>if i < s.size then ((Utf8.decode s i).1:Int) :: rfrom s b (i + (Utf8.decode s i).2) else []
def runL (l:List UInt8):List Int:=rfrom ⟨l.toArray⟩ l.length 0
theorem rf_eq (s:ByteArray):∀ (b i:Nat) (acc:Array Value),Conv.runesFrom s b i acc = acc ++ ((rfrom s b i).map (Value.int .i32)).toArray
  | 0,i,acc=>by simp [Conv.runesFrom,rfrom]
  | b + 1,i,acc=>by
    unfold Conv.runesFrom rfrom
    by_cases h:i < s.size
    · rw [if_pos h,if_pos h]
      simp only
      rw [rf_eq s b]
      simp
    · rw [if_neg h,if_neg h]
      simp
theorem runL_len (l:List UInt8):(runL l).length≤l.length:=by
  have:=size_runesFrom ⟨l.toArray⟩ l.length 0 #[]
  rw [rf_eq] at this
  simpa [runL] using this
theorem ne_sz {t:TypeId} {f:Nat→AOp} {y:AOp} (hy:y≠.bad) (h:∀ z,f z≠y):szK P t f≠y:=by
  unfold szK
  split
  · exact h _
  · exact hy.symm
theorem ne_ag {t:TypeId} {f:Bool→AOp} {y:AOp} (hy:y≠.bad) (h:∀ z,f z≠y):aggK P t f≠y:=by
  unfold aggK
  split
  · exact h _
  · exact hy.symm
theorem ne_sb {t:TypeId} {f:Nat→Nat→AOp} {y:AOp} (hy:y≠.bad) (h:∀ z b,f z b≠y):sbK P t f≠y:=by
  unfold sbK
  split
  · exact h _ _
  · exact hy.symm
theorem s2rs_inv {op:Op} {a:Arg} (h:compOp P op = .s2rs a):∃ s d x e,op = .convert s d x∧argA x = some a∧und P s = .string∧und P d = .slice e∧und P e = .int .i32:=by
  unfold compOp at h
  split at h
  case h_6 =>
    split at h
    · rename_i s d y x hx
      unfold compConv at h
      repeat' split at h
      all_goals first | cases h | skip
      exact ⟨_,_,_,_,rfl,hx,by assumption,by assumption,by assumption⟩
    · cases h
  case h_13 =>
    rename_i c
    rcases compCall_inv (P:=P) (c:=c) with hb | hk
    · rw [hb] at h; cases h
    · rw [h] at hk; cases hk
  all_goals first
    | (cases h; done)
    | (repeat' split at h
       all_goals first | (cases h; done) | (unfold compBin at h; repeat' split at h
                                            all_goals (cases h; done)) | (exact absurd h (ne_sz (fun q=>by cases q) (fun _=>ne_ag (fun q=>by cases q) fun _ q=>by cases q))) | (exact absurd h (ne_sz (fun q=>by cases q) (fun _ q=>by cases q))) | (exact absurd h (ne_sb (fun q=>by cases q) (fun _ _ q=>by cases q))) | (exact absurd h (ne_sz (fun q=>by cases q) (fun z=>by split <;> (intro q; cases q)))) | skip)
    | skip
theorem flat_i32:∀ l:List Int,flat (l.map (D.int .i32)) = l.map (D.int .i32)
  | []=>rfl
  | x :: r=>by
    show [D.int .i32 x] ++ flat (r.map (D.int .i32)) = _
    rw [flat_i32 r]
    rfl
theorem AOpT.s2rs {u:List (Nat×AV)} {x:Arg} {l:List UInt8} (hx:evA u x = some (.d (.str l))) (hl:l.length≤70368744177664):AOpT P (.s2rs x) u [] (.d (.sl ((runL l).map (D.int .i32)))) []:=by
  refine ⟨fun y hy h=>by rw [hy] at h; exact absurd h (by simp),fun o ho=>?_⟩
  obtain ⟨s,d,x',e,hop,hx',hs,hd,he⟩:=s2rs_inv ho
  have h1:=und_some hs (by simp)
  have h2:=und_some hd (by simp)
  have h3:=und_some he (by simp)
  refine ⟨by simp [hop],fun S i w ρ hev hh _=>?_⟩
  have hv:=vStr (argV hev hx' hx)
  have hR:Conv.runesFrom ⟨l.toArray⟩ (ByteArray.mk l.toArray).size 0 #[] = ((runL l).map (Value.int .i32)).toArray:=by
    rw [rf_eq]
    simp [runL,ByteArray.size]
  have hn:=runL_len l
  have hrun:=run_runes_of_string (P:=P) w s d e ⟨l.toArray⟩ h1 h2 h3 (by rw [hR]; simp; omega)
  rw [hR] at hrun
  simp only [List.size_toArray,List.length_map] at hrun
  simp only [execOp,hop,hv,Sem.run_bind,hrun,Result.andThen_ok,Sem.run_pure,Ends]
  have hcap:=grownCap_ge w (runL l).length 0 e
  have hnb:∀ c,NewBlk w (w.drew.alloc (.cells c e)) c e (0,0):=fun c=>by
    obtain ⟨a1,a2,a3,a4,a5,a6⟩:=newblk_alloc w.drew c e
    exact ⟨a1,a2,a3,a4,a5,a6⟩
  refine post_seal (k:=(runL l).length) hh (hnb _) (.d ?_)
  have:=dv_new (S:=S) (i:=i) (H:=[]) (w:=w) (xs:=(runL l).map (D.int .i32)) (z:=1) (cap:=grownCap w (runL l).length 0 e) (c:=((runL l).map (Value.int .i32)).toArray ++ Array.replicate (grownCap w (runL l).length 0 e - (runL l).length) (.int .i32 0)) (cs:=(runL l).map (Value.int .i32)) hh
    (by intro d hd; simp at hd; obtain ⟨b,_,rfl⟩:=hd; rfl) (by rw [flat_i32]; intro d hd; simp at hd; obtain ⟨b,_,rfl⟩:=hd; rfl) (by simp) (fun m hm=>?_) (fun m h1 h2=>?_) (by simpa using hcap)
  · simp only [List.length_map,Nat.mul_one] at this
    exact this
  · have hm':m < (runL l).length:=by simpa using hm
    rw [Array.getElem?_append_left (by simpa using hm')]
    simp [hm']
  · have:∀ (k:Nat) (hk:k < (flat ((runL l).map (D.int .i32))).length),(flat ((runL l).map (D.int .i32)))[k] = ((runL l).map (D.int .i32))[k]'(by rw [flat_i32] at hk; exact hk):=by
      intro k hk
      simp only [flat_i32]
    rw [this]
    simp only [List.getElem_map]
    exact .int
def outV (v:AV) (ps:CmL) (evs:List (Ev P)):Option (SO P):=some ⟨v,[],[],true,ps,evs⟩
def isLoad:AOp→Bool
  | .load _ _ _=>true
  | _=>false
theorem isLoad_ok {op:AOp} {nl:Nat} {ev:Arg→Option AV} {H:AHeap} {q:Out} (h:evOp false nl ev H op = some q) (hl:(isLoad op || isNil2 q.hin q.hout) = true):q.hin = q.hout:=by
  cases hb:isLoad op
  · rw [hb,Bool.false_or] at hl
    unfold isNil2 at hl
    split at hl
    · simp [*]
    · cases hl
  · cases op <;> simp only [isLoad,Bool.false_eq_true] at hb
    rename_i x z g
    simp only [evOp,Option.bind_eq_some_iff] at h
    obtain ⟨y,hy,h⟩:=h
    unfold loadA at h
    split at h
    · cases g
      · simp only [cond_false] at h
        split at h <;> cases h; rfl
      · simp only [cond_true] at h
        generalize (Nat.beq _ 0 && _) = qq at h
        cases qq <;> cases h <;> rfl
    · split at h
      · cases g
        · simp only [cond_false] at h
          split at h <;> cases h; rfl
        · cases h; rfl
      · cases h
    · cases h
def gen1 (evs:List (Ev P)) (nl:Nat) (u:List (Nat×AV)) (H:AHeap) (op:AOp):Option (SO P) :=
  match evOp false nl (evA u) H op with
  | some q=>bif sideQ (evA u) H op then some ⟨norm8 op q.r,q.hin,q.hout,isLoad op || isNil2 q.hin q.hout,[],evs⟩
    else match evs with
      | .sd (p:=p) h :: evs=>some ⟨norm8 op q.r,q.hin,q.hout,isLoad op || isNil2 q.hin q.hout,[(.p q.side,.p p)],evs⟩
      | _=>none
  | none=>none
def notT (t:Nat):Arg→Bool
  | .t t'=>!Nat.beq t t'
  | .k _=>true
def op0 (evs:List (Ev P)) (nl:Nat) (u:List (Nat×AV)) (H:AHeap) (op:AOp):Option (SO P) :=
  match op with
  | .call gg as=>match evs with
    | .call (f:=f) (ys:=ys) (hin:=hin) (hout:=hout) (r:=r) h ps K :: evs=>callC evs u H gg as f ys hin r hout ps K (isNil2 hin hout)
    | .cq (f:=f) (ys:=ys) (hin:=hin) (r:=r) h ps K :: evs=>callC evs u H gg as f ys hin r hin ps K true
    | _=>none
  | .iaddr x i z=>match evA u x,evA u i with
    | some (.apo l z' xs),some (.d (.int _ k))=>match x,evs with
      | .t t,.iao e ys :: evs=>bif notT t i && Nat.beq z z' then outV (.ptr l (ys.length * z)) [(.ds xs,.ds (ys.map e)),(.i k,.i (ys.length:Int))] evs else none
      | _,_=>none
    | some y,some (.d (.int _ k))=>match evs with
      | @Ev.iad _ α inst e xs z' hz n hb :: evs=>match toSl y with
        | some ds=>outV (.cp (e (@rd α inst xs n)) 0) [(.ds ds,.ds (xs.map e)),(.i k,.i n),(.n z,.n z')] evs
        | none=>none
      | @Ev.iadE _ α inst e xs z' hz n hb w hw :: evs=>match toSl y with
        | some ds=>outV (.cp w 0) [(.ds ds,.ds (xs.map e)),(.i k,.i n),(.n z,.n z')] evs
        | none=>none
      | _=>none
    | _,_=>none
  | .len x=>match evA u x with
    | some .nils=>outV (.d (.int .i64 0)) [] evs
    | some y=>match evs,toSl y with
      | .ln e xs :: evs,some ds=>outV (.d (.int .i64 (xs.length:Int))) [(.ds ds,.ds (xs.map e))] evs
      | _,_=>none
    | none=>none
  | .bs2s x=>match evA u x with
    | some .nils=>outV (.d (.str [])) [] evs
    | some y=>match evs,toSl y with
      | .bs b :: evs,some ds=>outV (.d (.str b)) [(.ds ds,.ds (b.map byteD))] evs
      | _,_=>none
    | none=>none
  | .s2rs x=>match evA u x,evs with
    | some (.d (.str b)),.sd (p:=p) h :: evs=>outV (.d (.sl ((runL b).map (D.int .i32)))) [(.p (b.length≤70368744177664),.p p)] evs
    | _,_=>none
  | .i2s x=>match evA u x with
    | some (.d (.int _ n))=>outV (.d (.str (encL n))) [] evs
    | _=>none
  | .slc x lo hi none z=>match evs,(evA u x).bind slD,oInt (evA u) 0 lo with
    | .slc e xs z' hz (lo:=l) (hi:=h) hb :: evs,some ds,some l'=>match hi with
      | none=>outV (.d (.sl ((sl xs l h).map e))) [(.ds ds,.ds (xs.map e)),(.i l',.i l),(.n z,.n z'),(.i h,.i (xs.length:Int))] evs
      | some a=>match evA u a with
        | some (.d (.int _ h'))=>outV (.d (.sl ((sl xs l h).map e))) [(.ds ds,.ds (xs.map e)),(.i l',.i l),(.n z,.n z'),(.i h',.i h)] evs
        | _=>none
    | _,_,_=>none
  | .app x y z by' zz=>match evA u x,(evA u y).bind toSrc with
    | some .nils,some ys'=>match evs with
      | .apN e ys z' hz (by':=b) hb :: evs=>bif Nat.beq zz.length z && Nat.blt 0 by' then
          some ⟨.ap nl z (ys.map e),[],[(nl,.tok ((ys.map e).length * z))],false,[(.ds ys',.ds (ys.map e)),(.n z,.n z'),(.n by',.n b)],evs⟩ else none
      | .apO e xs (by':=b) hb :: evs=>match ys' with
        | [d0]=>bif Nat.beq zz.length z && Nat.blt 0 by' && Nat.beq d0.cells.length z then some ⟨.apo nl z [],[],[(nl,.tokv 0 d0.cells)],false,[(.n by',.n b)],evs⟩ else none
        | _=>none
      | _=>none
    | some (.ap l z0 xs'),some ys'=>match lkH H l with
      | some (.tok n)=>match evs with
        | .apA e xs ys z' hz (by':=b) hb :: evs=>bif Nat.beq zz.length z && Nat.blt 0 by' && Nat.beq z z0 && !Nat.beq nl l then
            some ⟨.ap nl z ((xs ++ ys).map e),[(l,.tok n)],[(nl,.tok (((xs ++ ys).map e).length * z))],false,[(.ds xs',.ds (xs.map e)),(.ds ys',.ds (ys.map e)),(.n n,.n ((xs.map e).length * z)),(.n z,.n z'),(.n by',.n b)],evs⟩ else none
        | .apO e xs (by':=b) hb :: evs=>match ys' with
          | [d0]=>bif Nat.beq zz.length z && Nat.blt 0 by' && Nat.beq z z0 && !Nat.beq nl l && Nat.beq d0.cells.length z then
              some ⟨.apo nl z (xs.map e),[(l,.tok n)],[(nl,.tokv (xs.length * z) d0.cells)],false,[(.ds xs',.ds (xs.map e)),(.n n,.n ((xs.map e).length * z)),(.n by',.n b)],evs⟩ else none
          | _=>none
        | _=>none
      | _=>none
    | _,_=>none
  | .store x v z=>match evA u x,evA u v with
    | some (.ptr l off),some w=>match lkH H l with
      | some (.tokv n ds)=>match cellsAV w with
        | some cs=>match toDs cs with
          | some ds'=>bif Nat.beq cs.length z && Nat.beq ds.length z then some ⟨.any,[(l,.tokv n ds)],[(l,.tokv n ds')],false,[(.n off,.n n)],evs⟩ else none
          | none=>none
        | none=>none
      | _=>gen1 evs nl u H (.store x v z)
    | _,_=>none
  | .aggeq neg ks x y=>match evA u x,evA u y with
    | some (.d (.agg xs)),some (.d (.agg ys))=>match eqDs ks xs ys with
      | some b=>outV (.d (.bool (bif neg then !b else b))) [] evs
      | none=>none
    | _,_=>none
  | .build zz ps=>match evs with
    | .raw :: evs=>match buildF (evA u) (zz.map zAV) ps with
      | some (L,s)=>bif sideQ.bldQ (evA u) (zz.map zAV) ps then outV (.agg L) [] evs else none
      | none=>none
    | _=>gen1 evs nl u H (.build zz ps)
  | op=>gen1 evs nl u H op
where slD:AV→Option (List D)
  | .d (.sl l)=>some l
  | .nils=>some []
  | .ap _ _ xs=>some xs
  | .dn xs=>some xs
  | _=>none

theorem norm8_ok {op:AOp} {nl:Nat} {ev:Arg→Option AV} {H:AHeap} {q:Out} (h:evOp false nl ev H op = some q):norm8 op q.r = q.r:=by
  cases op <;> try rfl
  case cvi k x =>
    simp only [evOp] at h
    split at h <;> first | cases h | skip
    simp only [norm8]
    split
    · rename_i n0 n1 he hr
      simp only [AV.d.injEq,D.int.injEq] at hr
      obtain ⟨rfl,rfl⟩:=hr
      rw [←u8_eq (u8_wrap _)]
    · rfl
  case bin bop x y =>
    simp only [evOp] at h
    split at h <;> first | cases h | skip
    simp only [Option.bind_eq_some_iff,out,Option.some.injEq] at h
    obtain ⟨⟨r,s⟩,h1,rfl⟩:=h
    simp only [norm8]
    unfold binA at h1
    split at h1
    · cases bop <;> simp only [Bool.cond_decide] at h1 ⊢
      all_goals try (split at h1)
      all_goals first | (cases h1; done) | skip
      all_goals (simp only [Option.some.injEq,Prod.mk.injEq] at h1; obtain ⟨rfl,_⟩:=h1)
      all_goals try rfl
      all_goals
        split
        · rename_i n he
          simp only [AV.d.injEq,D.int.injEq] at he
          obtain ⟨rfl,rfl⟩:=he
          first | rw [←u8_eq (u8_wrap _)] | rw [←u8_eq (u8_bits _ _ _)]
        · rfl
    · cases bop <;> simp only at h1 ⊢ <;> first | (cases h1; done) | (simp only [Option.some.injEq,Prod.mk.injEq] at h1; obtain ⟨rfl,_⟩:=h1; rfl)
    · cases h1
theorem isNil2_ok {a b:AHeap} (h:isNil2 a b = true):a = b:=by
  unfold isNil2 at h
  split at h
  · rfl
  · cases h
abbrev Good (op:AOp) (u:List (Nat×AV)) (H:AHeap) (o:SO P):Prop:=AOpT P op u o.hin o.v o.hout∧(∀ x∈o.hin,x∈H)∧(o.q = true→o.hin = o.hout)
theorem gen1_ok {evs:List (Ev P)} {nl:Nat} {u:List (Nat×AV)} {H:AHeap} {op:AOp} {o:SO P} (h:gen1 evs nl u H op = some o) (hc:okC o.ps):Good op u H o:=by
  unfold gen1 at h
  split at h
  · rename_i q hq
    cases hb:sideQ (evA u) H op <;> rw [hb] at h
    · simp only [cond_false] at h
      split at h
      · rename_i p hp evs'
        cases h
        have:=(okC_cons.1 hc).1
        simp only [Cm.p.injEq] at this
        exact ⟨by rw [norm8_ok hq]; exact evOp_ok hq (this ▸ hp),evOp_hin hq,isLoad_ok hq⟩
      · cases h
    · cases h
      exact ⟨by rw [norm8_ok hq]; exact evOp_ok hq (sideQ_ok hq hb),evOp_hin hq,isLoad_ok hq⟩
  · cases h
theorem callC_ok {evs:List (Ev P)} {u:List (Nat×AV)} {H:AHeap} {gg:Arg} {as:List Arg} {f:FuncId} {ys:List AV} {hin hout:AHeap} {r:AV} {ps:List (Nat×Nat)} {K:Nat} {q:Bool} {o:SO P} (hcall:ACalls P f ys hin r hout)
    (h:callC evs u H gg as f ys hin r hout ps K q = some o) (hc:okC o.ps) (hq:q = true→hin = hout):Good (.call gg as) u H o:=by
  unfold callC at h
  split at h <;> first | cases h | skip
  rename_i fv vs hf has
  split at h <;> first | cases h | skip
  rename_i f' ws hco
  cases hu:useOK ps K hin r hout <;> rw [hu] at h
  · cases h
  simp only [cond_true] at h
  split at h <;> first | cases h | skip
  rename_i a b ha hb
  obtain ⟨c0,c1⟩:=okC_cons.1 hc
  obtain ⟨c1,c2⟩:=okC_app.1 c1
  simp only [Cm.n.injEq] at c0
  subst c0
  have h1:=hcall.use ps K hu
  have hs:=subLC_ok ha c1
  have h2:=h1.args hs.get.1 hs.get.2
  refine ⟨?_,fun x hx=>lkH_mem (hasC_ok hb c2 x hx),fun h=>by rw [hq h]⟩
  unfold callOf at hco
  split at hco <;> cases hco
  · exact AOpT.call hf has h2
  · exact AOpT.callC hf has h2
theorem AOpT.iadT {α:Type} [Inhabited α] {e:α→D} {u:List (Nat×AV)} {x i:Arg} {z:Nat} {y:AV} {xs:List α} {kd:IntKind} {n:Int} (hx:evA u x = some y) (hy:toSl y = some (xs.map e)) (hi:evA u i = some (.d (.int kd n)))
    (hz:∀ a,(e a).cells.length = z) (hb:0≤n∧n < (xs.length:Int)):AOpT P (.iaddr x i z) u [] (.cp (e (rd xs n)) 0) []:=by
  have:=evOp_ok (P:=P) (own:=false) (nl:=0) (H:=[]) (args:=u) (ao:=.iaddr x i z) (q:=⟨.cp (at' (xs.map e) n.toNat) 0,[],[],0≤n∧n < ((xs.map e).length:Nat)∧(at' (xs.map e) n.toNat).cells.length = z⟩)
    (by
      simp only [evOp,hx,hi]
      cases y <;> simp only [toSl,reduceCtorEq] at hy <;> first | (simp only [toSl,hy,Option.bind_some]; rfl) | (cases hy; rfl))
    ⟨hb.1,by simpa using hb.2,by rw [at_map hb]; exact hz _⟩
  rw [at_map hb] at this
  exact this
theorem AOpT.lenT {α:Type} {e:α→D} {u:List (Nat×AV)} {x:Arg} {y:AV} {xs:List α} (hx:evA u x = some y) (hy:toSl y = some (xs.map e)):AOpT P (.len x) u [] (.d (.int .i64 (xs.length:Int))) []:=by
  have:=evOp_ok (P:=P) (own:=false) (nl:=0) (H:=[]) (args:=u) (ao:=.len x) (q:=⟨.d (.int .i64 ((xs.map e).length:Nat)),[],[],True⟩)
    (by
      simp only [evOp,hx]
      cases y <;> simp only [toSl,reduceCtorEq] at hy <;> first | (simp only [toSl,hy,Option.bind_some]; rfl) | (cases hy; rfl)) trivial
  rw [List.length_map] at this
  exact this
theorem AOpT.bsT {u:List (Nat×AV)} {x:Arg} {y:AV} {b:List UInt8} (hx:evA u x = some y) (hy:toSl y = some (b.map byteD)):AOpT P (.bs2s x) u [] (.d (.str b)) []:=by
  have:=evOp_ok (P:=P) (own:=false) (nl:=0) (H:=[]) (args:=u) (ao:=.bs2s x) (q:=⟨.d (.str ((b.map byteD).map byteOf)),[],[],∀ d∈b.map byteD,isByte d⟩)
    (by simp only [evOp,hx,Option.bind_some,hy]; rfl) (fun d hd=>by
      obtain ⟨a,_,rfl⟩:=List.mem_map.1 hd
      have:=a.toNat_lt
      simp only [byteD,isByte]; omega)
  rw [map_byteOf] at this
  exact this
theorem slD_toSl {y:AV} {ds:List D} (h:op0.slD y = some ds):toSl y = some ds∧(∀ xs n,y≠.win xs n)∧∀ a b c d e,y≠.sl a b c d e:=by
  unfold op0.slD at h
  split at h <;> cases h <;> exact ⟨rfl,(fun _ _ h=>by cases h),(fun _ _ _ _ _ h=>by cases h)⟩
theorem AOpT.slcT {α:Type} {e:α→D} {u:List (Nat×AV)} {x:Arg} {la ha:Option Arg} {z:Nat} {y:AV} {xs:List α} {lo hi:Int} (hx:evA u x = some y) (hy:op0.slD y = some (xs.map e)) (hl:oInt (evA u) 0 la = some lo)
    (hh:oInt (evA u) ((xs.map e).length:Nat) ha = some hi) (hz:∀ a,(e a).cells.length = z) (hb:0≤lo∧lo≤hi∧hi≤(xs.length:Int)):AOpT P (.slc x la ha none z) u [] (.d (.sl ((sl xs lo hi).map e))) []:=by
  obtain ⟨h1,h2,h3⟩:=slD_toSl hy
  have:=evOp_ok (P:=P) (own:=false) (nl:=0) (H:=[]) (args:=u) (ao:=.slc x la ha none z) (q:=⟨.d (.sl (((xs.map e).take hi.toNat).drop lo.toNat)),[],[],0≤lo∧lo≤hi∧hi≤((xs.map e).length:Nat)∧∀ d∈xs.map e,d.cells.length = z⟩)
    (by
      simp only [evOp,hx,hl]
      cases y <;> first | (exact absurd rfl (h2 _ _)) | (exact absurd rfl (h3 _ _ _ _ _)) | (simp only [h1,Option.bind_some,hh]; rfl))
    ⟨hb.1,hb.2.1,by simpa using hb.2.2,mapLen hz⟩
  simpa only [sl,List.map_drop,List.map_take] using this
theorem AOpT.apNT {α:Type} {e:α→D} {u:List (Nat×AV)} {x y:Arg} {z by' nl:Nat} {zz:List D} {ys:List α} (hx:evA u x = some .nils) (hy:(evA u y).bind toSrc = some (ys.map e)) (hz:∀ a,(e a).cells.length = z) (hzz:zz.length = z) (hby:0 < by')
    (hb:ys.length * by'≤281474976710656):AOpT P (.app x y z by' zz) u [] (.ap nl z (ys.map e)) [(nl,.tok ((ys.map e).length * z))] :=
  evOp_ok (P:=P) (own:=true) (nl:=nl) (H:=[]) (args:=u) (ao:=.app x y z by' zz) (q:=⟨.ap nl z (ys.map e),[],[(nl,.tok ((ys.map e).length * z))],zz.length = z∧0 < by'∧(ys.map e).length * by'≤281474976710656∧∀ d∈ys.map e,d.cells.length = z⟩)
    (by simp only [evOp,hx,hy]; rfl) ⟨hzz,hby,by simpa using hb,mapLen hz⟩
theorem AOpT.apAT {α:Type} {e:α→D} {u:List (Nat×AV)} {x y:Arg} {z by' nl l0 n:Nat} {zz:List D} {xs ys:List α} (hx:evA u x = some (.ap l0 z (xs.map e))) (hy:(evA u y).bind toSrc = some (ys.map e)) (hn:n = (xs.map e).length * z)
    (hz:∀ a,(e a).cells.length = z) (hzz:zz.length = z) (hby:0 < by') (hb:(xs.length + ys.length) * 2 * by'≤281474976710656) (hne:nl≠l0) :
    AOpT P (.app x y z by' zz) u [(l0,.tok n)] (.ap nl z ((xs ++ ys).map e)) [(nl,.tok (((xs ++ ys).map e).length * z))]:=by
  have:=evOp_ok (P:=P) (own:=true) (nl:=nl) (H:=[(l0,.tok n)]) (args:=u) (ao:=.app x y z by' zz) (q:=⟨.ap nl z (xs.map e ++ ys.map e),[(l0,.tok n)],[(nl,.tok ((xs.map e ++ ys.map e).length * z))],
      nl≠l0∧n = (xs.map e).length * z∧zz.length = z∧0 < by'∧((xs.map e).length + (ys.map e).length) * 2 * by'≤281474976710656∧∀ d∈ys.map e,d.cells.length = z⟩)
    (by simp only [evOp,hx,hy,Nat.beq_refl,cond_true,lkH]) ⟨hne,hn,hzz,hby,by simpa using hb,mapLen hz⟩
  rw [map_app] at this
  exact this
theorem op0_ok {evs:List (Ev P)} {nl:Nat} {u:List (Nat×AV)} {H:AHeap} {op:AOp} {o:SO P} (h:op0 evs nl u H op = some o) (hc:okC o.ps):Good op u H o:=by
  unfold op0 at h
  split at h
  · -- a call
    split at h <;> first | cases h | skip
    · rename_i hcall _ _ _
      exact callC_ok hcall h hc isNil2_ok
    · rename_i hcall _ _ _
      exact callC_ok hcall h hc (fun _=>rfl)
  · -- an element's place
    rename_i x i z
    split at h <;> first | cases h | skip
    · rename_i l z' xs kd k hx hi
      split at h <;> first | cases h | skip
      rename_i t α e ys evs'
      generalize hq:(notT t i && Nat.beq z z') = q at h
      cases q
      · cases h
      simp only [cond_true] at h
      rw [Bool.and_eq_true] at hq
      obtain ⟨q1,q2⟩:=hq
      cases Nat.eq_of_beq_eq_true q2
      cases h
      obtain ⟨c1,r1⟩:=okC_cons.1 hc
      obtain ⟨c2,_⟩:=okC_cons.1 r1
      simp only [Cm.ds.injEq,Cm.i.injEq] at c1 c2
      subst c1 c2
      have hy:∀ v,evA ((t,v) :: u) i = some (.d (.int kd ((ys.length:Nat):Int))):=by
        intro v
        cases i with
        | t t' =>
          simp only [notT,Bool.not_eq_true'] at q1
          simp only [evA,lk,q1,cond_false]
          exact hi
        | k x=>exact hi
      have:=AOpT.iaO (P:=P) (u:=t) (z:=z) (y:=i) (l0:=l) (xs:=ys.map e) hx hy ⟨by omega,by simp; omega⟩
      rw [Int.toNat_natCast] at this
      exact ⟨this,fun x hx=>(by cases hx),fun _=>rfl⟩
    · rename_i y kd k hneg hx hi
      split at h <;> first | cases h | skip
      · rename_i α inst e xs z' hz n hb evs'
        split at h <;> first | cases h | skip
        rename_i ds hds
        obtain ⟨c1,r1⟩:=okC_cons.1 hc
        obtain ⟨c2,r2⟩:=okC_cons.1 r1
        obtain ⟨c3,_⟩:=okC_cons.1 r2
        simp only [Cm.ds.injEq,Cm.i.injEq,Cm.n.injEq] at c1 c2 c3
        subst c1 c2 c3
        exact ⟨AOpT.iadT hx hds hi hz hb,fun x hx=>(by cases hx),fun _=>rfl⟩
      · rename_i α inst e xs z' hz n hb w hw evs'
        split at h <;> first | cases h | skip
        rename_i ds hds
        obtain ⟨c1,r1⟩:=okC_cons.1 hc
        obtain ⟨c2,r2⟩:=okC_cons.1 r1
        obtain ⟨c3,_⟩:=okC_cons.1 r2
        simp only [Cm.ds.injEq,Cm.i.injEq,Cm.n.injEq] at c1 c2 c3
        subst c1 c2 c3 hw
        exact ⟨AOpT.iadT hx hds hi hz hb,fun x hx=>(by cases hx),fun _=>rfl⟩
  · -- how long
    rename_i x
    split at h <;> first | cases h | skip
    · rename_i hx
      exact ⟨AOpT.lenT (e:=byteD) (xs:=[]) hx rfl,fun x hx=>(by cases hx),fun _=>rfl⟩
    · rename_i y hneg hx
      split at h <;> first | cases h | skip
      rename_i α e xs evs' ds hds
      have c1:=(okC_cons.1 hc).1
      simp only [Cm.ds.injEq] at c1
      subst c1
      exact ⟨AOpT.lenT hx hds,fun x hx=>(by cases hx),fun _=>rfl⟩
  · -- a text of bytes
    rename_i x
    split at h <;> first | cases h | skip
    · rename_i hx
      exact ⟨AOpT.bsT (b:=[]) hx rfl,fun x hx=>(by cases hx),fun _=>rfl⟩
    · rename_i y hneg hx
      split at h <;> first | cases h | skip
      rename_i b evs' ds hds
      have c1:=(okC_cons.1 hc).1
      simp only [Cm.ds.injEq] at c1
      subst c1
      exact ⟨AOpT.bsT hx hds,fun x hx=>(by cases hx),fun _=>rfl⟩
  · -- the runes of a text
    rename_i x
    split at h <;> first | cases h | skip
    rename_i b p hp evs' hx
    have c1:=(okC_cons.1 hc).1
    simp only [Cm.p.injEq] at c1
    exact ⟨AOpT.s2rs hx (c1 ▸ hp),fun x hx=>(by cases hx),fun _=>rfl⟩
  · -- a text of a rune
    rename_i x
    split at h <;> first | cases h | skip
    rename_i k n hx
    exact ⟨AOpT.i2s hx,fun x hx=>(by cases hx),fun _=>rfl⟩
  · -- a part
    rename_i x lo hi z
    split at h <;> first | cases h | skip
    rename_i α e xs z' hz l hh hb evs' ds l' hds hl
    simp only [Option.bind_eq_some_iff] at hds
    obtain ⟨y,hy,hds⟩:=hds
    split at h
    · cases h
      obtain ⟨c1,r1⟩:=okC_cons.1 hc
      obtain ⟨c2,r2⟩:=okC_cons.1 r1
      obtain ⟨c3,r3⟩:=okC_cons.1 r2
      obtain ⟨c4,_⟩:=okC_cons.1 r3
      simp only [Cm.ds.injEq,Cm.i.injEq,Cm.n.injEq] at c1 c2 c3 c4
      subst c1 c2 c3 c4
      exact ⟨AOpT.slcT hy hds hl (by simp only [oInt,List.length_map]) hz hb,fun x hx=>(by cases hx),fun _=>rfl⟩
    · rename_i a
      split at h <;> first | cases h | skip
      rename_i kd h' ha
      obtain ⟨c1,r1⟩:=okC_cons.1 hc
      obtain ⟨c2,r2⟩:=okC_cons.1 r1
      obtain ⟨c3,r3⟩:=okC_cons.1 r2
      obtain ⟨c4,_⟩:=okC_cons.1 r3
      simp only [Cm.ds.injEq,Cm.i.injEq,Cm.n.injEq] at c1 c2 c3 c4
      subst c1 c2 c3 c4
      exact ⟨AOpT.slcT hy hds hl (by simp only [oInt,ha]) hz hb,fun x hx=>(by cases hx),fun _=>rfl⟩
  · -- append
    rename_i x y z by' zz
    split at h <;> first | cases h | skip
    · rename_i ys' hx hys
      split at h <;> first | cases h | skip
      · rename_i α e ys z' hz b hb evs'
        generalize hq:(Nat.beq zz.length z && Nat.blt 0 by') = q at h
        cases q <;> cases h
        simp only [Bool.and_eq_true] at hq
        obtain ⟨c1,r1⟩:=okC_cons.1 hc
        obtain ⟨c2,r2⟩:=okC_cons.1 r1
        obtain ⟨c3,_⟩:=okC_cons.1 r2
        simp only [Cm.ds.injEq,Cm.n.injEq] at c1 c2 c3
        subst c1 c2 c3
        exact ⟨AOpT.apNT hx hys hz (Nat.eq_of_beq_eq_true hq.1) (Nat.le_of_ble_eq_true hq.2) hb,fun x hx=>(by cases hx),fun h=>by cases h⟩
      · rename_i α e xs b hb evs'
        split at h <;> first | cases h | skip
        rename_i d0
        generalize hq:(Nat.beq zz.length z && Nat.blt 0 by' && Nat.beq d0.cells.length z) = q at h
        cases q <;> cases h
        simp only [Bool.and_eq_true] at hq
        have c1:=(okC_cons.1 hc).1
        simp only [Cm.n.injEq] at c1
        subst c1
        simp only [Option.bind_eq_some_iff] at hys
        obtain ⟨yv,hy,hsrc⟩:=hys
        have hfit:by'≤140737488355328:=by
          have:1 * 2 * by'≤(xs.length + 1) * 2 * by':=Nat.mul_le_mul_right _ (Nat.mul_le_mul_right _ (by omega))
          omega
        exact ⟨(AOpT.appO hy hsrc (Nat.eq_of_beq_eq_true hq.1.1) (Nat.le_of_ble_eq_true hq.1.2) (Nat.eq_of_beq_eq_true hq.2)).1 hx hfit,fun x hx=>(by cases hx),fun h=>by cases h⟩
    · rename_i l z0 xs' ys' hx hys
      split at h <;> first | cases h | skip
      rename_i n hl
      split at h <;> first | cases h | skip
      · rename_i α e xs ys z' hz b hb evs'
        generalize hq:(Nat.beq zz.length z && Nat.blt 0 by' && Nat.beq z z0 && !Nat.beq nl l) = q at h
        cases q <;> cases h
        simp only [Bool.and_eq_true,Bool.not_eq_true'] at hq
        obtain ⟨⟨⟨q1,q2⟩,q3⟩,q4⟩:=hq
        cases Nat.eq_of_beq_eq_true q3
        obtain ⟨c1,r1⟩:=okC_cons.1 hc
        obtain ⟨c2,r2⟩:=okC_cons.1 r1
        obtain ⟨c3,r3⟩:=okC_cons.1 r2
        obtain ⟨c4,r4⟩:=okC_cons.1 r3
        obtain ⟨c5,_⟩:=okC_cons.1 r4
        simp only [Cm.ds.injEq,Cm.n.injEq] at c1 c2 c3 c4 c5
        subst c1 c2 c4 c5
        exact ⟨AOpT.apAT hx hys c3 hz (Nat.eq_of_beq_eq_true q1) (Nat.le_of_ble_eq_true q2) hb (fun h=>by rw [h,Nat.beq_refl] at q4; cases q4),fun x hx=>(by cases List.mem_singleton.1 hx; exact lkH_mem hl),fun h=>by cases h⟩
      · rename_i α e xs b hb evs'
        split at h <;> first | cases h | skip
        rename_i d0
        generalize hq:(Nat.beq zz.length z && Nat.blt 0 by' && Nat.beq z z0 && !Nat.beq nl l && Nat.beq d0.cells.length z) = q at h
        cases q <;> cases h
        simp only [Bool.and_eq_true,Bool.not_eq_true'] at hq
        obtain ⟨⟨⟨⟨q1,q2⟩,q3⟩,q4⟩,q5⟩:=hq
        cases Nat.eq_of_beq_eq_true q3
        obtain ⟨c1,r1⟩:=okC_cons.1 hc
        obtain ⟨c2,r2⟩:=okC_cons.1 r1
        obtain ⟨c3,_⟩:=okC_cons.1 r2
        simp only [Cm.ds.injEq,Cm.n.injEq] at c1 c2 c3
        subst c1 c3
        simp only [Option.bind_eq_some_iff] at hys
        obtain ⟨yv,hy,hsrc⟩:=hys
        have:=(AOpT.appO (P:=P) (nl:=nl) hy hsrc (Nat.eq_of_beq_eq_true q1) (Nat.le_of_ble_eq_true q2) (Nat.eq_of_beq_eq_true q5)).2 hx c2 (fun h=>by rw [h,Nat.beq_refl] at q4; cases q4) (by rw [List.length_map]; exact hb)
        rw [c2,List.length_map] at this
        refine ⟨?_,fun x hx=>(by cases List.mem_singleton.1 hx; exact lkH_mem hl),fun h=>by cases h⟩
        rw [c2,List.length_map]
        exact this
  · -- a store
    rename_i x v z
    split at h <;> first | cases h | skip
    rename_i l off w hx hv
    split at h
    · rename_i n ds hl
      split at h <;> first | cases h | skip
      rename_i cs hcs
      split at h <;> first | cases h | skip
      rename_i ds' hds
      generalize hq:(Nat.beq cs.length z && Nat.beq ds.length z) = q at h
      cases q <;> cases h
      simp only [Bool.and_eq_true] at hq
      have c1:=(okC_cons.1 hc).1
      simp only [Cm.n.injEq] at c1
      subst c1
      exact ⟨AOpT.stO hx hv hcs hds (Nat.eq_of_beq_eq_true hq.1) (Nat.eq_of_beq_eq_true hq.2),fun x hx=>(by cases List.mem_singleton.1 hx; exact lkH_mem hl),fun h=>by cases h⟩
    · exact gen1_ok h hc
  · -- structs held against each other
    split at h <;> first | cases h | skip
    rename_i xs ys hx hy
    split at h <;> first | cases h | skip
    rename_i b hb
    exact ⟨AOpT.agq hx hy hb,fun x hx=>(by cases hx),fun _=>rfl⟩
  · -- a struct is built
    split at h
    · split at h <;> first | cases h | skip
      rename_i L s hL
      generalize hq:sideQ.bldQ _ _ _ = q at h
      cases q <;> cases h
      exact ⟨AOpT.bld hL (bldQ_ok hL hq),fun x hx=>(by cases hx),fun _=>rfl⟩
    · exact gen1_ok h hc
  · exact gen1_ok h hc
def op1 (evs:List (Ev P)) (nl:Nat) (u:List (Nat×AV)) (H:AHeap) (op:AOp):Option (SO P):=match evs with
  | .q R :: evs'=>(match R.run nl u H op with
    | some r=>some ⟨r.v,r.hin,r.hout,r.q,r.ps,evs'⟩
    | none=>op0 (.q R :: evs') nl u H op)
  | evs=>op0 evs nl u H op
theorem op1_ok {evs:List (Ev P)} {nl:Nat} {u:List (Nat×AV)} {H:AHeap} {op:AOp} {o:SO P} (h:op1 evs nl u H op = some o) (hc:okC o.ps):Good op u H o:=by
  unfold op1 at h
  split at h
  · split at h
    · rename_i r hr
      cases h
      exact QEv.ok _ hr hc
    · exact op0_ok h hc
  · exact op0_ok h hc
end
end Go.Proofs.Abs
end
section
namespace Go.Proofs.Abs
open Go
set_option linter.unusedVariables false
set_option linter.unusedSectionVars false
section
variable {P:Program}
structure RO where
  l:List (Nat×AV)
  H:AHeap
  c:Nat
  A:List Tk
  ps:CmL
def memG (t:Nat):List AOper→Bool
  | []=>false
  | ⟨_,_,some (g,_),_⟩ :: os=>bif Nat.beq g t then true else memG t os
  | ⟨_,_,none,_⟩ :: os=>memG t os
def brE (evs:List (Ev P)) (d:Option Nat) (v:AV) (os:List AOper):Option (AV×CmL×List (Ev P)):=match d with
  | some t=>bif memG t os then (match evs,v with
    | .br (b:=b) (β:=β) h :: evs,.d (.bool c)=>some (.d (.bool β),[(.b c,.b b)],evs)
    | _,v=>some (v,[],evs)) else some (v,[],evs)
  | none=>some (v,[],evs)
theorem brE_ok {evs evs':List (Ev P)} {d:Option Nat} {v v':AV} {os:List AOper} {ps:CmL} (h:brE evs d v os = some (v',ps,evs')) (hc:okC ps):v = v':=by
  unfold brE at h
  split at h
  · rename_i t
    cases hb:memG t os <;> rw [hb] at h
    · cases h; rfl
    · simp only [cond_true] at h
      split at h
      · rename_i b β hb' evs0 c
        cases h
        have:=(okC_cons.1 hc).1
        simp only [Cm.b.injEq] at this
        rw [this,hb']
      · cases h; rfl
  · cases h; rfl
def rg1 (N:Nat):List (Ev P)→List AOper→List (Nat×AV)→AHeap→Nat→List Tk→Option RO
  | evs,[],l,H,c,A=>(match evs with
    | []=>some ⟨l,H,c,A,[]⟩
    | _=>none)
  | evs,⟨d,op,g,af⟩ :: os,l,H,c,A=>match gOn g (pickL l (usesO ⟨d,op,g,af⟩)) with
    | some false=>bif dstOK d N then rg1 N evs os (putL d (.tup []) l) H c (⟨[],true⟩ :: A) else none
    | some true=>match op1 evs c (pickL l (usesO ⟨d,op,g,af⟩)) H op with
      | some o=>bif dstOK d N && newOK c o.hin o.hout && nodupH o.hout then (match brE o.evs d o.v os with
        | some (v,ps,evs)=>match rg1 N evs os (putL d v l) (appK o.hout (restK o.hin o.hout H)) (topK c o.hout) (⟨o.hin.keys ++ o.hout.keys,o.q⟩ :: A) with
          | some r=>some ⟨r.l,r.H,r.c,r.A,o.ps ++ (ps ++ r.ps)⟩
          | none=>none
        | none=>none) else none
      | none=>none
    | none=>none
theorem rg1_ok {aops:List AOper} {draw:Bool} {N:Nat} {Q:AAct→AHeap→Nat→Prop}:∀ {os:List AOper} {evs:List (Ev P)} {l:List (Nat×AV)} {H:AHeap} {c k:Nat} {A:List Tk} {o:RO},rg1 N evs os l H c A = some o→okC o.ps →
    (draw = true→indepT o.A.reverse aops = true)→Q ⟨N,o.l⟩ o.H o.c→RegV P aops draw N k os c l H A Q
  | [],evs,l,H,c,k,A,o,h,hc,hi,hQ=>by
    unfold rg1 at h
    split at h
    · cases h
      cases draw with
      | true=>exact RegV.nil1 (hi rfl) hQ
      | false=>exact RegV.nil0 hQ
    · cases h
  | ⟨d,op,g,af⟩ :: os,evs,l,H,c,k,A,o,h,hc,hi,hQ=>by
    unfold rg1 at h
    split at h
    · rename_i hg
      cases hd:dstOK d N <;> rw [hd] at h
      · cases h
      · exact RegV.no hg hd (rg1_ok h hc hi hQ)
    · rename_i hg
      split at h
      · rename_i q hq
        generalize hb:(dstOK d N && newOK c q.hin q.hout && nodupH q.hout) = bb at h
        cases bb
        · cases h
        simp only [Bool.and_eq_true] at hb
        obtain ⟨⟨b1,b2⟩,b3⟩:=hb
        simp only [cond_true] at h
        split at h
        · rename_i v ps evs' hbr
          split at h
          · rename_i r hr
            cases h
            obtain ⟨c1,c2⟩:=okC_app.1 hc
            obtain ⟨c2,c3⟩:=okC_app.1 c2
            obtain ⟨g1,g2,g3⟩:=op1_ok hq c1
            exact RegV.up (fun _ h'=>RegU.op hg g1 b1 g2 b2 b3 g3 (brE_ok hbr c2) rfl rfl h') (rg1_ok hr c3 hi hQ)
          · cases h
        · cases h
      · cases h
    · cases h
def rgX (m N:Nat) (evs:List (Ev P)) (draw:Bool) (aops:List AOper) (l:List (Nat×AV)) (H:AHeap) (n:Nat):Option RO :=
  bif Nat.ble m n && nodupH H then (match rg1 N evs aops l H n [] with
    | some o=>bif !draw || indepT o.A.reverse aops then some o else none
    | none=>none) else none
def rgL (o:Option RO):List (Nat×AV):=match o with
  | some o=>o.l
  | none=>[]
def rgH (o:Option RO):AHeap:=match o with
  | some o=>o.H
  | none=>[]
def rgC (o:Option RO):Nat:=match o with
  | some o=>o.c
  | none=>0
def rgP (o:Option RO):Option CmL:=match o with
  | some o=>some o.ps
  | none=>none
section
variable {ro:Option Nat} {m n N:Nat} {l:List (Nat×AV)} {H:AHeap} {Q:Exit→AAct→AHeap→Nat→Prop}
theorem AWc.rE {draw:Bool} {aops:List AOper} (hmix:P.follows .mixedOrders = true) (evs:List (Ev P)) (hQ:Q .normal ⟨N,rgL (rgX m N evs draw aops l H n)⟩ (rgH (rgX m N evs draw aops l H n)) (rgC (rgX m N evs draw aops l H n)))
    (h:lhsC (rgP (rgX m N evs draw aops l H n)) = rhsC (rgP (rgX m N evs draw aops l H n)):=by kernel_rfl):AWc P ro m (.region draw aops) ⟨N,l⟩ H n Q:=by
  obtain ⟨cs,h1,hc⟩:=chk_ok h
  cases hX:rgX m N evs draw aops l H n with
  | none=>rw [hX] at h1; cases h1
  | some o =>
    rw [hX] at h1 hQ
    simp only [rgP,Option.some.injEq] at h1
    subst h1
    unfold rgX at hX
    generalize hb:(Nat.ble m n && nodupH H) = bb at hX
    cases bb
    · cases hX
    rw [Bool.and_eq_true] at hb
    simp only [cond_true] at hX
    split at hX
    · rename_i o' ho
      generalize hi:(!draw || indepT o'.A.reverse aops) = ii at hX
      cases ii <;> cases hX
      refine AWc.rg hmix hb.1 hb.2 (rg1_ok ho hc (fun hd=>?_) hQ)
      rw [hd] at hi
      simpa using hi
    · cases hX
theorem AWc.cT {c:Arg} {x y:ACode} {b:Bool} (hb:b = true) (hx:AWc P ro m x ⟨N,l⟩ H n Q) (h:evA l c = some (.d (.bool b)):=by kernel_rfl):AWc P ro m (.cond c x y) ⟨N,l⟩ H n Q :=
  AWc.cond h (fun _=>hx) (fun hf=>by rw [hb] at hf; cases hf)
theorem AWc.cF {c:Arg} {x y:ACode} {b:Bool} (hb:b = false) (hy:AWc P ro m y ⟨N,l⟩ H n Q) (h:evA l c = some (.d (.bool b)):=by kernel_rfl):AWc P ro m (.cond c x y) ⟨N,l⟩ H n Q :=
  AWc.cond h (fun ht=>by rw [hb] at ht; cases ht) (fun _=>hy)
theorem cc {α:Type} {c:Bool} {x y:α} {r:α} (h:cond c x y = r):(c = true∧x = r)∨(c = false∧y = r):=by
  cases c with
  | true=>exact .inl ⟨rfl,h⟩
  | false=>exact .inr ⟨rfl,h⟩
section
variable {α:Type}
end
end
end
end Go.Proofs.Abs
end
section
namespace Go.Proofs.Abs
open Go
set_option linter.unusedVariables false
mutual
def AV.noL (l:Nat):AV→Bool
  | .d _=>true
  | .cp _ _=>true
  | .ptr k _=>!Nat.beq k l
  | .sl k _ _ _ _=>!Nat.beq k l
  | .ap k _ _=>!Nat.beq k l
  | .win _ _=>true
  | .nils=>true
  | .agg xs=>AV.noLL l xs
  | .tup xs=>AV.noLL l xs
  | .fn _ xs=>AV.noLL l xs
  | .mp k=>!Nat.beq k l
  | .lf k=>!Nat.beq k l
  | .dn _=>true
  | .row k _ _=>!Nat.beq k l
  | .apo k _ _=>!Nat.beq k l
  | .lit _=>true
  | .any=>true
def AV.noLL (l:Nat):List AV→Bool
  | []=>true
  | x :: r=>bif AV.noL l x then AV.noLL l r else false
end
theorem ne_of_nb {k l:Nat} (h:(!Nat.beq k l) = true):k≠l:=fun he=>by rw [he,Nat.beq_refl] at h; cases h
mutual
theorem AV.noL_of {l:Nat}:∀ {x:AV},AV.noL l x = true→x.lb (·≠l)
  | .d _,_=>.d
  | .cp _ _,_=>.cp
  | .ptr k _,h=>.ptr (by rw [AV.noL] at h; exact ne_of_nb h)
  | .sl k _ _ _ _,h=>.sl (by rw [AV.noL] at h; exact ne_of_nb h)
  | .ap k _ _,h=>.ap (by rw [AV.noL] at h; exact ne_of_nb h)
  | .win _ _,_=>.win
  | .nils,_=>.nils
  | .agg xs,h=>.agg (AV.noLL_of (by rw [AV.noL] at h; exact h))
  | .tup xs,h=>.tup (AV.noLL_of (by rw [AV.noL] at h; exact h))
  | .fn _ xs,h=>.fn (AV.noLL_of (by rw [AV.noL] at h; exact h))
  | .mp k,h=>.mp (by rw [AV.noL] at h; exact ne_of_nb h)
  | .lf k,h=>.lf (by rw [AV.noL] at h; exact ne_of_nb h)
  | .dn _,_=>.dn
  | .row k _ _,h=>.row (by rw [AV.noL] at h; exact ne_of_nb h)
  | .apo k _ _,h=>.apo (by rw [AV.noL] at h; exact ne_of_nb h)
  | .lit _,_=>.lit
  | .any,_=>.any
theorem AV.noLL_of {l:Nat}:∀ {xs:List AV},AV.noLL l xs = true→∀ x∈xs,x.lb (·≠l)
  | [],_=>fun x hx=>by cases hx
  | y :: r,h=>fun x hx=>by
    rw [AV.noLL] at h
    cases hb:AV.noL l y with
    | false=>rw [hb] at h; cases h
    | true =>
      rw [hb] at h
      rcases List.mem_cons.1 hx with hx | hx
      · rw [hx]; exact AV.noL_of hb
      · exact AV.noLL_of h x hx
end
theorem decS_put (b:List UInt8):decS (.str b) = some b:=rfl
end Go.Proofs.Abs
end
