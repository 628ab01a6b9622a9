import Derived.Test.YtnhndjbninibhaaDoorZGWgc
set_option linter.unusedVariables false
set_option linter.unusedSimpArgs false
set_option linter.unusedSectionVars false
set_option linter.unusedVariables false
set_option linter.unusedSimpArgs false
set_option maxRecDepth 100000
set_option maxHeartbeats 4000000
namespace Go.Proofs.Abs
open Go
def f294_j196 (k:Nat) (r44:(Int×Nat×Int×(List TNode))):Option (Int×(List TNode)):=some ((0:Int),(List.take r44.2.1 r44.2.2.2))
def f294_l102 (y82_1:Int) (r44:(Int×Nat×Int×(List TNode))):Nat→Int→Option (LR2 Unit Unit (Int×(List TNode)))
  | 0,_=>none
  | k + 1,y102_1=>gd (0≤y82_1∧y82_1 < (((List.take r44.2.1 r44.2.2.2).length:Nat):Int)) (cond (decide (y102_1 < ((((rd (List.take r44.2.1 r44.2.2.2) y82_1).fFields).length:Nat):Int))) (gd (0≤y82_1∧y82_1 < (((List.take r44.2.1 r44.2.2.2).length:Nat):Int)) (gd (0≤y102_1∧y102_1 < ((((rd (List.take r44.2.1 r44.2.2.2) y82_1).fFields).length:Nat):Int)) (cond (!(rd ((rd (List.take r44.2.1 r44.2.2.2) y82_1).fFields) y102_1).fHas) (f294_l102 y82_1 r44 k (IntKind.i64.wrap (y102_1 + (1:Int)))) ((f295 k ((rd ((rd (List.take r44.2.1 r44.2.2.2) y82_1).fFields) y102_1).fDefault)).bind fun r151=>(f368 k (TSchema.mk (List.take r44.2.1 r44.2.2.2)) ((rd ((rd (List.take r44.2.1 r44.2.2.2) y82_1).fFields) y102_1).fType) (TJson.mk r151.2.1 r151.2.2.1 r151.2.2.2.1 r151.2.2.2.2)).bind fun r165=>cond (!r165.1) (some (.r ((10:Int),([]:List TNode)))) (f294_l102 y82_1 r44 k (IntKind.i64.wrap (y102_1 + (1:Int)))))))) (some (.b0 ())))
def f294_l82 (r44:(Int×Nat×Int×(List TNode))):Nat→Int→Option (LR2 Unit Unit (Int×(List TNode)))
  | 0,_=>none
  | k + 1,y82_1=>cond (decide (y82_1 < (((List.take r44.2.1 r44.2.2.2).length:Nat):Int))) ((f294_l102 y82_1 r44 k (0:Int)).bind fun o102=>(match o102 with | .b0 ()=>f294_l82 r44 k (IntKind.i64.wrap (y82_1 + (1:Int))) | .r x=>some (.r x) | _=>none)) (some (.b0 ()))
def f294 (k:Nat) (a0:(List UInt8)):Option (Int×(List TNode)):=(f295 k a0).bind fun r10=>cond (decide (r10.1≠(0:Int))) (some (r10.1,([]:List TNode))) ((f357 k ([]:List TNode) (0) (0) (0:Int) (TJson.mk r10.2.1 r10.2.2.1 r10.2.2.2.1 r10.2.2.2.2) ([]:List UInt8)).bind fun r44=>cond (decide (r44.2.2.1≠(0:Int))) (some (r44.2.2.1,([]:List TNode))) (gd (r44.2.1≤r44.2.2.2.length) ((f294_l82 r44 k (0:Int)).bind fun o82=>(match o82 with | .b0 ()=>f294_j196 k r44 | .r x=>some x | _=>none))))
theorem F294 {k:Nat} {a0:(List UInt8)} {r:(Int×(List TNode))} (h:f294 k a0 = some r) :
    ACalls Tryd.prog 14 [(.d (.str a0))] [] (.tup [(.d (.agg [(.sl (List.map TNode.enc r.2))])),(.d (.int .i64 r.1))]) []:=by
 refine acalls_ret ⟨_,Tryd.func14,by kernel_rfl,by kernel_rfl,rfl⟩ 0 0 1 [(2,(.ptr 0 0)),(3,(.d (.int .i64 r.1)))] [(0,(.cells [(.d (.sl (List.map TNode.enc r.2)))]))] (doneA (.inr rfl) rfl ⟨(Nat.le_of_ble_eq_true rfl),⟨trivial,trivial⟩⟩ (.refl _) hasNil) ?_
 unfold f294 at h
 refine .seq (.e [] ?_)
 refine .seq ?_
 obtain ⟨r10,e10,h⟩:=bind_some h
 refine .e [.call (F295 e10) [] 0] (.seq ?_)
 refine .seq (.e [] ?_)
 refine .cB h (fun h=>?_) fun h=>?_
 · refine .seq (.e [] ?_)
   cases h
   exact .ret rz
 refine .skip (.seq ?_)
 refine .e [.raw] (.toS (N:=92) (k:=4) (l':=[(2,(.ptr 0 0)),(4,(.ptr 1 0)),(6,(.ptr 2 0))]) (H':=[(2,(.cells [(.row 3 10 (0)),(.d (.int .i64 (0:Int)))])),(1,(.cells [(.d (.int .i64 r10.2.1)),(.d (.str r10.2.2.1)),(.d (.sl (List.map (rtE (z:=4)) r10.2.2.2.1))),(.d (.sl (List.map D.str r10.2.2.2.2)))])),(0,(.cells [.nils])),(3,(.rowQ 3 10 [] [] (cellsD TNode.enc ([]:List TNode))))]) rfl_le (inT [] [.rowQ 3 10 [] [] []]) ?_)
 refine .seq ?_
 obtain ⟨r44,e44,h⟩:=bind_some h
 refine .e [.call (F357 e44 (vs0 10)) [(0,2),(1,3),(2,4)] 3] (.seq ?_)
 refine .seq (.e [] ?_)
 refine .cB h (fun h=>?_) fun h=>?_
 · refine .seq (.e [] ?_)
   cases h
   exact .ret rz
 refine .skip (.seq ?_)
 refine .e [] (.toS (N:=92) (k:=6) (l':=[(2,(.ptr 0 0)),(7,(.ptr 5 0))]) (H':=[(5,(.cells [(.row 4 10 r44.2.1)])),(2,(.cells [(.row 4 10 r44.2.1),(.d (.int .i64 r44.2.2.1))])),(4,(.rowQ 3 10 [] [] (cellsD TNode.enc r44.2.2.2))),(1,(.cells [(.d (.int .i64 r10.2.1)),(.d (.str r10.2.2.1)),(.d (.sl (List.map (rtE (z:=4)) r10.2.2.2.1))),(.d (.sl (List.map D.str r10.2.2.2.2)))])),(0,(.cells [.nils]))]) rfl_le inZ ?_)
 obtain ⟨bq4,h⟩:=gd_some h
 refine .sealH (l0:=4) (xs:=r44.2.2.2) (l':=[(2,(.ptr 0 0)),(7,(.ptr 5 0))]) (H':=[(5,(.cells [(.d (.sl (List.map TNode.enc (List.take r44.2.1 r44.2.2.2))))])),(2,(.cells [(.d (.sl (List.map TNode.enc (List.take r44.2.1 r44.2.2.2)))),(.d (.int .i64 r44.2.2.1))])),(4,(.tok (r44.2.2.2.length * 10))),(1,(.cells [(.d (.int .i64 r10.2.1)),(.d (.str r10.2.2.1)),(.d (.sl (List.map (rtE (z:=4)) r10.2.2.2.1))),(.d (.sl (List.map D.str r10.2.2.2.2)))])),(0,(.cells [.nils]))]) TNode.ok rfl SubO.qp ⟨⟨_,rfl,.same⟩,⟨_,rfl,.same⟩,trivial⟩ ⟨rfl,.inr ⟨by decide,.cells (.cons (.row bq4) .nil)⟩,rfl,.inr ⟨by decide,.cells (.cons (.row bq4) (.cons .same .nil))⟩,rfl,.inl ⟨rfl,rfl⟩,rfl,.inr ⟨by decide,.same⟩,rfl,.inr ⟨by decide,.same⟩,trivial⟩ rfl (.j 2 (fun (z:Unit)=>f294_j196 k r44 = some r) (fun z=>[(2,(.ptr 0 0)),(7,(.ptr 1 0))]) (fun z=>[(0,(.cells [.nils])),(1,(.cells [(.d (.sl (List.map TNode.enc (List.take r44.2.1 r44.2.2.2))))]))]) ?_ ?_)
 · refine .seq (.e [] ?_)
   obtain ⟨o82,h82,h⟩:=bind_some h
   refine .block (.lp 2 (fun k (x:Int)=>f294_l82 r44 k x = some o82) (fun x=>[(2,(.ptr 0 0)),(7,(.ptr 1 0)),(8,(.d (.int .i64 x)))]) (fun x=>[(0,(.cells [.nils])),(1,(.cells [(.d (.sl (List.map TNode.enc (List.take r44.2.1 r44.2.2.2))))]))]) _ h82 [(1,5)] [] ?_)
   intro k y82_1 h82
   rw [f294_l82] at h82
   refine .seq (.seq ?_)
   refine .e [.ln TNode.enc (List.take r44.2.1 r44.2.2.2)] (.cD h82 (fun h82=>?_) fun h82=>?_)
   · cases h82
     dsimp only at h
     refine .exit (inBlk_eq ?_)
     exact ⟨(),h,inZ⟩
   refine .skip (.seq ?_)
   refine .block (.seq ?_)
   refine .e [] ?_
   obtain ⟨o102,h102,h82⟩:=bind_some h82
   refine .block (.lp 2 (fun k (x:Int)=>f294_l102 y82_1 r44 k x = some o102) (fun x=>[(2,(.ptr 0 0)),(7,(.ptr 1 0)),(8,(.d (.int .i64 y82_1))),(9,(.d (.int .i64 x)))]) (fun x=>[(0,(.cells [.nils])),(1,(.cells [(.d (.sl (List.map TNode.enc (List.take r44.2.1 r44.2.2.2))))]))]) _ h102 [] [] ?_)
   intro k y102_1 h102
   rw [f294_l102] at h102
   refine .seq (.seq ?_)
   obtain ⟨b112,h102⟩:=gd_some h102
   refine .e [.iad TNode.enc (List.take r44.2.1 r44.2.2.2) 10 (fun _=>rfl) b112,.ln TField.enc ((rd (List.take r44.2.1 r44.2.2.2) y82_1).fFields)] (.cD h102 (fun h102=>?_) fun h102=>?_)
   · cases h102
     dsimp only at h82
     refine .exit (inBlk_eq ?_)
     exact .e [] ⟨_,h82,inZ⟩
   refine .skip (.seq ?_)
   refine .block (.seq ?_)
   obtain ⟨b128,h102⟩:=gd_some h102
   obtain ⟨b132,h102⟩:=gd_some h102
   refine .e [.iad TNode.enc (List.take r44.2.1 r44.2.2.2) 10 (fun _=>rfl) b128,.iad TField.enc ((rd (List.take r44.2.1 r44.2.2.2) y82_1).fFields) 5 (fun _=>rfl) b132] (.seq ?_)
   refine .seq (.e [] ?_)
   refine .cB h102 (fun h102=>?_) fun h102=>?_
   · refine .exit (inBlk_eq ?_)
     exact .e [] ⟨_,h102,inZ⟩
   refine .skip (.seq ?_)
   obtain ⟨r151,e151,h102⟩:=bind_some h102
   refine .e [.call (F295 e151) [] 0] (.seq ?_)
   obtain ⟨r165,e165,h102⟩:=bind_some h102
   refine .e [.call (F368 e165) [] 0] (.seq ?_)
   refine .e [] (.cD h102 (fun h102=>?_) fun h102=>?_)
   · refine .skip (.e [] ?_)
     exact ⟨_,h102,inZ⟩
   refine .seq (.e [] ?_)
   cases h102
   dsimp only at h82
   cases h82
   dsimp only at h
   cases h
   exact .ret rz
 rintro ⟨⟩ h
 unfold f294_j196 at h
 refine .seq (.e [] ?_)
 cases h
 exact .ret rz
def f387_j84 (k:Nat) (a0:(List (List UInt8))) (j84_1:(List TSchema)):Option ((List TSchema)×Bool):=some (j84_1,(decide (((a0.length:Nat):Int)≤(6:Int))))
def f387_l15 (a0:(List (List UInt8))):Nat→(List TSchema)→Int→Option (LR2 (List TSchema) Unit ((List TSchema)×Bool))
  | 0,_,_=>none
  | k + 1,y15_1,y15_2=>cond (decide (y15_2 < ((a0.length:Nat):Int))) (gd (0≤y15_2∧y15_2 < ((a0.length:Nat):Int)) ((f294 k (rd a0 y15_2)).bind fun r37=>gd (0≤y15_2∧y15_2 < ((a0.length:Nat):Int)) (cond (decide ((((rd a0 y15_2).length:Nat):Int) > (2000:Int))) (some (.r (([]:List TSchema),false))) (cond (decide (r37.1≠(0:Int))) (some (.r (([]:List TSchema),false))) (cond (decide (((r37.2.length:Nat):Int) > (15:Int))) (some (.r (([]:List TSchema),false))) (gd ((y15_1.length + ([(TSchema.mk r37.2)]:List TSchema).length) * 2 * 24≤281474976710656) (f387_l15 a0 k (y15_1 ++ ([(TSchema.mk r37.2)]:List TSchema)) (IntKind.i64.wrap (y15_2 + (1:Int)))))))))) (some (.b0 y15_1))
def f387 (k:Nat) (a0:(List (List UInt8))):Option ((List TSchema)×Bool):=(f387_l15 a0 k ([]:List TSchema) (0:Int)).bind fun o15=>(match o15 with | .b0 x15_1=>f387_j84 k a0 x15_1 | .r x=>some x | _=>none)
theorem F387 {k:Nat} {a0:(List (List UInt8))} {r:((List TSchema)×Bool)} (h:f387 k a0 = some r) :
    ACalls Tryd.prog 21 [(.d (.sl (List.map D.str a0)))] [] (.tup [(.ap 0 1 (List.map TSchema.enc r.1)),(.d (.bool r.2))]) [(0,(.tok ((List.map TSchema.enc r.1).length * 1)))]:=by
 refine acalls_ret ⟨_,Tryd.func21,by kernel_rfl,by kernel_rfl,rfl⟩ 0 1 1 [(2,(.ap 0 1 (List.map TSchema.enc r.1))),(3,(.d (.bool r.2)))] [(0,(.tok ((List.map TSchema.enc r.1).length * 1)))] (doneA (.inr rfl) rfl ⟨trivial,⟨trivial,trivial⟩⟩ (.refl _) (hasCons rfl hasNil)) ?_
 unfold f387 at h
 refine .seq (.e [] ?_)
 refine .seq (.e [] ?_)
 refine .j 1 (fun z=>f387_j84 k a0 z = some r) (fun z=>[(0,(.d (.sl (List.map D.str a0)))),(4,(.ap 0 1 (List.map TSchema.enc z)))]) (fun z=>[(0,(.tok ((List.map TSchema.enc z).length * 1)))]) ?_ ?_
 · refine .seq (.e [] ?_)
   obtain ⟨o15,h15,h⟩:=bind_some h
   refine .block (.lp 1 (fun k (x:((List TSchema)×Int))=>f387_l15 a0 k x.1 x.2 = some o15) (fun x=>[(0,(.d (.sl (List.map D.str a0)))),(4,(.ap 0 1 (List.map TSchema.enc x.1))),(5,(.d (.int .i64 x.2)))]) (fun x=>[(0,(.tok ((List.map TSchema.enc x.1).length * 1)))]) (_,_) h15 [(0,0)] [.tok 0] ?_)
   rintro k ⟨y15_1,y15_2⟩ h15
   dsimp only at h15 ⊢
   rw [f387_l15] at h15
   refine .seq (.seq ?_)
   refine .e [.ln D.str a0] (.cD h15 (fun h15=>?_) fun h15=>?_)
   · cases h15
     dsimp only at h
     refine .exit (inBlk_eq ?_)
     exact ⟨_,h,inZ⟩
   refine .skip (.seq ?_)
   refine .block (.seq ?_)
   obtain ⟨b35,h15⟩:=gd_some h15
   obtain ⟨r37,e37,h15⟩:=bind_some h15
   refine .e [.iad D.str a0 1 (fun _=>rfl) b35,.call (F294 e37) [] 0] (.seq ?_)
   refine .seq ?_
   obtain ⟨b50,h15⟩:=gd_some h15
   rcases cc h15 with ⟨c54,h15⟩ | ⟨c54,h15⟩
   · refine .e [.iad D.str a0 1 (fun _=>rfl) b50,.br c54,.br (rfl:true = true)] (.cT rfl ?_)
     refine .seq (.e [] ?_)
     cases h15
     dsimp only at h
     cases h
     exact .ret (rq [(0,2)] [.tok 0])
   rcases cc h15 with ⟨c58,h15⟩ | ⟨c58,h15⟩
   · refine .e [.iad D.str a0 1 (fun _=>rfl) b50,.br c54,.br c58] (.cT rfl ?_)
     refine .seq (.e [] ?_)
     cases h15
     dsimp only at h
     cases h
     exact .ret (rq [(0,2)] [.tok 0])
   refine .e [.iad D.str a0 1 (fun _=>rfl) b50,.br c54,.br c58,.ln TNode.enc r37.2] (.cB h15 (fun h15=>?_) fun h15=>?_)
   · refine .seq (.e [] ?_)
     cases h15
     dsimp only at h
     cases h
     exact .ret (rq [(0,2)] [.tok 0])
   refine .skip ?_
   obtain ⟨b77,h15⟩:=gd_some h15
   refine .e [.apA TSchema.enc y15_1 ([(TSchema.mk r37.2)]:List TSchema) 1 (fun _=>rfl) b77] (.e [] ?_)
   exact ⟨(_,_),h15,(inT [(0,2)] [])⟩
 intro j84_1 h
 unfold f387_j84 at h
 refine .seq (.e [.ln D.str a0] ?_)
 cases h
 exact .ret rz
def f485 (k:Nat) (a0:Int):Option Bool:=cond (decide (a0 ≥ (0:Int))) (some (decide (a0≤(6:Int)))) (some false)
theorem F485 {k:Nat} {a0:Int} {r:Bool} (h:f485 k a0 = some r) :
    ACalls Tryd.prog 35 [(.d (.int .i64 a0))] [] (.d (.bool r)) []:=by
 refine acalls_ret ⟨_,Tryd.func35,by kernel_rfl,by kernel_rfl,rfl⟩ 0 0 0 [(2,(.d (.bool r)))] [] (doneA (.inr rfl) rfl ⟨trivial,trivial⟩ (.refl _) hasNil) ?_
 unfold f485 at h
 refine .seq (.e [] ?_)
 refine .seq ?_
 rcases cc h with ⟨c10,h⟩ | ⟨c10,h⟩
 · refine .e [.br c10] ?_
   cases h
   exact .ret rz
 refine .e [.br c10] ?_
 cases h
 exact .ret rz
def f487_j63 (k:Nat) (j63_1:Bool) (j63_2:Bool):Option (Bool×Bool):=some (j63_1,j63_2)
def f487_j41 (k:Nat) (a0:Int) (j41_1:Bool):Option (Bool×Bool):=cond j41_1 (f487_j63 k false true) (cond (decide (a0 = (3:Int))) (cond (decide (a0 = (3:Int))) (f487_j63 k true true) (f487_j63 k false false)) (cond (decide (a0 = (6:Int))) (f487_j63 k true true) (f487_j63 k false false)))
def f487_j25 (k:Nat) (a0:Int) (j25_1:Bool):Option (Bool×Bool):=cond j25_1 (f487_j63 k true false) (cond (decide (a0 = (2:Int))) (f487_j41 k a0 (decide (a0 = (2:Int)))) (f487_j41 k a0 (decide (a0 = (5:Int)))))
def f487 (k:Nat) (a0:Int):Option (Bool×Bool):=cond (decide (a0 = (1:Int))) (f487_j25 k a0 (decide (a0 = (1:Int)))) (f487_j25 k a0 (decide (a0 = (4:Int))))
theorem F487 {k:Nat} {a0:Int} {r:(Bool×Bool)} (h:f487 k a0 = some r) :
    ACalls Tryd.prog 36 [(.d (.int .i64 a0))] [] (.tup [(.d (.bool r.1)),(.d (.bool r.2)),(.d (.bool (decide (a0 ≥ (4:Int)))))]) []:=by
 refine acalls_ret ⟨_,Tryd.func36,by kernel_rfl,by kernel_rfl,rfl⟩ 0 0 0 [(2,(.d (.bool r.1))),(3,(.d (.bool r.2))),(4,(.d (.bool (decide (a0 ≥ (4:Int))))))] [] (doneA (.inr rfl) rfl ⟨trivial,⟨trivial,⟨trivial,trivial⟩⟩⟩ (.refl _) hasNil) ?_
 unfold f487 at h
 refine .seq (.e [] ?_)
 refine .j 0 (fun (z:(Bool×Bool))=>f487_j63 k z.1 z.2 = some r) (fun z=>[(0,(.d (.int .i64 a0))),(2,(.d (.bool z.1))),(3,(.d (.bool z.2)))]) (fun z=>[]) ?_ ?_
 · refine .seq (.e [] ?_)
   refine .block (.j 0 (fun z=>f487_j25 k a0 z = some r) (fun z=>[(0,(.d (.int .i64 a0))),(2,(.d (.bool false))),(3,(.d (.bool false))),(5,(.d (.int .i64 a0))),(6,(.d (.bool z)))]) (fun z=>[]) ?_ ?_)
   · refine .seq (.e [] ?_)
     refine .cB h (fun h=>?_) fun h=>?_
     · exact .skip ⟨_,h,inZ⟩
     exact .e [] ⟨_,h,inZ⟩
   intro j25_1 h
   unfold f487_j25 at h
   refine .cB h (fun h=>?_) fun h=>?_
   · exact .e [] ⟨(_,_),h,inZ⟩
   refine .j 0 (fun z=>f487_j41 k a0 z = some r) (fun z=>[(0,(.d (.int .i64 a0))),(2,(.d (.bool false))),(3,(.d (.bool false))),(5,(.d (.int .i64 a0))),(9,(.d (.bool z)))]) (fun z=>[]) ?_ ?_
   · refine .seq (.e [] ?_)
     refine .cB h (fun h=>?_) fun h=>?_
     · exact .skip ⟨_,h,inZ⟩
     exact .e [] ⟨_,h,inZ⟩
   intro j41_1 h
   unfold f487_j41 at h
   refine .cB h (fun h=>?_) fun h=>?_
   · exact .e [] ⟨(_,_),h,inZ⟩
   refine .seq (.seq ?_)
   refine .e [] (.cB h (fun h=>?_) fun h=>?_)
   · refine .skip (.cB h (fun h=>?_) fun h=>?_)
     · exact .e [] ⟨(_,_),h,inZ⟩
     exact .skip ⟨(_,_),h,inZ⟩
   refine .e [] (.cB h (fun h=>?_) fun h=>?_)
   · exact .e [] ⟨(_,_),h,inZ⟩
   exact .skip ⟨(_,_),h,inZ⟩
 rintro ⟨j63_1,j63_2⟩ h
 dsimp only at h ⊢
 unfold f487_j63 at h
 refine .seq (.e [] ?_)
 cases h
 exact .ret rz
def f305 (k:Nat) (a0:Int) (a1:(List Int)):Option Int:=cond (decide (a0 < (0:Int))) (some (-1:Int)) (cond (decide (a0 ≥ ((a1.length:Nat):Int))) (some (-1:Int)) (gd (0≤a0∧a0 < ((a1.length:Nat):Int)) (some (rd a1 a0))))
theorem F305 {k:Nat} {a0:Int} {a1:(List Int)} {r:Int} (h:f305 k a0 a1 = some r) :
    ACalls Tryd.prog 104 [(.d (.int .i64 a0)),(.ptr 0 0)] [(0,(.cells [(.d (.sl (List.map (D.int .i64) a1)))]))] (.d (.int .i64 r)) [(0,(.cells [(.d (.sl (List.map (D.int .i64) a1)))]))]:=by
 refine acalls_ret ⟨_,Tryd.func104,by kernel_rfl,by kernel_rfl,rfl⟩ 1 1 1 [(3,(.d (.int .i64 r)))] [(0,(.cells [(.d (.sl (List.map (D.int .i64) a1)))]))] (doneA (.inr rfl) rfl ⟨trivial,trivial⟩ (.refl _) (hasCons rfl hasNil)) ?_
 unfold f305 at h
 refine .seq (.e [] ?_)
 refine .seq (.seq ?_)
 rcases cc h with ⟨c11,h⟩ | ⟨c11,h⟩
 · refine .e [.br c11] (.cT rfl ?_)
   refine .seq (.e [] ?_)
   cases h
   exact .ret rz
 refine .e [.br c11,.ln (D.int .i64) a1] (.cB h (fun h=>?_) fun h=>?_)
 · refine .seq (.e [] ?_)
   cases h
   exact .ret rz
 refine .skip (.seq ?_)
 obtain ⟨b29,h⟩:=gd_some h
 refine .e [.iad (D.int .i64) a1 1 (fun _=>rfl) b29] ?_
 cases h
 exact .ret rz
def f304_j87 (k:Nat) (j87_1:Int):Option Int:=some (IntKind.i64.wrap (j87_1 + (1:Int)))
def f304_l37 (a0:TNode) (a1:(List Int)):Nat→Int→Int→Option (LR2 Int Unit Int)
  | 0,_,_=>none
  | k + 1,y37_1,y37_2=>cond (decide (y37_2 < ((a0.fFields.length:Nat):Int))) (gd (0≤y37_2∧y37_2 < ((a0.fFields.length:Nat):Int)) ((f305 k ((rd a0.fFields y37_2).fType) a1).bind fun r62=>cond (decide (r62 = (-1:Int))) (some (.r (-1:Int))) (f304_l37 a0 a1 k (max y37_1 r62) (IntKind.i64.wrap (y37_2 + (1:Int)))))) (some (.b0 y37_1))
def f304_j161 (k:Nat) (j161_1:Int):Option Int:=cond (decide (j161_1 = (-1:Int))) (some (-1:Int)) (some (IntKind.i64.wrap (j161_1 + (1:Int))))
def f304_l112 (a0:TNode) (a1:(List Int)):Nat→Int→Int→Option (LR2 Int Unit Int)
  | 0,_,_=>none
  | k + 1,y112_1,y112_2=>cond (decide (y112_2 < ((a0.fBranches.length:Nat):Int))) (gd (0≤y112_2∧y112_2 < ((a0.fBranches.length:Nat):Int)) ((f305 k (rd a0.fBranches y112_2) a1).bind fun r135=>cond (decide (r135≠(-1:Int))) (cond (decide (y112_1 = (-1:Int))) (f304_l112 a0 a1 k r135 (IntKind.i64.wrap (y112_2 + (1:Int)))) (cond (decide (r135 < y112_1)) (f304_l112 a0 a1 k r135 (IntKind.i64.wrap (y112_2 + (1:Int)))) (f304_l112 a0 a1 k y112_1 (IntKind.i64.wrap (y112_2 + (1:Int)))))) (f304_l112 a0 a1 k y112_1 (IntKind.i64.wrap (y112_2 + (1:Int)))))) (some (.b0 y112_1))
def f304 (k:Nat) (a0:TNode) (a1:(List Int)):Option Int:=cond (decide (a0.fKind = (9:Int))) ((f304_l37 a0 a1 k (0:Int) (0:Int)).bind fun o37=>(match o37 with | .b0 x37_1=>f304_j87 k x37_1 | .r x=>some x | _=>none)) (cond (decide (a0.fKind = (13:Int))) ((f304_l112 a0 a1 k (-1:Int) (0:Int)).bind fun o112=>(match o112 with | .b0 x112_1=>f304_j161 k x112_1 | _=>none)) (cond (decide (a0.fKind < (1:Int))) (some (-1:Int)) (cond (decide (a0.fKind > (14:Int))) (some (-1:Int)) (some (0:Int)))))
theorem F304 {k:Nat} {a0:TNode} {a1:(List Int)} {r:Int} (h:f304 k a0 a1 = some r) :
    ACalls Tryd.prog 83 [(.d (TNode.enc a0)),(.d (.sl (List.map (D.int .i64) a1)))] [] (.d (.int .i64 r)) []:=by
 refine acalls_ret ⟨_,Tryd.func83,by kernel_rfl,by kernel_rfl,rfl⟩ 0 0 0 [(4,(.d (.int .i64 r)))] [] (doneA (.inr rfl) rfl ⟨trivial,trivial⟩ (.refl _) hasNil) ?_
 unfold f304 at h
 refine .seq (.e [] ?_)
 refine .seq (.e [] ?_)
 refine .seq (.seq ?_)
 refine .e [] (.block ?_)
 refine .seq (.e [] ?_)
 refine .cB h (fun h=>?_) fun h=>?_
 · refine .seq (.e [] ?_)
   refine .j 0 (fun z=>f304_j87 k z = some r) (fun z=>[(6,(.d (.int .i64 z)))]) (fun z=>[]) ?_ ?_
   · refine .seq (.e [.ln TField.enc a0.fFields] ?_)
     obtain ⟨o37,h37,h⟩:=bind_some h
     refine .block (.lp 1 (fun k (x:(Int×Int))=>f304_l37 a0 a1 k x.1 x.2 = some o37) (fun x=>[(5,(.fn 104 [(.ptr 0 0)])),(6,(.d (.int .i64 x.1))),(20,(.d (.sl (List.map TField.enc a0.fFields)))),(21,(.d (.int .i64 ((a0.fFields.length:Nat):Int)))),(22,(.d (.int .i64 x.2)))]) (fun x=>[(0,(.cells [(.d (.sl (List.map (D.int .i64) a1)))]))]) (_,_) h37 [(0,1)] [] ?_)
     rintro k ⟨y37_1,y37_2⟩ h37
     dsimp only at h37 ⊢
     rw [f304_l37] at h37
     refine .seq (.e [] ?_)
     refine .seq (.cD h37 (fun h37=>?_) fun h37=>?_)
     · cases h37
       dsimp only at h
       refine .exit (inBlk_eq ?_)
       exact ⟨_,h,inZ⟩
     refine .skip (.seq ?_)
     refine .block (.seq ?_)
     obtain ⟨b52,h37⟩:=gd_some h37
     refine .e [.iad TField.enc a0.fFields 5 (fun _=>rfl) b52] (.seq ?_)
     obtain ⟨r62,e62,h37⟩:=bind_some h37
     refine .e [.cq (F305 e62) [] 1] (.seq ?_)
     refine .seq (.e [] ?_)
     refine .cD h37 (fun h37=>?_) fun h37=>?_
     · refine .skip (.e [] ?_)
       exact .e [] ⟨(_,_),h37,inZ⟩
     refine .seq (.e [] ?_)
     cases h37
     dsimp only at h
     cases h
     exact .ret rz
   intro j87_1 h
   unfold f304_j87 at h
   refine .seq (.e [] ?_)
   cases h
   exact .ret rz
 refine .seq (.e [] ?_)
 refine .cD h (fun h=>?_) fun h=>?_
 · refine .skip (.seq ?_)
   refine .seq ?_
   rcases cc h with ⟨c189,h⟩ | ⟨c189,h⟩
   · refine .e [.br c189] (.cT rfl ?_)
     refine .seq (.e [] ?_)
     cases h
     exact .ret rz
   refine .e [.br c189] (.cB h (fun h=>?_) fun h=>?_)
   · refine .seq (.e [] ?_)
     cases h
     exact .ret rz
   refine .skip (.seq ?_)
   refine .e [] ?_
   cases h
   exact .ret rz
 refine .seq (.e [] ?_)
 refine .j 0 (fun z=>f304_j161 k z = some r) (fun z=>[(10,(.d (.int .i64 z)))]) (fun z=>[]) ?_ ?_
 · refine .seq (.e [.ln (D.int .i64) a0.fBranches] ?_)
   obtain ⟨o112,h112,h⟩:=bind_some h
   refine .block (.lp 1 (fun k (x:(Int×Int))=>f304_l112 a0 a1 k x.1 x.2 = some o112) (fun x=>[(5,(.fn 104 [(.ptr 0 0)])),(10,(.d (.int .i64 x.1))),(41,(.d (.sl (List.map (D.int .i64) a0.fBranches)))),(42,(.d (.int .i64 ((a0.fBranches.length:Nat):Int)))),(43,(.d (.int .i64 x.2)))]) (fun x=>[(0,(.cells [(.d (.sl (List.map (D.int .i64) a1)))]))]) (_,_) h112 [(0,1)] [] ?_)
   rintro k ⟨y112_1,y112_2⟩ h112
   dsimp only at h112 ⊢
   rw [f304_l112] at h112
   refine .seq (.e [] ?_)
   refine .seq (.cD h112 (fun h112=>?_) fun h112=>?_)
   · cases h112
     dsimp only at h
     refine .exit (inBlk_eq ?_)
     exact ⟨_,h,inZ⟩
   refine .skip (.seq ?_)
   refine .block (.seq ?_)
   obtain ⟨b127,h112⟩:=gd_some h112
   refine .e [.iad (D.int .i64) a0.fBranches 1 (fun _=>rfl) b127] (.seq ?_)
   obtain ⟨r135,e135,h112⟩:=bind_some h112
   refine .e [.cq (F305 e135) [] 1] (.seq ?_)
   rcases cc h112 with ⟨c142,h112⟩ | ⟨c142,h112⟩
   · rcases cc h112 with ⟨c145,h112⟩ | ⟨c145,h112⟩
     · refine .e [.br c142,.br c145] (.cT rfl ?_)
       refine .e [] (.e [] ?_)
       exact ⟨(_,_),h112,inZ⟩
     refine .e [.br c142,.br c145] (.cB h112 (fun h112=>?_) fun h112=>?_)
     · refine .e [] (.e [] ?_)
       exact ⟨(_,_),h112,inZ⟩
     refine .skip (.e [] ?_)
     exact ⟨(_,_),h112,inZ⟩
   refine .e [.br c142] (.cF rfl ?_)
   refine .skip (.e [] ?_)
   exact ⟨(_,_),h112,inZ⟩
 intro j161_1 h
 unfold f304_j161 at h
 refine .seq (.seq ?_)
 refine .e [] (.cB h (fun h=>?_) fun h=>?_)
 · refine .seq (.e [] ?_)
   cases h
   exact .ret rz
 refine .skip (.seq ?_)
 refine .e [] ?_
 cases h
 exact .ret rz
def f250_l85 (a0:TSchema) (y53_1:Nat) (y53_3:(List Int)):Nat→Bool→Int→(List Int)→Option (LR2 (Bool×(List Int)) Unit (List Int))
  | 0,_,_,_=>none
  | k + 1,y85_1,y85_2,y85_3=>cond (decide (y85_2 < ((a0.fNodes.length:Nat):Int))) (gd (0≤y85_2∧y85_2 < ((a0.fNodes.length:Nat):Int)) (gd (0≤y85_2∧y85_2 < ((y53_1:Nat):Int)) (gd ((y85_2).toNat < y53_3.length) (cond (decide ((List.getD y53_3 (y85_2).toNat default)≠(-1:Int))) (f250_l85 a0 y53_1 y53_3 k y85_1 (IntKind.i64.wrap (y85_2 + (1:Int))) y85_3) (gd (y53_1≤y53_3.length) ((f304 k (rd a0.fNodes y85_2) (List.take y53_1 y53_3)).bind fun r125=>gd (0≤y85_2∧y85_2 < (((List.take y53_1 y53_3).length:Nat):Int)) (gd ((y85_2).toNat < y85_3.length) (cond y85_1 (f250_l85 a0 y53_1 y53_3 k true (IntKind.i64.wrap (y85_2 + (1:Int))) (List.set y85_3 (y85_2).toNat r125)) (gd (0≤y85_2∧y85_2 < (((List.take y53_1 y53_3).length:Nat):Int)) (gd ((y85_2).toNat < (List.set y85_3 (y85_2).toNat r125).length) (f250_l85 a0 y53_1 y53_3 k (decide ((List.getD (List.set y85_3 (y85_2).toNat r125) (y85_2).toNat default)≠(-1:Int))) (IntKind.i64.wrap (y85_2 + (1:Int))) (List.set y85_3 (y85_2).toNat r125)))))))))))) (some (.b0 (y85_1,y85_3)))
def f250_l53 (a0:TSchema):Nat→Nat→Bool→(List Int)→Option (LR2 (Nat×(List Int)) Unit (List Int))
  | 0,_,_,_=>none
  | k + 1,y53_1,y53_2,y53_3=>cond y53_2 (gd (y53_1≤y53_3.length) (gd ((List.take y53_1 y53_3).length * 8≤281474976710656) ((f250_l85 a0 y53_1 y53_3 k false (0:Int) (List.take y53_1 y53_3)).bind fun o85=>(match o85 with | .b0 (x85_1,x85_2)=>f250_l53 a0 k ((List.take y53_1 y53_3).length) x85_1 x85_2 | _=>none)))) (some (.b0 (y53_1,y53_3)))
def f250_j48 (k:Nat) (a0:TSchema) (j48_1:(List Int)):Option (List Int):=(f250_l53 a0 k ((((a0.fNodes.length:Nat):Int)).toNat) true j48_1).bind fun o53=>(match o53 with | .b0 (x53_1,x53_2)=>gd (x53_1≤x53_2.length) (some (List.take x53_1 x53_2)) | _=>none)
def f250_l21 (a0:TSchema):Nat→Int→(List Int)→Option (LR2 (List Int) Unit (List Int))
  | 0,_,_=>none
  | k + 1,y21_1,y21_2=>cond (decide (y21_1 < (((((a0.fNodes.length:Nat):Int)).toNat:Nat):Int))) (gd (0≤y21_1∧y21_1 < (((((a0.fNodes.length:Nat):Int)).toNat:Nat):Int)) (gd ((y21_1).toNat < y21_2.length) (f250_l21 a0 k (IntKind.i64.wrap (y21_1 + (1:Int))) (List.set y21_2 (y21_1).toNat (-1:Int))))) (some (.b0 y21_2))
def f250 (k:Nat) (a0:TSchema):Option (List Int):=gd (0≤((a0.fNodes.length:Nat):Int)∧((a0.fNodes.length:Nat):Int)≤((a0.fNodes.length:Nat):Int)∧((a0.fNodes.length:Nat):Int) * 8≤281474976710656) ((f250_l21 a0 k (0:Int) (List.replicate (((a0.fNodes.length:Nat):Int)).toNat (default:Int))).bind fun o21=>(match o21 with | .b0 x21_1=>f250_j48 k a0 x21_1 | _=>none))
theorem F250 {k:Nat} {a0:TSchema} {r:(List Int)} (h:f250 k a0 = some r) :
    ACalls Tryd.prog 57 [(.d (TSchema.enc a0))] [] (.d (.sl (List.map (D.int .i64) r))) []:=by
 refine acalls_canon ⟨Tryd.f57,Tryd.func57,by kernel_rfl,by kernel_rfl,rfl⟩ 0 0 rfl ?_
 unfold f250 at h
 refine .seq (.rg hmix rfl rfl ?_)
 refine RegV.evS (own:=false) (v:=(.ptr 0 0)) (H':=[(0,(.cells [(.d (.sl (List.map TNode.enc a0.fNodes)))]))]) (c':=1) rfl rfl trivial rfl rfl rfl rfl rfl rfl (RegV.p0 rfl rfl rfl ?_)
 refine RegV.nil0 (.seq ?_)
 refine .rg hmix rfl rfl (RegV.p0 (v:=(.ptr 0 0)) rfl rfl rfl ?_)
 refine RegV.ld (v:=(.d (.sl (List.map TNode.enc a0.fNodes)))) (H':=[(0,(.cells [(.d (.sl (List.map TNode.enc a0.fNodes)))]))]) rfl rfl trivial rfl rfl rfl rfl rfl (RegV.len (xs:=a0.fNodes) (e:=TNode.enc) rfl rfl rfl rfl ?_)
 obtain ⟨b12,h⟩:=gd_some h
 refine RegV.mkR (e:=(D.int .i64)) (a0:=default) rfl rfl rfl (int_ok _) rfl rfl b12 rfl rfl (RegV.p0 rfl rfl rfl ?_)
 refine RegV.nil0 (.j 2 (fun z=>f250_j48 k a0 z = some r) (fun z=>[(1,(.ptr 0 0)),(3,(.row 1 1 ((((a0.fNodes.length:Nat):Int)).toNat)))]) (fun z=>[(0,(.cells [(.d (.sl (List.map TNode.enc a0.fNodes)))])),(1,(rowO (D.int .i64) z))]) ?_ ?_)
 · refine .seq (.rg hmix rfl rfl ?_)
   refine RegV.p0 rfl rfl rfl (RegV.lenR (len:=(((a0.fNodes.length:Nat):Int)).toNat) rfl rfl rfl ?_)
   refine RegV.p0 rfl rfl rfl (RegV.nil0 ?_)
   obtain ⟨o21,h21,h⟩:=bind_some h
   refine .block (.loopK (N:=55) 2 (fun (x:(Int×(List Int)))=>[(1,(.ptr 0 0)),(3,(.row 1 1 ((((a0.fNodes.length:Nat):Int)).toNat))),(14,(.d (.int .i64 (((((a0.fNodes.length:Nat):Int)).toNat:Nat):Int)))),(15,(.d (.int .i64 x.1)))]) (fun x=>[(0,(.cells [(.d (.sl (List.map TNode.enc a0.fNodes)))])),(1,(rowO (D.int .i64) x.2))]) (fun k x=>f250_l21 a0 k x.1 x.2 = some o21) k ((0:Int),(List.replicate (((a0.fNodes.length:Nat):Int)).toNat (default:Int))) rfl_le (fun x hx=>by cases hx) h21 ⟨rfl,[],[],rfl,rfl,⟨⟨_,rfl,(.refl _)⟩,rfl,⟨⟨_,rfl,(.refl _)⟩,rfl,⟨⟨_,rfl,(.refl _)⟩,rfl,⟨⟨_,rfl,(.refl _)⟩,rfl,trivial⟩⟩⟩⟩,⟨⟨_,rfl,(.refl _)⟩,rfl,rfl,⟨⟨_,rfl,(.refl _)⟩,rfl,rfl,trivial⟩⟩⟩ ?_)
   rintro k ⟨y21_1,y21_2⟩ h21
   dsimp only at h21 ⊢
   rw [f250_l21] at h21
   refine .seq (.rg hmix rfl rfl ?_)
   refine RegV.p0 (v:=(.d (.bool (decide (y21_1 < (((((a0.fNodes.length:Nat):Int)).toNat:Nat):Int)))))) rfl rfl rfl (RegV.nil0 ?_)
   refine .seq (.cond rfl (fun c28=>?_) (fun c28=>?_))
   · have h21:=cond_pos c28 h21
     refine .skip (.seq ?_)
     refine .block (.seq ?_)
     refine .rg hmix rfl rfl (RegV.p0 rfl rfl rfl ?_)
     refine RegV.p0 rfl rfl rfl (RegV.nil0 ?_)
     refine .rg hmix rfl rfl (RegV.p0 rfl rfl rfl ?_)
     refine RegV.p0 rfl rfl rfl ?_
     obtain ⟨b42,h21⟩:=gd_some h21
     refine RegV.iaR (z:=1) rfl rfl (fun _=>rfl) b42 rfl ?_
     obtain ⟨b43,h21⟩:=gd_some h21
     refine RegV.stR (e:=(D.int .i64)) (xs:=y21_2) (i:=(y21_1).toNat) (v:=(-1:Int)) (H':=[(1,(rowO (D.int .i64) (List.set y21_2 (y21_1).toNat (-1:Int)))),(0,(.cells [(.d (.sl (List.map TNode.enc a0.fNodes)))]))]) rfl rfl rfl rfl rfl (int_ok _) rfl b43 rfl rfl rfl (RegV.nil0 ?_)
     refine .rg hmix rfl rfl (RegV.p0 (v:=(.d (.int .i64 (IntKind.i64.wrap (y21_1 + (1:Int)))))) rfl rfl rfl ?_)
     refine RegV.p0 rfl rfl rfl (RegV.nil0 ?_)
     exact ⟨((IntKind.i64.wrap (y21_1 + (1:Int))),(List.set y21_2 (y21_1).toNat (-1:Int))),h21,⟨rfl,[],[],rfl,rfl,⟨⟨_,rfl,(.refl _)⟩,rfl,⟨⟨_,rfl,(.refl _)⟩,rfl,⟨⟨_,rfl,(.refl _)⟩,rfl,⟨⟨_,rfl,(.refl _)⟩,rfl,trivial⟩⟩⟩⟩,⟨⟨_,rfl,(.refl _)⟩,rfl,rfl,⟨⟨_,rfl,(.refl _)⟩,rfl,rfl,trivial⟩⟩⟩⟩
   have h21:=cond_neg c28 h21
   cases h21
   dsimp only at h
   refine .exit (inBlk_eq ?_)
   exact ⟨y21_2,h,⟨rfl,[],[],rfl,rfl,⟨⟨_,rfl,(.refl _)⟩,rfl,⟨⟨_,rfl,(.refl _)⟩,rfl,trivial⟩⟩,⟨⟨_,rfl,(.refl _)⟩,rfl,rfl,⟨⟨_,rfl,(.refl _)⟩,rfl,rfl,trivial⟩⟩⟩⟩
 intro j48_1 h
 unfold f250_j48 at h
 refine .seq (.seq ?_)
 refine .rg hmix rfl rfl (RegV.p0 rfl rfl rfl ?_)
 refine RegV.nil0 ?_
 obtain ⟨o53,h53,h⟩:=bind_some h
 refine .block (.loopK (N:=55) 2 (fun (x:(Nat×Bool×(List Int)))=>[(1,(.ptr 0 0)),(3,(.row 1 1 x.1)),(5,(.d (.bool x.2.1)))]) (fun x=>[(0,(.cells [(.d (.sl (List.map TNode.enc a0.fNodes)))])),(1,(rowO (D.int .i64) x.2.2))]) (fun k x=>f250_l53 a0 k x.1 x.2.1 x.2.2 = some o53) k ((((a0.fNodes.length:Nat):Int)).toNat,true,j48_1) rfl_le (fun x hx=>by cases hx) h53 ⟨rfl,[],[],rfl,rfl,⟨⟨_,rfl,(.refl _)⟩,rfl,⟨⟨_,rfl,(.refl _)⟩,rfl,⟨⟨_,rfl,(.refl _)⟩,rfl,trivial⟩⟩⟩,⟨⟨_,rfl,(.refl _)⟩,rfl,rfl,⟨⟨_,rfl,(.refl _)⟩,rfl,rfl,trivial⟩⟩⟩ ?_)
 rintro k ⟨y53_1,y53_2,y53_3⟩ h53
 dsimp only at h53 ⊢
 rw [f250_l53] at h53
 refine .seq (.seq ?_)
 refine .rg hmix rfl rfl (RegV.p0 rfl rfl rfl ?_)
 refine RegV.nil0 (.cond rfl (fun c60=>?_) (fun c60=>?_))
 · have h53:=cond_pos c60 h53
   refine .skip (.block ?_)
   refine .scope (.seq ?_)
   refine .rg hmix rfl rfl (RegV.p0 rfl rfl rfl ?_)
   obtain ⟨bs69,h53⟩:=gd_some h53
   obtain ⟨b69,h53⟩:=gd_some h53
   refine RegV.appG (xs:=y53_3) (ys:=(List.take y53_1 y53_3)) (e:=(D.int .i64)) (H':=[(2,(rowO (D.int .i64) (List.take y53_1 y53_3))),(1,(rowO (D.int .i64) y53_3)),(0,(.cells [(.d (.sl (List.map TNode.enc a0.fNodes)))]))]) rfl rfl rfl (.row bs69) (int_ok _) rfl (.inr rfl) rfl rfl b69 rfl rfl rfl rfl rfl rfl (RegV.p0 rfl rfl rfl ?_)
   refine RegV.nil0 (.seq ?_)
   refine .rg hmix rfl rfl (RegV.p0 rfl rfl rfl ?_)
   refine RegV.nil0 (.seq ?_)
   refine .label (.seq ?_)
   refine .seq (.rg hmix rfl rfl ?_)
   refine RegV.p0 (v:=(.ptr 0 0)) rfl rfl rfl (RegV.ld (v:=(.d (.sl (List.map TNode.enc a0.fNodes)))) (H':=[(0,(.cells [(.d (.sl (List.map TNode.enc a0.fNodes)))])),(2,(rowO (D.int .i64) (List.take y53_1 y53_3))),(1,(rowO (D.int .i64) y53_3))]) rfl rfl trivial rfl rfl rfl rfl rfl ?_)
   refine RegV.len (xs:=a0.fNodes) (e:=TNode.enc) rfl rfl rfl rfl (RegV.p0 rfl rfl rfl ?_)
   refine RegV.nil0 ?_
   obtain ⟨o85,h85,h53⟩:=bind_some h53
   refine .block (.loopK (N:=55) 3 (fun (x:(Bool×Int×(List Int)))=>[(1,(.ptr 0 0)),(3,(.row 1 1 y53_1)),(5,(.d (.bool x.1))),(6,(.row 2 1 ((List.take y53_1 y53_3).length))),(26,(.d (.sl (List.map TNode.enc a0.fNodes)))),(27,(.d (.int .i64 ((a0.fNodes.length:Nat):Int)))),(28,(.d (.int .i64 x.2.1)))]) (fun x=>[(0,(.cells [(.d (.sl (List.map TNode.enc a0.fNodes)))])),(1,(rowO (D.int .i64) y53_3)),(2,(rowO (D.int .i64) x.2.2))]) (fun k x=>f250_l85 a0 y53_1 y53_3 k x.1 x.2.1 x.2.2 = some o85) k (false,(0:Int),(List.take y53_1 y53_3)) rfl_le (fun x hx=>by cases hx) h85 ⟨rfl,[],[],rfl,rfl,⟨⟨_,rfl,(.refl _)⟩,rfl,⟨⟨_,rfl,(.refl _)⟩,rfl,⟨⟨_,rfl,(.refl _)⟩,rfl,⟨⟨_,rfl,(.refl _)⟩,rfl,⟨⟨_,rfl,(.refl _)⟩,rfl,⟨⟨_,rfl,(.refl _)⟩,rfl,⟨⟨_,rfl,(.refl _)⟩,rfl,trivial⟩⟩⟩⟩⟩⟩⟩,⟨⟨_,rfl,(.refl _)⟩,rfl,rfl,⟨⟨_,rfl,(.refl _)⟩,rfl,rfl,⟨⟨_,rfl,(.refl _)⟩,rfl,rfl,trivial⟩⟩⟩⟩ ?_)
   rintro k ⟨y85_1,y85_2,y85_3⟩ h85
   dsimp only at h85 ⊢
   rw [f250_l85] at h85
   refine .seq (.rg hmix rfl rfl ?_)
   refine RegV.p0 (v:=(.d (.bool (decide (y85_2 < ((a0.fNodes.length:Nat):Int)))))) rfl rfl rfl (RegV.nil0 ?_)
   refine .seq (.cond rfl (fun c92=>?_) (fun c92=>?_))
   · have h85:=cond_pos c92 h85
     refine .skip (.seq ?_)
     refine .block (.seq ?_)
     refine .rg hmix rfl rfl (RegV.p0 rfl rfl rfl ?_)
     obtain ⟨b101,h85⟩:=gd_some h85
     refine RegV.iad (xs:=a0.fNodes) (e:=TNode.enc) rfl rfl rfl rfl (fun _=>rfl) b101 rfl (RegV.p1 (v:=(.d (TNode.enc (rd a0.fNodes y85_2)))) rfl rfl rfl rfl rfl ?_)
     refine RegV.evS (own:=false) (v:=(.ptr 3 0)) (H':=[(3,(.cells [(.d (.int .i64 (0:Int))),(.d (.str ([]:List UInt8))),.nils,.nils,.nils,(.d (.bool false)),(.d (.str ([]:List UInt8))),(.d (.int .i64 (0:Int))),.nils,(.d (.int .i64 (0:Int)))])),(0,(.cells [(.d (.sl (List.map TNode.enc a0.fNodes)))])),(1,(rowO (D.int .i64) y53_3)),(2,(rowO (D.int .i64) y85_3))]) (c':=4) rfl rfl trivial rfl rfl rfl rfl rfl rfl (RegV.p0 rfl rfl rfl ?_)
     refine RegV.evN (own:=false) (H':=[(3,(.cells [(.d (.int .i64 (rd a0.fNodes y85_2).fKind)),(.d (.str (rd a0.fNodes y85_2).fName)),(.d (.sl (List.map D.str (rd a0.fNodes y85_2).fAliases))),(.d (.sl (List.map TField.enc (rd a0.fNodes y85_2).fFields))),(.d (.sl (List.map D.str (rd a0.fNodes y85_2).fSymbols))),(.d (.bool (rd a0.fNodes y85_2).fHas)),(.d (.str (rd a0.fNodes y85_2).fDefault)),(.d (.int .i64 (rd a0.fNodes y85_2).fItems)),(.d (.sl (List.map (D.int .i64) (rd a0.fNodes y85_2).fBranches))),(.d (.int .i64 (rd a0.fNodes y85_2).fSize))])),(0,(.cells [(.d (.sl (List.map TNode.enc a0.fNodes)))])),(1,(rowO (D.int .i64) y53_3)),(2,(rowO (D.int .i64) y85_3))]) (c':=4) rfl rfl (by exact ⟨rfl,Nat.le_of_ble_eq_true rfl,rfl⟩) rfl rfl rfl rfl (RegV.nil0 ?_)
     refine .seq (.seq ?_)
     refine .rg hmix rfl rfl (RegV.p0 rfl rfl rfl ?_)
     refine RegV.p0 rfl rfl rfl ?_
     obtain ⟨b112,h85⟩:=gd_some h85
     refine RegV.iaR (z:=1) rfl rfl (fun _=>rfl) b112 rfl ?_
     obtain ⟨b113,h85⟩:=gd_some h85
     refine RegV.ldR (e:=(D.int .i64)) (xs:=y53_3) (i:=(y85_2).toNat) (H':=[(1,(rowO (D.int .i64) y53_3)),(3,(.cells [(.d (.int .i64 (rd a0.fNodes y85_2).fKind)),(.d (.str (rd a0.fNodes y85_2).fName)),(.d (.sl (List.map D.str (rd a0.fNodes y85_2).fAliases))),(.d (.sl (List.map TField.enc (rd a0.fNodes y85_2).fFields))),(.d (.sl (List.map D.str (rd a0.fNodes y85_2).fSymbols))),(.d (.bool (rd a0.fNodes y85_2).fHas)),(.d (.str (rd a0.fNodes y85_2).fDefault)),(.d (.int .i64 (rd a0.fNodes y85_2).fItems)),(.d (.sl (List.map (D.int .i64) (rd a0.fNodes y85_2).fBranches))),(.d (.int .i64 (rd a0.fNodes y85_2).fSize))])),(0,(.cells [(.d (.sl (List.map TNode.enc a0.fNodes)))])),(2,(rowO (D.int .i64) y85_3))]) rfl rfl rfl (int_ok _) rfl b113 rfl rfl rfl rfl (RegV.p0 (v:=(.d (.bool (decide ((List.getD y53_3 (y85_2).toNat default)≠(-1:Int)))))) rfl rfl rfl ?_)
     refine RegV.nil0 (.cond rfl (fun c115=>?_) (fun c115=>?_))
     · have h85:=cond_pos c115 h85
       refine .exit (inBlk_eq ?_)
       refine .rg hmix rfl rfl (RegV.p0 (v:=(.d (.int .i64 (IntKind.i64.wrap (y85_2 + (1:Int)))))) rfl rfl rfl ?_)
       refine RegV.p0 rfl rfl rfl (RegV.nil0 ?_)
       exact ⟨(y85_1,(IntKind.i64.wrap (y85_2 + (1:Int))),y85_3),h85,⟨rfl,[],[],rfl,rfl,⟨⟨_,rfl,(.refl _)⟩,rfl,⟨⟨_,rfl,(.refl _)⟩,rfl,⟨⟨_,rfl,(.refl _)⟩,rfl,⟨⟨_,rfl,(.refl _)⟩,rfl,⟨⟨_,rfl,(.refl _)⟩,rfl,⟨⟨_,rfl,(.refl _)⟩,rfl,⟨⟨_,rfl,(.refl _)⟩,rfl,trivial⟩⟩⟩⟩⟩⟩⟩,⟨⟨_,rfl,(.refl _)⟩,rfl,rfl,⟨⟨_,rfl,(.refl _)⟩,rfl,rfl,⟨⟨_,rfl,(.refl _)⟩,rfl,rfl,trivial⟩⟩⟩⟩⟩
     have h85:=cond_neg c115 h85
     refine .skip (.seq ?_)
     refine .rg hmix rfl rfl (RegV.p0 rfl rfl rfl ?_)
     refine RegV.p0 rfl rfl rfl (RegV.ld (v:=(.d (.agg [(.int .i64 (rd a0.fNodes y85_2).fKind),(.str (rd a0.fNodes y85_2).fName),(.sl (List.map D.str (rd a0.fNodes y85_2).fAliases)),(.sl (List.map TField.enc (rd a0.fNodes y85_2).fFields)),(.sl (List.map D.str (rd a0.fNodes y85_2).fSymbols)),(.bool (rd a0.fNodes y85_2).fHas),(.str (rd a0.fNodes y85_2).fDefault),(.int .i64 (rd a0.fNodes y85_2).fItems),(.sl (List.map (D.int .i64) (rd a0.fNodes y85_2).fBranches)),(.int .i64 (rd a0.fNodes y85_2).fSize)]))) (H':=[(3,(.cells [(.d (.int .i64 (rd a0.fNodes y85_2).fKind)),(.d (.str (rd a0.fNodes y85_2).fName)),(.d (.sl (List.map D.str (rd a0.fNodes y85_2).fAliases))),(.d (.sl (List.map TField.enc (rd a0.fNodes y85_2).fFields))),(.d (.sl (List.map D.str (rd a0.fNodes y85_2).fSymbols))),(.d (.bool (rd a0.fNodes y85_2).fHas)),(.d (.str (rd a0.fNodes y85_2).fDefault)),(.d (.int .i64 (rd a0.fNodes y85_2).fItems)),(.d (.sl (List.map (D.int .i64) (rd a0.fNodes y85_2).fBranches))),(.d (.int .i64 (rd a0.fNodes y85_2).fSize))])),(1,(rowO (D.int .i64) y53_3)),(0,(.cells [(.d (.sl (List.map TNode.enc a0.fNodes)))])),(2,(rowO (D.int .i64) y85_3))]) rfl rfl (Nat.le_of_ble_eq_true rfl) rfl rfl rfl rfl rfl ?_)
     refine RegV.p0 rfl rfl rfl ?_
     obtain ⟨bw0,h85⟩:=gd_some h85
     obtain ⟨r125,e125,h85⟩:=bind_some h85
     refine RegV.callS (q:=true) (H':=[(1,(rowO (D.int .i64) y53_3)),(3,(.cells [(.d (.int .i64 (rd a0.fNodes y85_2).fKind)),(.d (.str (rd a0.fNodes y85_2).fName)),(.d (.sl (List.map D.str (rd a0.fNodes y85_2).fAliases))),(.d (.sl (List.map TField.enc (rd a0.fNodes y85_2).fFields))),(.d (.sl (List.map D.str (rd a0.fNodes y85_2).fSymbols))),(.d (.bool (rd a0.fNodes y85_2).fHas)),(.d (.str (rd a0.fNodes y85_2).fDefault)),(.d (.int .i64 (rd a0.fNodes y85_2).fItems)),(.d (.sl (List.map (D.int .i64) (rd a0.fNodes y85_2).fBranches))),(.d (.int .i64 (rd a0.fNodes y85_2).fSize))])),(0,(.cells [(.d (.sl (List.map TNode.enc a0.fNodes)))])),(2,(rowO (D.int .i64) y85_3))]) (c':=4) (show ACalls Tryd.prog 83 [(.d (.agg [(.int .i64 (rd a0.fNodes y85_2).fKind),(.str (rd a0.fNodes y85_2).fName),(.sl (List.map D.str (rd a0.fNodes y85_2).fAliases)),(.sl (List.map TField.enc (rd a0.fNodes y85_2).fFields)),(.sl (List.map D.str (rd a0.fNodes y85_2).fSymbols)),(.bool (rd a0.fNodes y85_2).fHas),(.str (rd a0.fNodes y85_2).fDefault),(.int .i64 (rd a0.fNodes y85_2).fItems),(.sl (List.map (D.int .i64) (rd a0.fNodes y85_2).fBranches)),(.int .i64 (rd a0.fNodes y85_2).fSize)])),(.row 1 1 y53_1)] [(1,(rowO (D.int .i64) y53_3))] (.d (.int .i64 r125)) [(1,(rowO (D.int .i64) y53_3))] from ACalls.borrow (e:=(D.int .i64)) (xs:=y53_3) (views:=[(.d (.agg [(.int .i64 (rd a0.fNodes y85_2).fKind),(.str (rd a0.fNodes y85_2).fName),(.sl (List.map D.str (rd a0.fNodes y85_2).fAliases)),(.sl (List.map TField.enc (rd a0.fNodes y85_2).fFields)),(.sl (List.map D.str (rd a0.fNodes y85_2).fSymbols)),(.bool (rd a0.fNodes y85_2).fHas),(.str (rd a0.fNodes y85_2).fDefault),(.int .i64 (rd a0.fNodes y85_2).fItems),(.sl (List.map (D.int .i64) (rd a0.fNodes y85_2).fBranches)),(.int .i64 (rd a0.fNodes y85_2).fSize)])),(.d (.sl (List.map (D.int .i64) (List.take y53_1 y53_3))))]) (F304 e125) rfl (int_ok _) (.inr rfl) (.cons .same (.cons (.row bw0) .nil)) (.cons (.refl _) (.cons (.refl _) .nil)) .int) rfl rfl rfl rfl (SubL.refl _) (.refl _) (fun _=>rfl) rfl (hasCons rfl hasNil) rfl rfl rfl rfl ?_
     obtain ⟨b126,h85⟩:=gd_some h85
     refine RegV.iaR (z:=1) rfl rfl (fun _=>rfl) b126 rfl ?_
     obtain ⟨b127,h85⟩:=gd_some h85
     refine RegV.stR (e:=(D.int .i64)) (xs:=y85_3) (i:=(y85_2).toNat) (v:=r125) (H':=[(2,(rowO (D.int .i64) (List.set y85_3 (y85_2).toNat r125))),(1,(rowO (D.int .i64) y53_3)),(3,(.cells [(.d (.int .i64 (rd a0.fNodes y85_2).fKind)),(.d (.str (rd a0.fNodes y85_2).fName)),(.d (.sl (List.map D.str (rd a0.fNodes y85_2).fAliases))),(.d (.sl (List.map TField.enc (rd a0.fNodes y85_2).fFields))),(.d (.sl (List.map D.str (rd a0.fNodes y85_2).fSymbols))),(.d (.bool (rd a0.fNodes y85_2).fHas)),(.d (.str (rd a0.fNodes y85_2).fDefault)),(.d (.int .i64 (rd a0.fNodes y85_2).fItems)),(.d (.sl (List.map (D.int .i64) (rd a0.fNodes y85_2).fBranches))),(.d (.int .i64 (rd a0.fNodes y85_2).fSize))])),(0,(.cells [(.d (.sl (List.map TNode.enc a0.fNodes)))]))]) rfl rfl rfl rfl rfl (int_ok _) rfl b127 rfl rfl rfl (RegV.nil0 ?_)
     refine .rg hmix rfl rfl (RegV.p0 rfl rfl rfl ?_)
     refine RegV.p0 rfl rfl rfl (RegV.split (fun c131=>?_) (fun c131=>?_))
     · have h85:=cond_pos c131 h85
       refine RegV.noS rfl rfl (RegV.noS rfl rfl ?_)
       refine RegV.noS rfl rfl (RegV.noS rfl rfl ?_)
       refine RegV.noS rfl rfl (RegV.p0 rfl rfl rfl ?_)
       refine RegV.p0 rfl rfl rfl (RegV.nil0 ?_)
       refine .rg hmix rfl rfl (RegV.p0 (v:=(.d (.int .i64 (IntKind.i64.wrap (y85_2 + (1:Int)))))) rfl rfl rfl ?_)
       refine RegV.p0 rfl rfl rfl (RegV.nil0 ?_)
       exact ⟨(true,(IntKind.i64.wrap (y85_2 + (1:Int))),(List.set y85_3 (y85_2).toNat r125)),h85,⟨rfl,[],[],rfl,rfl,⟨⟨_,rfl,(.refl _)⟩,rfl,⟨⟨_,rfl,(.refl _)⟩,rfl,⟨⟨_,rfl,(.refl _)⟩,rfl,⟨⟨_,rfl,(.refl _)⟩,rfl,⟨⟨_,rfl,(.refl _)⟩,rfl,⟨⟨_,rfl,(.refl _)⟩,rfl,⟨⟨_,rfl,(.refl _)⟩,rfl,trivial⟩⟩⟩⟩⟩⟩⟩,⟨⟨_,rfl,(.refl _)⟩,rfl,rfl,⟨⟨_,rfl,(.refl _)⟩,rfl,rfl,⟨⟨_,rfl,(.refl _)⟩,rfl,rfl,trivial⟩⟩⟩⟩⟩
     have h85:=cond_neg c131 h85
     refine RegV.p0 rfl rfl rfl (RegV.p0 rfl rfl rfl ?_)
     obtain ⟨b134,h85⟩:=gd_some h85
     refine RegV.iaR (z:=1) rfl rfl (fun _=>rfl) b134 rfl ?_
     obtain ⟨b135,h85⟩:=gd_some h85
     refine RegV.ldR (e:=(D.int .i64)) (xs:=(List.set y85_3 (y85_2).toNat r125)) (i:=(y85_2).toNat) (H':=[(2,(rowO (D.int .i64) (List.set y85_3 (y85_2).toNat r125))),(1,(rowO (D.int .i64) y53_3)),(3,(.cells [(.d (.int .i64 (rd a0.fNodes y85_2).fKind)),(.d (.str (rd a0.fNodes y85_2).fName)),(.d (.sl (List.map D.str (rd a0.fNodes y85_2).fAliases))),(.d (.sl (List.map TField.enc (rd a0.fNodes y85_2).fFields))),(.d (.sl (List.map D.str (rd a0.fNodes y85_2).fSymbols))),(.d (.bool (rd a0.fNodes y85_2).fHas)),(.d (.str (rd a0.fNodes y85_2).fDefault)),(.d (.int .i64 (rd a0.fNodes y85_2).fItems)),(.d (.sl (List.map (D.int .i64) (rd a0.fNodes y85_2).fBranches))),(.d (.int .i64 (rd a0.fNodes y85_2).fSize))])),(0,(.cells [(.d (.sl (List.map TNode.enc a0.fNodes)))]))]) rfl rfl rfl (int_ok _) rfl b135 rfl rfl rfl rfl (RegV.p0 (v:=(.d (.bool (decide ((List.getD (List.set y85_3 (y85_2).toNat r125) (y85_2).toNat default)≠(-1:Int)))))) rfl rfl rfl ?_)
     refine RegV.p0 rfl rfl rfl (RegV.p0 rfl rfl rfl ?_)
     refine RegV.nil0 (.rg hmix rfl rfl ?_)
     refine RegV.p0 (v:=(.d (.int .i64 (IntKind.i64.wrap (y85_2 + (1:Int)))))) rfl rfl rfl (RegV.p0 rfl rfl rfl ?_)
     exact RegV.nil0 ⟨((decide ((List.getD (List.set y85_3 (y85_2).toNat r125) (y85_2).toNat default)≠(-1:Int))),(IntKind.i64.wrap (y85_2 + (1:Int))),(List.set y85_3 (y85_2).toNat r125)),h85,⟨rfl,[],[],rfl,rfl,⟨⟨_,rfl,(.refl _)⟩,rfl,⟨⟨_,rfl,(.refl _)⟩,rfl,⟨⟨_,rfl,(.refl _)⟩,rfl,⟨⟨_,rfl,(.refl _)⟩,rfl,⟨⟨_,rfl,(.refl _)⟩,rfl,⟨⟨_,rfl,(.refl _)⟩,rfl,⟨⟨_,rfl,(.refl _)⟩,rfl,trivial⟩⟩⟩⟩⟩⟩⟩,⟨⟨_,rfl,(.refl _)⟩,rfl,rfl,⟨⟨_,rfl,(.refl _)⟩,rfl,rfl,⟨⟨_,rfl,(.refl _)⟩,rfl,rfl,trivial⟩⟩⟩⟩⟩
   have h85:=cond_neg c92 h85
   cases h85
   dsimp only at h53
   refine .exit (inBlk_eq ?_)
   refine .rg hmix rfl rfl (RegV.p0 rfl rfl rfl ?_)
   refine RegV.p0 rfl rfl rfl (RegV.nil0 ?_)
   exact ⟨((List.take y53_1 y53_3).length,y85_1,y85_3),h53,⟨rfl,[],[(1,2)],rfl,rfl,⟨⟨_,rfl,(.refl _)⟩,rfl,⟨⟨_,rfl,(.refl _)⟩,rfl,⟨⟨_,rfl,(.refl _)⟩,rfl,trivial⟩⟩⟩,⟨⟨_,rfl,(.refl _)⟩,rfl,rfl,⟨⟨_,rfl,(.refl _)⟩,rfl,rfl,trivial⟩⟩⟩⟩
 have h53:=cond_neg c60 h53
 cases h53
 dsimp only at h
 refine .exit (inBlk_eq ?_)
 refine .seq (.rg hmix rfl rfl ?_)
 refine RegV.p0 rfl rfl rfl (RegV.p0 rfl rfl rfl ?_)
 refine RegV.nil0 ?_
 obtain ⟨bs1,h⟩:=gd_some h
 refine .sealB (l0:=1) (xs:=y53_3) (l':=[(2,(.d (.sl (List.map (D.int .i64) (List.take y53_1 y53_3)))))]) (H':=[(0,(.cells [(.d (.sl (List.map TNode.enc a0.fNodes)))])),(1,(.tok (y53_3.length * 1)))]) (int_ok _) rfl (.inr rfl) ⟨⟨_,rfl,(.row bs1)⟩,trivial⟩ rfl ?_
 have hr:=Option.some.inj h
 subst hr
 exact .ret (canQ (N:=55) (k:=0) (l':=[(2,(.d (.sl (List.map (D.int .i64) (List.take y53_1 y53_3)))))]) (H':=[]) rfl ⟨rfl,[],[],rfl,rfl,⟨⟨_,rfl,(.refl _)⟩,rfl,trivial⟩, trivial⟩ (doneA (.inr rfl) rfl ⟨trivial,trivial⟩ (.refl _) hasNil))
def f307_l18 (r15:(List Int)):Nat→(List Bool)→Int→Option (LR2 (List Bool) Unit (List Bool))
  | 0,_,_=>none
  | k + 1,y18_1,y18_2=>cond (decide (y18_2 < ((r15.length:Nat):Int))) (gd (0≤y18_2∧y18_2 < ((r15.length:Nat):Int)) (gd ((y18_1.length + ([(decide ((rd r15 y18_2)≠(-1:Int)))]:List Bool).length) * 2 * 1≤281474976710656) (f307_l18 r15 k (y18_1 ++ ([(decide ((rd r15 y18_2)≠(-1:Int)))]:List Bool)) (IntKind.i64.wrap (y18_2 + (1:Int)))))) (some (.b0 y18_1))
def f307 (k:Nat) (a0:TSchema):Option (List Bool):=(f250 k a0).bind fun r15=>(f307_l18 r15 k ([]:List Bool) (0:Int)).bind fun o18=>(match o18 with | .b0 x18_1=>some x18_1 | _=>none)
theorem F307 {k:Nat} {a0:TSchema} {r:(List Bool)} (h:f307 k a0 = some r) :
    ACalls Tryd.prog 37 [(.d (TSchema.enc a0))] [] (.ap 0 1 (List.map D.bool r)) [(0,(.tok ((List.map D.bool r).length * 1)))]:=by
 refine acalls_ret ⟨_,Tryd.func37,by kernel_rfl,by kernel_rfl,rfl⟩ 0 1 1 [(2,(.ap 0 1 (List.map D.bool r)))] [(0,(.tok ((List.map D.bool r).length * 1)))] (doneA (.inr rfl) rfl ⟨trivial,trivial⟩ (.refl _) (hasCons rfl hasNil)) ?_
 unfold f307 at h
 refine .seq (.e [] ?_)
 refine .seq (.e [] ?_)
 refine .seq (.seq ?_)
 obtain ⟨r15,e15,h⟩:=bind_some h
 refine .e [.call (F250 e15) [] 0,.ln (D.int .i64) r15] ?_
 obtain ⟨o18,h18,h⟩:=bind_some h
 refine .block (.lp 1 (fun k (x:((List Bool)×Int))=>f307_l18 r15 k x.1 x.2 = some o18) (fun x=>[(3,(.ap 0 1 (List.map D.bool x.1))),(7,(.d (.sl (List.map (D.int .i64) r15)))),(8,(.d (.int .i64 ((r15.length:Nat):Int)))),(9,(.d (.int .i64 x.2)))]) (fun x=>[(0,(.tok ((List.map D.bool x.1).length * 1)))]) (_,_) h18 [(0,1)] [.tok 0] ?_)
 rintro k ⟨y18_1,y18_2⟩ h18
 dsimp only at h18 ⊢
 rw [f307_l18] at h18
 refine .seq (.e [] ?_)
 refine .seq (.cD h18 (fun h18=>?_) fun h18=>?_)
 · cases h18
   dsimp only at h
   refine .exit (inBlk_eq ?_)
   refine .seq (.e [] ?_)
   cases h
   exact .ret rz
 refine .skip (.seq ?_)
 refine .block (.seq ?_)
 obtain ⟨b33,h18⟩:=gd_some h18
 refine .e [.iad (D.int .i64) r15 1 (fun _=>rfl) b33] ?_
 obtain ⟨b42,h18⟩:=gd_some h18
 refine .e [.apA D.bool y18_1 ([(decide ((rd r15 y18_2)≠(-1:Int)))]:List Bool) 1 (fun _=>rfl) b42] (.e [] ?_)
 exact ⟨(_,_),h18,(inT [(0,1)] [])⟩
def f490 (k:Nat) (a0:(List TNode)) (a1:(List TNode)) (a2:(List Bool)) (a3:(PM Tcheck_pair (List Tcheck_pair))) (a4:(PM Tcheck_pair Int)) (a5:Tcheck_pair):Option Bool:=cond (decide (a5.fi ≥ (0:Int))) (cond (decide (a5.fi < ((a2.length:Nat):Int))) (gd (0≤a5.fi∧a5.fi < ((a2.length:Nat):Int)) (some (rd a2 a5.fi))) (some false)) (some false)
theorem F490 {k:Nat} {a0:(List TNode)} {a1:(List TNode)} {a2:(List Bool)} {a3:(PM Tcheck_pair (List Tcheck_pair))} {a4:(PM Tcheck_pair Int)} {a5:Tcheck_pair} {r:Bool} (h:f490 k a0 a1 a2 a3 a4 a5 = some r) :
    ACalls Tryd.prog 58 [(.ptr 0 0),(.d (Tcheck_pair.enc a5))] [(0,(.cells [(.d (.sl (List.map TNode.enc a0))),(.d (.sl (List.map TNode.enc a1))),(.ap 1 1 (List.map D.bool a2)),.nils,(.mp 2),(.mp 3)])),(1,(.tok ((List.map D.bool a2).length * 1))),(2,(pmO Tcheck_pair.enc (slE Tcheck_pair.enc) a3)),(3,(pmO Tcheck_pair.enc (D.int .i64) a4))] (.d (.bool r)) [(0,(.cells [(.d (.sl (List.map TNode.enc a0))),(.d (.sl (List.map TNode.enc a1))),(.ap 1 1 (List.map D.bool a2)),.nils,(.mp 2),(.mp 3)])),(2,(pmO Tcheck_pair.enc (slE Tcheck_pair.enc) a3)),(3,(pmO Tcheck_pair.enc (D.int .i64) a4)),(1,(.tok ((List.map D.bool a2).length * 1)))]:=by
 refine acalls_ret ⟨_,Tryd.func58,by kernel_rfl,by kernel_rfl,rfl⟩ 4 4 4 [(4,(.d (.bool r)))] [(0,(.cells [(.d (.sl (List.map TNode.enc a0))),(.d (.sl (List.map TNode.enc a1))),(.ap 1 1 (List.map D.bool a2)),.nils,(.mp 2),(.mp 3)])),(2,(pmO Tcheck_pair.enc (slE Tcheck_pair.enc) a3)),(3,(pmO Tcheck_pair.enc (D.int .i64) a4)),(1,(.tok ((List.map D.bool a2).length * 1)))] (doneA (.inr rfl) rfl ⟨trivial,trivial⟩ (.refl _) (hasCons rfl (hasCons rfl (hasCons rfl (hasCons rfl hasNil))))) ?_
 unfold f490 at h
 refine .seq (.e [] ?_)
 refine .seq ?_
 rcases cc h with ⟨c12,h⟩ | ⟨c12,h⟩
 · rcases cc h with ⟨c22,h⟩ | ⟨c22,h⟩
   · obtain ⟨b29,h⟩:=gd_some h
     refine .e [.br c12,.ln D.bool a2,.br c22,.iad D.bool a2 1 (fun _=>rfl) b29] ?_
     cases h
     exact .ret rz
   refine .e [.br c12,.ln D.bool a2,.br c22] ?_
   cases h
   exact .ret rz
 refine .e [.br c12,.br (rfl:false = false)] ?_
 cases h
 exact .ret rz
def f232_j20 (k:Nat) (a1:Int) (a0:TSchema) (j20_1:Bool):Option (Bool×Int×(List UInt8)×(List (List UInt8))×(List TField)×(List (List UInt8))×Bool×(List UInt8)×Int×(List Int)×Int):=cond j20_1 (some (false,(0:Int),([]:List UInt8),([]:List (List UInt8)),([]:List TField),([]:List (List UInt8)),false,([]:List UInt8),(0:Int),([]:List Int),(0:Int))) (gd (0≤a1∧a1 < ((a0.fNodes.length:Nat):Int)) (some (true,(rd a0.fNodes a1).fKind,(rd a0.fNodes a1).fName,(rd a0.fNodes a1).fAliases,(rd a0.fNodes a1).fFields,(rd a0.fNodes a1).fSymbols,(rd a0.fNodes a1).fHas,(rd a0.fNodes a1).fDefault,(rd a0.fNodes a1).fItems,(rd a0.fNodes a1).fBranches,(rd a0.fNodes a1).fSize)))
def f232 (k:Nat) (a0:TSchema) (a1:Int):Option (Bool×Int×(List UInt8)×(List (List UInt8))×(List TField)×(List (List UInt8))×Bool×(List UInt8)×Int×(List Int)×Int):=cond (decide (a1 < (0:Int))) (f232_j20 k a1 a0 true) (f232_j20 k a1 a0 (decide (a1 ≥ ((a0.fNodes.length:Nat):Int))))
theorem F232 {k:Nat} {a0:TSchema} {a1:Int} {r:(Bool×Int×(List UInt8)×(List (List UInt8))×(List TField)×(List (List UInt8))×Bool×(List UInt8)×Int×(List Int)×Int)} (h:f232 k a0 a1 = some r) :
    ACalls Tryd.prog 105 [(.d (TSchema.enc a0)),(.d (.int .i64 a1))] [] (.tup [(.d (.agg [(.int .i64 r.2.1),(.str r.2.2.1),(.sl (List.map D.str r.2.2.2.1)),(.sl (List.map TField.enc r.2.2.2.2.1)),(.sl (List.map D.str r.2.2.2.2.2.1)),(.bool r.2.2.2.2.2.2.1),(.str r.2.2.2.2.2.2.2.1),(.int .i64 r.2.2.2.2.2.2.2.2.1),(.sl (List.map (D.int .i64) r.2.2.2.2.2.2.2.2.2.1)),(.int .i64 r.2.2.2.2.2.2.2.2.2.2)])),(.d (.bool r.1))]) []:=by
 refine acalls_ret ⟨_,Tryd.func105,by kernel_rfl,by kernel_rfl,rfl⟩ 0 0 1 [(4,(.ptr 0 0)),(5,(.d (.bool r.1)))] [(0,(.cells [(.d (.int .i64 r.2.1)),(.d (.str r.2.2.1)),(.d (.sl (List.map D.str r.2.2.2.1))),(.d (.sl (List.map TField.enc r.2.2.2.2.1))),(.d (.sl (List.map D.str r.2.2.2.2.2.1))),(.d (.bool r.2.2.2.2.2.2.1)),(.d (.str r.2.2.2.2.2.2.2.1)),(.d (.int .i64 r.2.2.2.2.2.2.2.2.1)),(.d (.sl (List.map (D.int .i64) r.2.2.2.2.2.2.2.2.2.1))),(.d (.int .i64 r.2.2.2.2.2.2.2.2.2.2))]))] (doneA (.inr rfl) rfl ⟨(Nat.le_of_ble_eq_true rfl),⟨trivial,trivial⟩⟩ (.refl _) hasNil) ?_
 unfold f232 at h
 refine .seq (.e [] ?_)
 refine .seq (.j 2 (fun z=>f232_j20 k a1 a0 z = some r) (fun z=>[(1,(.d (.int .i64 a1))),(2,(.ptr 0 0)),(4,(.ptr 1 0)),(14,(.d (.bool z)))]) (fun z=>[(0,(.cells [(.d (.sl (List.map TNode.enc a0.fNodes)))])),(1,(.cells [(.d (.int .i64 (0:Int))),(.d (.str ([]:List UInt8))),.nils,.nils,.nils,(.d (.bool false)),(.d (.str ([]:List UInt8))),(.d (.int .i64 (0:Int))),.nils,(.d (.int .i64 (0:Int)))]))]) ?_ ?_)
 · rcases cc h with ⟨c13,h⟩ | ⟨c13,h⟩
   · exact .e [.br c13] ⟨_,h,inZ⟩
   exact .e [.br c13,.ln TNode.enc a0.fNodes] ⟨_,h,inZ⟩
 intro j20_1 h
 unfold f232_j20 at h
 refine .cB h (fun h=>?_) fun h=>?_
 · refine .seq (.e [] ?_)
   cases h
   exact .ret (rq [(0,1)] [])
 refine .skip (.seq ?_)
 obtain ⟨b35,h⟩:=gd_some h
 refine .e [.iad TNode.enc a0.fNodes 10 (fun _=>rfl) b35] ?_
 cases h
 exact .ret (rq [(0,1)] [])
def f238_l13 (a0:(List UInt8)) (a1:UInt8):Nat→Int→Option (LR2 Unit Unit Int)
  | 0,_=>none
  | k + 1,y13_1=>cond (decide (y13_1 ≥ (0:Int))) (gd (0≤y13_1∧y13_1 < ((a0.length:Nat):Int)) (cond (decide ((((a0.getD (y13_1).toNat 0).toNat:Nat):Int) = ((a1.toNat:Nat):Int))) (some (.r y13_1)) (f238_l13 a0 a1 k (IntKind.i64.wrap (y13_1 - (1:Int)))))) (some (.b0 ()))
def f238 (k:Nat) (a0:(List UInt8)) (a1:UInt8):Option Int:=(f238_l13 a0 a1 k (IntKind.i64.wrap (((a0.length:Nat):Int) - (1:Int)))).bind fun o13=>(match o13 with | .b0 ()=>some (-1:Int) | .r x=>some x | _=>none)
theorem F238 {k:Nat} {a0:(List UInt8)} {a1:UInt8} {r:Int} (h:f238 k a0 a1 = some r) :
    ACalls Tryd.prog 127 [(.d (.str a0)),(.d (.int .u8 ((a1.toNat:Nat):Int)))] [] (.d (.int .i64 r)) []:=by
 refine acalls_ret ⟨_,Tryd.func127,by kernel_rfl,by kernel_rfl,rfl⟩ 0 0 0 [(4,(.d (.int .i64 r)))] [] (doneA (.inr rfl) rfl ⟨trivial,trivial⟩ (.refl _) hasNil) ?_
 unfold f238 at h
 refine .seq (.e [] ?_)
 refine .seq (.seq ?_)
 refine .e [] ?_
 obtain ⟨o13,h13,h⟩:=bind_some h
 refine .block (.lp 0 (fun k (x:Int)=>f238_l13 a0 a1 k x = some o13) (fun x=>[(0,(.d (.str a0))),(1,(.d (.int .u8 ((a1.toNat:Nat):Int)))),(5,(.d (.int .i64 x)))]) (fun x=>[]) _ h13 [] [] ?_)
 intro k y13_1 h13
 rw [f238_l13] at h13
 refine .seq (.seq ?_)
 refine .e [] (.cD h13 (fun h13=>?_) fun h13=>?_)
 · cases h13
   dsimp only at h
   refine .exit (inBlk_eq ?_)
   refine .seq (.e [] ?_)
   cases h
   exact .ret rz
 refine .skip (.seq ?_)
 refine .block (.seq ?_)
 obtain ⟨b31,h13⟩:=gd_some h13
 refine .e [.sd b31] (.cD h13 (fun h13=>?_) fun h13=>?_)
 · refine .skip (.e [] ?_)
   exact ⟨_,h13,inZ⟩
 refine .seq (.e [] ?_)
 cases h13
 dsimp only at h
 cases h
 exact .ret rz
def f237 (k:Nat) (a0:(List UInt8)) (a1:UInt8):Option Int:=(f238 k a0 a1).bind fun r10=>some r10
theorem F237 {k:Nat} {a0:(List UInt8)} {a1:UInt8} {r:Int} (h:f237 k a0 a1 = some r) :
    ACalls Tryd.prog 126 [(.d (.str a0)),(.d (.int .u8 ((a1.toNat:Nat):Int)))] [] (.d (.int .i64 r)) []:=by
 refine acalls_ret ⟨_,Tryd.func126,by kernel_rfl,by kernel_rfl,rfl⟩ 0 0 0 [(4,(.d (.int .i64 r)))] [] (doneA (.inr rfl) rfl ⟨trivial,trivial⟩ (.refl _) hasNil) ?_
 unfold f237 at h
 refine .seq (.e [] ?_)
 refine .seq ?_
 obtain ⟨r10,e10,h⟩:=bind_some h
 refine .e [.call (F238 e10) [] 0] ?_
 cases h
 exact .ret rz
def f236 (k:Nat) (a0:(List UInt8)):Option ((List UInt8)×(List UInt8)):=(f237 k a0 (46:UInt8)).bind fun r10=>cond (decide (r10 < (0:Int))) (some (([]:List UInt8),a0)) (gd (0≤(0:Int)∧(0:Int)≤r10∧r10≤((a0.length:Nat):Int)) (gd (0≤(IntKind.i64.wrap (r10 + (1:Int)))∧(IntKind.i64.wrap (r10 + (1:Int)))≤((a0.length:Nat):Int)∧((a0.length:Nat):Int)≤((a0.length:Nat):Int)) (some ((sl a0 (0:Int) r10),(sl a0 (IntKind.i64.wrap (r10 + (1:Int))) ((a0.length:Nat):Int))))))
theorem F236 {k:Nat} {a0:(List UInt8)} {r:((List UInt8)×(List UInt8))} (h:f236 k a0 = some r) :
    ACalls Tryd.prog 125 [(.d (.str a0))] [] (.tup [(.d (.str r.1)),(.d (.str r.2))]) []:=by
 refine acalls_ret ⟨_,Tryd.func125,by kernel_rfl,by kernel_rfl,rfl⟩ 0 0 0 [(2,(.d (.str r.1))),(3,(.d (.str r.2)))] [] (doneA (.inr rfl) rfl ⟨trivial,⟨trivial,trivial⟩⟩ (.refl _) hasNil) ?_
 unfold f236 at h
 refine .seq (.e [] ?_)
 refine .seq ?_
 obtain ⟨r10,e10,h⟩:=bind_some h
 refine .e [.call (F237 e10) [] 0] (.seq ?_)
 refine .seq (.e [] ?_)
 refine .cB h (fun h=>?_) fun h=>?_
 · refine .seq (.e [] ?_)
   cases h
   exact .ret rz
 refine .skip (.seq ?_)
 obtain ⟨b32,h⟩:=gd_some h
 obtain ⟨b36,h⟩:=gd_some h
 refine .e [.sd b32,.sd b36] ?_
 cases h
 exact .ret rz
def f235 (k:Nat) (a0:(List UInt8)):Option (List UInt8):=(f236 k a0).bind fun r9=>some r9.2
theorem F235 {k:Nat} {a0:(List UInt8)} {r:(List UInt8)} (h:f235 k a0 = some r) :
    ACalls Tryd.prog 123 [(.d (.str a0))] [] (.d (.str r)) []:=by
 refine acalls_ret ⟨_,Tryd.func123,by kernel_rfl,by kernel_rfl,rfl⟩ 0 0 0 [(2,(.d (.str r)))] [] (doneA (.inr rfl) rfl ⟨trivial,trivial⟩ (.refl _) hasNil) ?_
 unfold f235 at h
 refine .seq (.e [] ?_)
 refine .seq ?_
 obtain ⟨r9,e9,h⟩:=bind_some h
 refine .e [.call (F236 e9) [] 0] (.seq ?_)
 refine .e [] ?_
 cases h
 exact .ret rz
def f240_l12 (a0:(List (List UInt8))) (a1:(List UInt8)):Nat→Int→Option (LR2 Unit Unit Int)
  | 0,_=>none
  | k + 1,y12_1=>cond (decide (y12_1 < ((a0.length:Nat):Int))) (gd (0≤y12_1∧y12_1 < ((a0.length:Nat):Int)) (cond (decide (a1 = (rd a0 y12_1))) (some (.r y12_1)) (f240_l12 a0 a1 k (IntKind.i64.wrap (y12_1 + (1:Int)))))) (some (.b0 ()))
def f240 (k:Nat) (a0:(List (List UInt8))) (a1:(List UInt8)):Option Int:=(f240_l12 a0 a1 k (0:Int)).bind fun o12=>(match o12 with | .b0 ()=>some (-1:Int) | .r x=>some x | _=>none)
theorem F240 {k:Nat} {a0:(List (List UInt8))} {a1:(List UInt8)} {r:Int} (h:f240 k a0 a1 = some r) :
    ACalls Tryd.prog 108 [(.d (.sl (List.map D.str a0))),(.d (.str a1))] [] (.d (.int .i64 r)) []:=by
 refine acalls_ret ⟨_,Tryd.func108,by kernel_rfl,by kernel_rfl,rfl⟩ 0 0 0 [(4,(.d (.int .i64 r)))] [] (doneA (.inr rfl) rfl ⟨trivial,trivial⟩ (.refl _) hasNil) ?_
 unfold f240 at h
 refine .seq (.e [] ?_)
 refine .seq (.seq ?_)
 refine .e [.ln D.str a0] ?_
 obtain ⟨o12,h12,h⟩:=bind_some h
 refine .block (.lp 0 (fun k (x:Int)=>f240_l12 a0 a1 k x = some o12) (fun x=>[(0,(.d (.sl (List.map D.str a0)))),(1,(.d (.str a1))),(7,(.d (.int .i64 ((a0.length:Nat):Int)))),(8,(.d (.int .i64 x)))]) (fun x=>[]) _ h12 [] [] ?_)
 intro k y12_1 h12
 rw [f240_l12] at h12
 refine .seq (.e [] ?_)
 refine .seq (.cD h12 (fun h12=>?_) fun h12=>?_)
 · cases h12
   dsimp only at h
   refine .exit (inBlk_eq ?_)
   refine .seq (.e [] ?_)
   cases h
   exact .ret rz
 refine .skip (.seq ?_)
 refine .block (.seq ?_)
 refine .e [] (.seq ?_)
 obtain ⟨b35,h12⟩:=gd_some h12
 refine .e [.iad D.str a0 1 (fun _=>rfl) b35] (.cD h12 (fun h12=>?_) fun h12=>?_)
 · refine .skip (.e [] ?_)
   exact ⟨_,h12,inZ⟩
 refine .seq (.e [] ?_)
 cases h12
 dsimp only at h
 cases h
 exact .ret rz
def f239 (k:Nat) (a0:(List (List UInt8))) (a1:(List UInt8)):Option Bool:=(f240 k a0 a1).bind fun r10=>some (decide (r10 ≥ (0:Int)))
theorem F239 {k:Nat} {a0:(List (List UInt8))} {a1:(List UInt8)} {r:Bool} (h:f239 k a0 a1 = some r) :
    ACalls Tryd.prog 88 [(.d (.sl (List.map D.str a0))),(.d (.str a1))] [] (.d (.bool r)) []:=by
 refine acalls_ret ⟨_,Tryd.func88,by kernel_rfl,by kernel_rfl,rfl⟩ 0 0 0 [(4,(.d (.bool r)))] [] (doneA (.inr rfl) rfl ⟨trivial,trivial⟩ (.refl _) hasNil) ?_
 unfold f239 at h
 refine .seq (.e [] ?_)
 refine .seq ?_
 obtain ⟨r10,e10,h⟩:=bind_some h
 refine .e [.call (F240 e10) [] 0] ?_
 cases h
 exact .ret rz
def f234 (k:Nat) (a0:TNode) (a1:TNode):Option Bool:=(f235 k a0.fName).bind fun r12=>(f235 k a1.fName).bind fun r15=>cond (decide (r12 = r15)) (some true) ((f239 k a1.fAliases a0.fName).bind fun r22=>some r22)
theorem F234 {k:Nat} {a0:TNode} {a1:TNode} {r:Bool} (h:f234 k a0 a1 = some r) :
    ACalls Tryd.prog 118 [(.d (TNode.enc a0)),(.d (TNode.enc a1))] [] (.d (.bool r)) []:=by
 refine acalls_ret ⟨_,Tryd.func118,by kernel_rfl,by kernel_rfl,rfl⟩ 0 0 0 [(4,(.d (.bool r)))] [] (doneA (.inr rfl) rfl ⟨trivial,trivial⟩ (.refl _) hasNil) ?_
 unfold f234 at h
 refine .seq (.e [] ?_)
 refine .seq ?_
 obtain ⟨r12,e12,h⟩:=bind_some h
 obtain ⟨r15,e15,h⟩:=bind_some h
 rcases cc h with ⟨c17,h⟩ | ⟨c17,h⟩
 · refine .e [.call (F235 e12) [] 0,.call (F235 e15) [] 0,.br c17] ?_
   cases h
   exact .ret rz
 obtain ⟨r22,e22,h⟩:=bind_some h
 refine .e [.call (F235 e12) [] 0,.call (F235 e15) [] 0,.br c17,.call (F239 e22) [] 0] ?_
 cases h
 exact .ret rz
def f233_j54 (k:Nat) (a0:TNode) (a1:TNode) (j54_1:Bool):Option Bool:=cond j54_1 ((f234 k a0 a1).bind fun r60=>some r60) (cond (decide (a0.fKind = (14:Int))) ((f234 k a0 a1).bind fun r76=>cond r76 (some (decide (a0.fSize = a1.fSize))) (some false)) (some true))
def f233 (k:Nat) (a0:TNode) (a1:TNode):Option Bool:=cond (decide (a0.fKind≠a1.fKind)) (cond (decide (a0.fKind = (3:Int))) (cond (decide (a1.fKind = (4:Int))) (some true) (cond (decide (a0.fKind = (8:Int))) (some (decide (a1.fKind = (7:Int)))) (some false))) (cond (decide (a0.fKind = (8:Int))) (some (decide (a1.fKind = (7:Int)))) (some false))) (cond (decide (a0.fKind = (9:Int))) (f233_j54 k a0 a1 true) (f233_j54 k a0 a1 (decide (a0.fKind = (10:Int)))))
theorem F233 {k:Nat} {a0:TNode} {a1:TNode} {r:Bool} (h:f233 k a0 a1 = some r) :
    ACalls Tryd.prog 106 [(.d (TNode.enc a0)),(.d (TNode.enc a1))] [] (.d (.bool r)) []:=by
 refine acalls_ret ⟨_,Tryd.func106,by kernel_rfl,by kernel_rfl,rfl⟩ 0 0 0 [(4,(.d (.bool r)))] [] (doneA (.inr rfl) rfl ⟨trivial,trivial⟩ (.refl _) hasNil) ?_
 unfold f233 at h
 refine .seq (.e [] ?_)
 refine .seq (.block ?_)
 refine .seq (.e [] ?_)
 refine .cB h (fun h=>?_) fun h=>?_
 · refine .seq ?_
   rcases cc h with ⟨c25,h⟩ | ⟨c25,h⟩
   · rcases cc h with ⟨c30,h⟩ | ⟨c30,h⟩
     · refine .e [.br c25,.br c30] ?_
       cases h
       exact .ret rz
     rcases cc h with ⟨c34,h⟩ | ⟨c34,h⟩
     · refine .e [.br c25,.br c30,.br c34] ?_
       cases h
       exact .ret rz
     refine .e [.br c25,.br c30,.br c34] ?_
     cases h
     exact .ret rz
   rcases cc h with ⟨c34,h⟩ | ⟨c34,h⟩
   · refine .e [.br c25,.br (rfl:false = false),.br c34] ?_
     cases h
     exact .ret rz
   refine .e [.br c25,.br (rfl:false = false),.br c34] ?_
   cases h
   exact .ret rz
 refine .j 2 (fun z=>f233_j54 k a0 a1 z = some r) (fun z=>[(2,(.ptr 0 0)),(3,(.ptr 1 0)),(29,(.d (.bool z)))]) (fun z=>[(0,(.cells [(.d (.int .i64 a0.fKind)),(.d (.str a0.fName)),(.d (.sl (List.map D.str a0.fAliases))),(.d (.sl (List.map TField.enc a0.fFields))),(.d (.sl (List.map D.str a0.fSymbols))),(.d (.bool a0.fHas)),(.d (.str a0.fDefault)),(.d (.int .i64 a0.fItems)),(.d (.sl (List.map (D.int .i64) a0.fBranches))),(.d (.int .i64 a0.fSize))])),(1,(.cells [(.d (.int .i64 a1.fKind)),(.d (.str a1.fName)),(.d (.sl (List.map D.str a1.fAliases))),(.d (.sl (List.map TField.enc a1.fFields))),(.d (.sl (List.map D.str a1.fSymbols))),(.d (.bool a1.fHas)),(.d (.str a1.fDefault)),(.d (.int .i64 a1.fItems)),(.d (.sl (List.map (D.int .i64) a1.fBranches))),(.d (.int .i64 a1.fSize))]))]) ?_ ?_
 · rcases cc h with ⟨c48,h⟩ | ⟨c48,h⟩
   · exact .e [.br c48] ⟨_,h,inZ⟩
   exact .e [.br c48] ⟨_,h,inZ⟩
 intro j54_1 h
 unfold f233_j54 at h
 refine .cB h (fun h=>?_) fun h=>?_
 · refine .seq ?_
   obtain ⟨r60,e60,h⟩:=bind_some h
   refine .e [.call (F234 e60) [] 0] ?_
   cases h
   exact .ret rz
 refine .seq (.e [] ?_)
 refine .cD h (fun h=>?_) fun h=>?_
 · refine .skip (.seq ?_)
   refine .e [] ?_
   cases h
   exact .ret rz
 refine .seq ?_
 obtain ⟨r76,e76,h⟩:=bind_some h
 rcases cc h with ⟨c77,h⟩ | ⟨c77,h⟩
 · refine .e [.call (F234 e76) [] 0,.br c77] ?_
   cases h
   exact .ret rz
 refine .e [.call (F234 e76) [] 0,.br c77] ?_
 cases h
 exact .ret rz
def f231_j126 (L:Int→Int→Int→Option (LR2 Unit Unit Bool)) (k:Nat) (r37:(Bool×Int×(List UInt8)×(List (List UInt8))×(List TField)×(List (List UInt8))×Bool×(List UInt8)×Int×(List Int)×Int)) (r49:(Bool×Int×(List UInt8)×(List (List UInt8))×(List TField)×(List (List UInt8))×Bool×(List UInt8)×Int×(List Int)×Int)) (y20_3:Int):Option (LR2 Unit Unit Bool):=L r37.2.2.2.2.2.2.2.2.1 r49.2.2.2.2.2.2.2.2.1 (IntKind.i64.wrap (y20_3 + (1:Int)))
def f231_l20 (a0:TSchema) (a2:TSchema):Nat→Int→Int→Int→Option (LR2 Unit Unit Bool)
  | 0,_,_,_=>none
  | k + 1,y20_1,y20_2,y20_3=>cond (decide (y20_3 < (IntKind.i64.wrap ((IntKind.i64.wrap (((a0.fNodes.length:Nat):Int) * ((a2.fNodes.length:Nat):Int))) + (1:Int))))) ((f232 k a0 y20_1).bind fun r37=>(f232 k a2 y20_2).bind fun r49=>cond (!r37.1) (some (.r false)) (cond (!r49.1) (some (.r false)) (cond (decide (r37.2.1 = (13:Int))) (some (.r true)) (cond (decide (r49.2.1 = (13:Int))) (some (.r true)) ((f233 k (TNode.mk r37.2.1 r37.2.2.1 r37.2.2.2.1 r37.2.2.2.2.1 r37.2.2.2.2.2.1 r37.2.2.2.2.2.2.1 r37.2.2.2.2.2.2.2.1 r37.2.2.2.2.2.2.2.2.1 r37.2.2.2.2.2.2.2.2.2.1 r37.2.2.2.2.2.2.2.2.2.2) (TNode.mk r49.2.1 r49.2.2.1 r49.2.2.2.1 r49.2.2.2.2.1 r49.2.2.2.2.2.1 r49.2.2.2.2.2.2.1 r49.2.2.2.2.2.2.2.1 r49.2.2.2.2.2.2.2.2.1 r49.2.2.2.2.2.2.2.2.2.1 r49.2.2.2.2.2.2.2.2.2.2)).bind fun r98=>cond (!r98) (some (.r false)) (cond (decide (r37.2.1≠(11:Int))) (cond (decide (r37.2.1≠(12:Int))) (some (.r true)) (f231_j126 (f231_l20 a0 a2 k) k r37 r49 y20_3)) (f231_j126 (f231_l20 a0 a2 k) k r37 r49 y20_3))))))) (some (.b0 ()))
def f231 (k:Nat) (a0:TSchema) (a1:Int) (a2:TSchema) (a3:Int):Option Bool:=(f231_l20 a0 a2 k a1 a3 (0:Int)).bind fun o20=>(match o20 with | .b0 ()=>some false | .r x=>some x | _=>none)
theorem F231 {k:Nat} {a0:TSchema} {a1:Int} {a2:TSchema} {a3:Int} {r:Bool} (h:f231 k a0 a1 a2 a3 = some r) :
    ACalls Tryd.prog 85 [(.d (TSchema.enc a0)),(.d (.int .i64 a1)),(.d (TSchema.enc a2)),(.d (.int .i64 a3))] [] (.d (.bool r)) []:=by
 refine acalls_ret ⟨_,Tryd.func85,by kernel_rfl,by kernel_rfl,rfl⟩ 0 0 0 [(8,(.d (.bool r)))] [] (doneA (.inr rfl) rfl ⟨trivial,trivial⟩ (.refl _) hasNil) ?_
 unfold f231 at h
 refine .seq (.e [] ?_)
 refine .seq (.seq ?_)
 refine .e [.ln TNode.enc a0.fNodes,.ln TNode.enc a2.fNodes] ?_
 obtain ⟨o20,h20,h⟩:=bind_some h
 refine .block (.lp 2 (fun k (x:(Int×Int×Int))=>f231_l20 a0 a2 k x.1 x.2.1 x.2.2 = some o20) (fun x=>[(1,(.d (.int .i64 x.1))),(3,(.d (.int .i64 x.2.1))),(4,(.ptr 0 0)),(6,(.ptr 1 0)),(20,(.d (.int .i64 (IntKind.i64.wrap ((IntKind.i64.wrap (((a0.fNodes.length:Nat):Int) * ((a2.fNodes.length:Nat):Int))) + (1:Int)))))),(21,(.d (.int .i64 x.2.2)))]) (fun x=>[(0,(.cells [(.d (.sl (List.map TNode.enc a0.fNodes)))])),(1,(.cells [(.d (.sl (List.map TNode.enc a2.fNodes)))]))]) (_,_,_) h20 [] [] ?_)
 rintro k ⟨y20_1,y20_2,y20_3⟩ h20
 dsimp only at h20 ⊢
 rw [f231_l20] at h20
 refine .seq (.e [] ?_)
 refine .seq (.cD h20 (fun h20=>?_) fun h20=>?_)
 · cases h20
   dsimp only at h
   refine .exit (inBlk_eq ?_)
   refine .seq (.e [] ?_)
   cases h
   exact .ret rz
 refine .skip (.seq ?_)
 refine .block (.seq ?_)
 obtain ⟨r37,e37,h20⟩:=bind_some h20
 refine .e [.call (F232 e37) [] 0] (.seq ?_)
 obtain ⟨r49,e49,h20⟩:=bind_some h20
 refine .e [.call (F232 e49) [] 0] (.seq ?_)
 refine .seq ?_
 rcases cc h20 with ⟨c62,h20⟩ | ⟨c62,h20⟩
 · refine .e [.br c62] (.cT rfl ?_)
   refine .seq (.e [] ?_)
   cases h20
   dsimp only at h
   cases h
   exact .ret rz
 refine .e [.br c62] (.cB h20 (fun h20=>?_) fun h20=>?_)
 · refine .seq (.e [] ?_)
   cases h20
   dsimp only at h
   cases h
   exact .ret rz
 refine .skip (.seq ?_)
 refine .seq ?_
 rcases cc h20 with ⟨c80,h20⟩ | ⟨c80,h20⟩
 · refine .e [.br c80] (.cT rfl ?_)
   refine .seq (.e [] ?_)
   cases h20
   dsimp only at h
   cases h
   exact .ret rz
 refine .e [.br c80] (.cB h20 (fun h20=>?_) fun h20=>?_)
 · refine .seq (.e [] ?_)
   cases h20
   dsimp only at h
   cases h
   exact .ret rz
 refine .skip (.seq ?_)
 refine .seq ?_
 obtain ⟨r98,e98,h20⟩:=bind_some h20
 refine .e [.call (F233 e98) [] 0] (.cB h20 (fun h20=>?_) fun h20=>?_)
 · refine .seq (.e [] ?_)
   cases h20
   dsimp only at h
   cases h
   exact .ret rz
 refine .skip (.j 4 (fun (z:Unit)=>f231_j126 (f231_l20 a0 a2 k) k r37 r49 y20_3 = some o20) (fun z=>[(4,(.ptr 0 0)),(6,(.ptr 1 0)),(9,(.ptr 2 0)),(11,(.ptr 3 0)),(20,(.d (.int .i64 (IntKind.i64.wrap ((IntKind.i64.wrap (((a0.fNodes.length:Nat):Int) * ((a2.fNodes.length:Nat):Int))) + (1:Int)))))),(21,(.d (.int .i64 y20_3))),(38,(.d (.bool r49.1))),(39,(.d (.bool (!r49.1)))),(45,(.ptr 3 0)),(46,(.d (.int .i64 r49.2.1))),(47,(.d (.bool (decide (r49.2.1 = (13:Int)))))),(57,.any),(58,.any),(59,.any)]) (fun z=>[(0,(.cells [(.d (.sl (List.map TNode.enc a0.fNodes)))])),(1,(.cells [(.d (.sl (List.map TNode.enc a2.fNodes)))])),(2,(.cells [(.d (.int .i64 r37.2.1)),(.d (.str r37.2.2.1)),(.d (.sl (List.map D.str r37.2.2.2.1))),(.d (.sl (List.map TField.enc r37.2.2.2.2.1))),(.d (.sl (List.map D.str r37.2.2.2.2.2.1))),(.d (.bool r37.2.2.2.2.2.2.1)),(.d (.str r37.2.2.2.2.2.2.2.1)),(.d (.int .i64 r37.2.2.2.2.2.2.2.2.1)),(.d (.sl (List.map (D.int .i64) r37.2.2.2.2.2.2.2.2.2.1))),(.d (.int .i64 r37.2.2.2.2.2.2.2.2.2.2))])),(3,(.cells [(.d (.int .i64 r49.2.1)),(.d (.str r49.2.2.1)),(.d (.sl (List.map D.str r49.2.2.2.1))),(.d (.sl (List.map TField.enc r49.2.2.2.2.1))),(.d (.sl (List.map D.str r49.2.2.2.2.2.1))),(.d (.bool r49.2.2.2.2.2.2.1)),(.d (.str r49.2.2.2.2.2.2.2.1)),(.d (.int .i64 r49.2.2.2.2.2.2.2.2.1)),(.d (.sl (List.map (D.int .i64) r49.2.2.2.2.2.2.2.2.2.1))),(.d (.int .i64 r49.2.2.2.2.2.2.2.2.2.2))]))]) ?_ ?_)
 · refine .seq ?_
   rcases cc h20 with ⟨c114,h20⟩ | ⟨c114,h20⟩
   · refine .e [.br c114] (.cD h20 (fun h20=>?_) fun h20=>?_)
     · exact .skip ⟨(),h20,inZ⟩
     refine .seq (.e [] ?_)
     cases h20
     dsimp only at h
     cases h
     exact .ret rz
   refine .e [.br c114] (.cF rfl ?_)
   exact .skip ⟨(),h20,inZ⟩
 rintro ⟨⟩ h20
 unfold f231_j126 at h20
 refine .e [] (.e [] ?_)
 exact ⟨(r37.2.2.2.2.2.2.2.2.1,r49.2.2.2.2.2.2.2.2.1,(IntKind.i64.wrap (y20_3 + (1:Int)))),h20,inZ⟩
def f241_l44 (r13:(Bool×Int×(List UInt8)×(List (List UInt8))×(List TField)×(List (List UInt8))×Bool×(List UInt8)×Int×(List Int)×Int)) (a0:TSchema) (a1:Int) (a2:TSchema):Nat→Int→Option (LR2 Unit Unit Int)
  | 0,_=>none
  | k + 1,y44_1=>cond (decide (y44_1 < ((r13.2.2.2.2.2.2.2.2.2.1.length:Nat):Int))) (gd (0≤y44_1∧y44_1 < ((r13.2.2.2.2.2.2.2.2.2.1.length:Nat):Int)) ((f231 k a0 a1 a2 (rd r13.2.2.2.2.2.2.2.2.2.1 y44_1)).bind fun r72=>cond (!r72) (f241_l44 r13 a0 a1 a2 k (IntKind.i64.wrap (y44_1 + (1:Int)))) (some (.r y44_1)))) (some (.b0 ()))
def f241 (k:Nat) (a0:TSchema) (a1:Int) (a2:TSchema) (a3:Int):Option Int:=(f232 k a2 a3).bind fun r13=>cond (decide (r13.2.1≠(13:Int))) (some (-1:Int)) ((f241_l44 r13 a0 a1 a2 k (0:Int)).bind fun o44=>(match o44 with | .b0 ()=>some (-1:Int) | .r x=>some x | _=>none))
theorem F241 {k:Nat} {a0:TSchema} {a1:Int} {a2:TSchema} {a3:Int} {r:Int} (h:f241 k a0 a1 a2 a3 = some r) :
    ACalls Tryd.prog 84 [(.d (TSchema.enc a0)),(.d (.int .i64 a1)),(.d (TSchema.enc a2)),(.d (.int .i64 a3))] [] (.d (.int .i64 r)) []:=by
 refine acalls_ret ⟨_,Tryd.func84,by kernel_rfl,by kernel_rfl,rfl⟩ 0 0 0 [(8,(.d (.int .i64 r)))] [] (doneA (.inr rfl) rfl ⟨trivial,trivial⟩ (.refl _) hasNil) ?_
 unfold f241 at h
 refine .seq (.e [] ?_)
 refine .scope (.seq ?_)
 obtain ⟨r13,e13,h⟩:=bind_some h
 refine .e [.call (F232 e13) [] 0] (.seq ?_)
 refine .seq (.e [] ?_)
 refine .cB h (fun h=>?_) fun h=>?_
 · refine .seq (.e [] ?_)
   cases h
   exact .ret rz
 refine .skip (.seq ?_)
 refine .label (.seq ?_)
 refine .seq (.e [.ln (D.int .i64) r13.2.2.2.2.2.2.2.2.2.1] ?_)
 obtain ⟨o44,h44,h⟩:=bind_some h
 refine .block (.lp 2 (fun k (x:Int)=>f241_l44 r13 a0 a1 a2 k x = some o44) (fun x=>[(1,(.d (.int .i64 a1))),(4,(.ptr 0 0)),(6,(.ptr 1 0)),(23,(.d (.sl (List.map (D.int .i64) r13.2.2.2.2.2.2.2.2.2.1)))),(24,(.d (.int .i64 ((r13.2.2.2.2.2.2.2.2.2.1.length:Nat):Int)))),(25,(.d (.int .i64 x)))]) (fun x=>[(0,(.cells [(.d (.sl (List.map TNode.enc a0.fNodes)))])),(1,(.cells [(.d (.sl (List.map TNode.enc a2.fNodes)))]))]) _ h44 [] [] ?_)
 intro k y44_1 h44
 rw [f241_l44] at h44
 refine .seq (.e [] ?_)
 refine .seq (.cD h44 (fun h44=>?_) fun h44=>?_)
 · cases h44
   dsimp only at h
   refine .exit (inBlk_eq ?_)
   refine .seq (.e [] ?_)
   cases h
   exact .ret rz
 refine .skip (.seq ?_)
 refine .block (.seq ?_)
 obtain ⟨b60,h44⟩:=gd_some h44
 refine .e [.iad (D.int .i64) r13.2.2.2.2.2.2.2.2.2.1 1 (fun _=>rfl) b60] (.seq ?_)
 refine .seq ?_
 obtain ⟨r72,e72,h44⟩:=bind_some h44
 refine .e [.call (F231 e72) [] 0] (.cB h44 (fun h44=>?_) fun h44=>?_)
 · refine .exit (inBlk_eq ?_)
   exact .e [] ⟨_,h44,inZ⟩
 refine .skip (.seq ?_)
 refine .e [] ?_
 cases h44
 dsimp only at h
 cases h
 exact .ret rz
def f494 (k:Nat) (a0:(List UInt8)) (a1:Int) (a2:(List UInt8)) (a3:(List (List UInt8))) (a4:(List TField)) (a5:(List (List UInt8))) (a6:Bool) (a7:(List UInt8)) (a8:Int) (a9:(List Int)) (a10:Int):Option Bool:=(f239 k a5 a0).bind fun r11=>some (!r11)
theorem F494 {k:Nat} {a0:(List UInt8)} {a1:Int} {a2:(List UInt8)} {a3:(List (List UInt8))} {a4:(List TField)} {a5:(List (List UInt8))} {a6:Bool} {a7:(List UInt8)} {a8:Int} {a9:(List Int)} {a10:Int} {r:Bool} (h:f494 k a0 a1 a2 a3 a4 a5 a6 a7 a8 a9 a10 = some r) :
    ACalls Tryd.prog 87 [(.d (.str a0)),(.ptr 0 0)] [(0,(.cells [(.d (.int .i64 a1)),(.d (.str a2)),(.d (.sl (List.map D.str a3))),(.d (.sl (List.map TField.enc a4))),(.d (.sl (List.map D.str a5))),(.d (.bool a6)),(.d (.str a7)),(.d (.int .i64 a8)),(.d (.sl (List.map (D.int .i64) a9))),(.d (.int .i64 a10))]))] (.d (.bool r)) [(0,(.cells [(.d (.int .i64 a1)),(.d (.str a2)),(.d (.sl (List.map D.str a3))),(.d (.sl (List.map TField.enc a4))),(.d (.sl (List.map D.str a5))),(.d (.bool a6)),(.d (.str a7)),(.d (.int .i64 a8)),(.d (.sl (List.map (D.int .i64) a9))),(.d (.int .i64 a10))]))]:=by
 refine acalls_ret ⟨_,Tryd.func87,by kernel_rfl,by kernel_rfl,rfl⟩ 1 1 1 [(3,(.d (.bool r)))] [(0,(.cells [(.d (.int .i64 a1)),(.d (.str a2)),(.d (.sl (List.map D.str a3))),(.d (.sl (List.map TField.enc a4))),(.d (.sl (List.map D.str a5))),(.d (.bool a6)),(.d (.str a7)),(.d (.int .i64 a8)),(.d (.sl (List.map (D.int .i64) a9))),(.d (.int .i64 a10))]))] (doneA (.inr rfl) rfl ⟨trivial,trivial⟩ (.refl _) (hasCons rfl hasNil)) ?_
 unfold f494 at h
 refine .seq (.e [] ?_)
 refine .seq ?_
 obtain ⟨r11,e11,h⟩:=bind_some h
 refine .e [.call (F239 e11) [] 0] ?_
 cases h
 exact .ret rz
def f493_l12 (a0:(List (List UInt8))) (a1:Int) (a2:(List UInt8)) (a3:(List (List UInt8))) (a4:(List TField)) (a5:(List (List UInt8))) (a6:Bool) (a7:(List UInt8)) (a8:Int) (a9:(List Int)) (a10:Int):Nat→Int→Option (LR2 Unit Unit Int)
  | 0,_=>none
  | k + 1,y12_1=>cond (decide (y12_1 < ((a0.length:Nat):Int))) (gd (0≤y12_1∧y12_1 < ((a0.length:Nat):Int)) ((f494 k (rd a0 y12_1) a1 a2 a3 a4 a5 a6 a7 a8 a9 a10).bind fun r37=>cond r37 (some (.r y12_1)) (f493_l12 a0 a1 a2 a3 a4 a5 a6 a7 a8 a9 a10 k (IntKind.i64.wrap (y12_1 + (1:Int)))))) (some (.b0 ()))
def f493 (k:Nat) (a0:(List (List UInt8))) (a1:Int) (a2:(List UInt8)) (a3:(List (List UInt8))) (a4:(List TField)) (a5:(List (List UInt8))) (a6:Bool) (a7:(List UInt8)) (a8:Int) (a9:(List Int)) (a10:Int):Option Int:=(f493_l12 a0 a1 a2 a3 a4 a5 a6 a7 a8 a9 a10 k (0:Int)).bind fun o12=>(match o12 with | .b0 ()=>some (-1:Int) | .r x=>some x | _=>none)
theorem F493 {k:Nat} {a0:(List (List UInt8))} {a1:Int} {a2:(List UInt8)} {a3:(List (List UInt8))} {a4:(List TField)} {a5:(List (List UInt8))} {a6:Bool} {a7:(List UInt8)} {a8:Int} {a9:(List Int)} {a10:Int} {r:Int} (h:f493 k a0 a1 a2 a3 a4 a5 a6 a7 a8 a9 a10 = some r) :
    ACalls Tryd.prog 107 [(.d (.sl (List.map D.str a0))),(.fn 87 [(.ptr 0 0)])] [(0,(.cells [(.d (.int .i64 a1)),(.d (.str a2)),(.d (.sl (List.map D.str a3))),(.d (.sl (List.map TField.enc a4))),(.d (.sl (List.map D.str a5))),(.d (.bool a6)),(.d (.str a7)),(.d (.int .i64 a8)),(.d (.sl (List.map (D.int .i64) a9))),(.d (.int .i64 a10))]))] (.d (.int .i64 r)) [(0,(.cells [(.d (.int .i64 a1)),(.d (.str a2)),(.d (.sl (List.map D.str a3))),(.d (.sl (List.map TField.enc a4))),(.d (.sl (List.map D.str a5))),(.d (.bool a6)),(.d (.str a7)),(.d (.int .i64 a8)),(.d (.sl (List.map (D.int .i64) a9))),(.d (.int .i64 a10))]))]:=by
 refine acalls_ret ⟨_,Tryd.func107,by kernel_rfl,by kernel_rfl,rfl⟩ 1 1 1 [(4,(.d (.int .i64 r)))] [(0,(.cells [(.d (.int .i64 a1)),(.d (.str a2)),(.d (.sl (List.map D.str a3))),(.d (.sl (List.map TField.enc a4))),(.d (.sl (List.map D.str a5))),(.d (.bool a6)),(.d (.str a7)),(.d (.int .i64 a8)),(.d (.sl (List.map (D.int .i64) a9))),(.d (.int .i64 a10))]))] (doneA (.inr rfl) rfl ⟨trivial,trivial⟩ (.refl _) (hasCons rfl hasNil)) ?_
 unfold f493 at h
 refine .seq (.e [] ?_)
 refine .seq (.seq ?_)
 refine .e [.ln D.str a0] ?_
 obtain ⟨o12,h12,h⟩:=bind_some h
 refine .block (.lp 1 (fun k (x:Int)=>f493_l12 a0 a1 a2 a3 a4 a5 a6 a7 a8 a9 a10 k x = some o12) (fun x=>[(0,(.d (.sl (List.map D.str a0)))),(1,(.fn 87 [(.ptr 0 0)])),(7,(.d (.int .i64 ((a0.length:Nat):Int)))),(8,(.d (.int .i64 x)))]) (fun x=>[(0,(.cells [(.d (.int .i64 a1)),(.d (.str a2)),(.d (.sl (List.map D.str a3))),(.d (.sl (List.map TField.enc a4))),(.d (.sl (List.map D.str a5))),(.d (.bool a6)),(.d (.str a7)),(.d (.int .i64 a8)),(.d (.sl (List.map (D.int .i64) a9))),(.d (.int .i64 a10))]))]) _ h12 [] [] ?_)
 intro k y12_1 h12
 rw [f493_l12] at h12
 refine .seq (.e [] ?_)
 refine .seq (.cD h12 (fun h12=>?_) fun h12=>?_)
 · cases h12
   dsimp only at h
   refine .exit (inBlk_eq ?_)
   refine .seq (.e [] ?_)
   cases h
   exact .ret rz
 refine .skip (.seq ?_)
 refine .block (.seq ?_)
 refine .e [] (.seq ?_)
 obtain ⟨b35,h12⟩:=gd_some h12
 obtain ⟨r37,e37,h12⟩:=bind_some h12
 refine .e [.iad D.str a0 1 (fun _=>rfl) b35,.cq (F494 e37) [] 1] (.cD h12 (fun h12=>?_) fun h12=>?_)
 · refine .skip (.e [] ?_)
   exact ⟨_,h12,inZ⟩
 refine .seq (.e [] ?_)
 cases h12
 dsimp only at h
 cases h
 exact .ret rz
def f492 (k:Nat) (a0:(List (List UInt8))) (a1:Int) (a2:(List UInt8)) (a3:(List (List UInt8))) (a4:(List TField)) (a5:(List (List UInt8))) (a6:Bool) (a7:(List UInt8)) (a8:Int) (a9:(List Int)) (a10:Int):Option Bool:=(f493 k a0 a1 a2 a3 a4 a5 a6 a7 a8 a9 a10).bind fun r10=>some (decide (r10 ≥ (0:Int)))
theorem F492 {k:Nat} {a0:(List (List UInt8))} {a1:Int} {a2:(List UInt8)} {a3:(List (List UInt8))} {a4:(List TField)} {a5:(List (List UInt8))} {a6:Bool} {a7:(List UInt8)} {a8:Int} {a9:(List Int)} {a10:Int} {r:Bool} (h:f492 k a0 a1 a2 a3 a4 a5 a6 a7 a8 a9 a10 = some r) :
    ACalls Tryd.prog 86 [(.d (.sl (List.map D.str a0))),(.fn 87 [(.ptr 0 0)])] [(0,(.cells [(.d (.int .i64 a1)),(.d (.str a2)),(.d (.sl (List.map D.str a3))),(.d (.sl (List.map TField.enc a4))),(.d (.sl (List.map D.str a5))),(.d (.bool a6)),(.d (.str a7)),(.d (.int .i64 a8)),(.d (.sl (List.map (D.int .i64) a9))),(.d (.int .i64 a10))]))] (.d (.bool r)) [(0,(.cells [(.d (.int .i64 a1)),(.d (.str a2)),(.d (.sl (List.map D.str a3))),(.d (.sl (List.map TField.enc a4))),(.d (.sl (List.map D.str a5))),(.d (.bool a6)),(.d (.str a7)),(.d (.int .i64 a8)),(.d (.sl (List.map (D.int .i64) a9))),(.d (.int .i64 a10))]))]:=by
 refine acalls_ret ⟨_,Tryd.func86,by kernel_rfl,by kernel_rfl,rfl⟩ 1 1 1 [(4,(.d (.bool r)))] [(0,(.cells [(.d (.int .i64 a1)),(.d (.str a2)),(.d (.sl (List.map D.str a3))),(.d (.sl (List.map TField.enc a4))),(.d (.sl (List.map D.str a5))),(.d (.bool a6)),(.d (.str a7)),(.d (.int .i64 a8)),(.d (.sl (List.map (D.int .i64) a9))),(.d (.int .i64 a10))]))] (doneA (.inr rfl) rfl ⟨trivial,trivial⟩ (.refl _) (hasCons rfl hasNil)) ?_
 unfold f492 at h
 refine .seq (.e [] ?_)
 refine .seq ?_
 obtain ⟨r10,e10,h⟩:=bind_some h
 refine .e [.cq (F493 e10) [] 1] ?_
 cases h
 exact .ret rz
def f260 (k:Nat) (a0:Int):Option Unit:=gd (0≤a0∧a0 * 16≤281474976710656) (some ())
theorem F260 {k:Nat} {a0:Int} {r:Unit} (h:f260 k a0 = some r) :
    ACalls Tryd.prog 124 [.nils,.d (.int .i64 a0)] [] (.ap 0 1 (List.map D.str ([]:List (List UInt8)))) [(0,(.tok ((List.map D.str ([]:List (List UInt8))).length * 1)))]:=by
  unfold f260 at h
  obtain ⟨⟨b,b'⟩,h⟩:=gd_some h
  exact grow_gen hmix ⟨_,Tryd.func124,by kernel_rfl,by kernel_rfl,rfl⟩ rfl rfl rfl b b' (by omega)
def f259_l70 (a0:(List (List (List UInt8)))):Nat→(List (List UInt8))→Int→Option (LR2 (List (List UInt8)) Unit (List (List UInt8)))
  | 0,_,_=>none
  | k + 1,y70_1,y70_2=>cond (decide (y70_2 < ((a0.length:Nat):Int))) (gd (0≤y70_2∧y70_2 < ((a0.length:Nat):Int)) (gd ((y70_1.length + (rd a0 y70_2).length) * 2 * 16≤281474976710656) (f259_l70 a0 k (y70_1 ++ (rd a0 y70_2)) (IntKind.i64.wrap (y70_2 + (1:Int)))))) (some (.b0 y70_1))
def f259_j57 (k:Nat) (a0:(List (List (List UInt8)))) (j57_1:Int):Option (List (List UInt8)):=(f260 k j57_1).bind fun r61=>(f259_l70 a0 k ([]:List (List UInt8)) (0:Int)).bind fun o70=>(match o70 with | .b0 x70_1=>some x70_1 | _=>none)
def f259_l16 (a0:(List (List (List UInt8)))):Nat→Int→Int→Option (LR2 Int Unit (List (List UInt8)))
  | 0,_,_=>none
  | k + 1,y16_1,y16_2=>cond (decide (y16_2 < ((a0.length:Nat):Int))) (gd (0≤y16_2∧y16_2 < ((a0.length:Nat):Int)) (cond (decide ((IntKind.i64.wrap (y16_1 + (((rd a0 y16_2).length:Nat):Int))) < (0:Int))) (none) (f259_l16 a0 k (IntKind.i64.wrap (y16_1 + (((rd a0 y16_2).length:Nat):Int))) (IntKind.i64.wrap (y16_2 + (1:Int)))))) (some (.b0 y16_1))
def f259 (k:Nat) (a0:(List (List (List UInt8)))):Option (List (List UInt8)):=(f259_l16 a0 k (0:Int) (0:Int)).bind fun o16=>(match o16 with | .b0 x16_1=>f259_j57 k a0 x16_1 | _=>none)
theorem F259 {k:Nat} {a0:(List (List (List UInt8)))} {r:(List (List UInt8))} (h:f259 k a0 = some r) :
    ACalls Tryd.prog 119 [(.d (.sl (List.map (slE D.str) a0)))] [] (.ap 0 1 (List.map D.str r)) [(0,(.tok ((List.map D.str r).length * 1)))]:=by
 refine acalls_ret ⟨_,Tryd.func119,by kernel_rfl,by kernel_rfl,rfl⟩ 0 1 1 [(2,(.ap 0 1 (List.map D.str r)))] [(0,(.tok ((List.map D.str r).length * 1)))] (doneA (.inr rfl) rfl ⟨trivial,trivial⟩ (.refl _) (hasCons rfl hasNil)) ?_
 unfold f259 at h
 refine .seq (.e [] ?_)
 refine .seq (.e [] ?_)
 refine .j 0 (fun z=>f259_j57 k a0 z = some r) (fun z=>[(0,(.d (.sl (List.map (slE D.str) a0)))),(3,(.d (.int .i64 z)))]) (fun z=>[]) ?_ ?_
 · refine .seq (.e [.ln (slE D.str) a0] ?_)
   obtain ⟨o16,h16,h⟩:=bind_some h
   refine .block (.lp 0 (fun k (x:(Int×Int))=>f259_l16 a0 k x.1 x.2 = some o16) (fun x=>[(0,(.d (.sl (List.map (slE D.str) a0)))),(3,(.d (.int .i64 x.1))),(9,(.d (.sl (List.map (slE D.str) a0)))),(10,(.d (.int .i64 ((a0.length:Nat):Int)))),(11,(.d (.int .i64 x.2)))]) (fun x=>[]) (_,_) h16 [] [] ?_)
   rintro k ⟨y16_1,y16_2⟩ h16
   dsimp only at h16 ⊢
   rw [f259_l16] at h16
   refine .seq (.e [] ?_)
   refine .seq (.cD h16 (fun h16=>?_) fun h16=>?_)
   · cases h16
     dsimp only at h
     refine .exit (inBlk_eq ?_)
     exact ⟨_,h,inZ⟩
   refine .skip (.seq ?_)
   refine .block (.seq ?_)
   obtain ⟨b31,h16⟩:=gd_some h16
   refine .e [.iad (slE D.str) a0 1 (fun _=>rfl) b31] (.seq ?_)
   refine .e [.ln D.str (rd a0 y16_2)] (.seq ?_)
   refine .e [] (.cB h16 (fun h16=>?_) fun h16=>?_)
   · cases h16
   refine .skip (.e [] ?_)
   exact ⟨(_,_),h16,inZ⟩
 intro j57_1 h
 unfold f259_j57 at h
 refine .seq ?_
 obtain ⟨r61,e61,h⟩:=bind_some h
 refine .e [.call (F260 e61) [] 1] (.seq ?_)
 refine .seq (.e [.ln (slE D.str) a0] ?_)
 obtain ⟨o70,h70,h⟩:=bind_some h
 refine .block (.lp 1 (fun k (x:((List (List UInt8))×Int))=>f259_l70 a0 k x.1 x.2 = some o70) (fun x=>[(6,(.ap 0 1 (List.map D.str x.1))),(25,(.d (.sl (List.map (slE D.str) a0)))),(26,(.d (.int .i64 ((a0.length:Nat):Int)))),(27,(.d (.int .i64 x.2)))]) (fun x=>[(0,(.tok ((List.map D.str x.1).length * 1)))]) (_,_) h70 [] [] ?_)
 rintro k ⟨y70_1,y70_2⟩ h70
 dsimp only at h70 ⊢
 rw [f259_l70] at h70
 refine .seq (.e [] ?_)
 refine .seq (.cD h70 (fun h70=>?_) fun h70=>?_)
 · cases h70
   dsimp only at h
   refine .exit (inBlk_eq ?_)
   refine .seq (.e [] ?_)
   cases h
   exact .ret rz
 refine .skip (.seq ?_)
 refine .block (.seq ?_)
 obtain ⟨b85,h70⟩:=gd_some h70
 refine .e [.iad (slE D.str) a0 1 (fun _=>rfl) b85] ?_
 obtain ⟨b92,h70⟩:=gd_some h70
 refine .e [.apA D.str y70_1 (rd a0 y70_2) 1 (fun _=>rfl) b92] (.e [] ?_)
 exact ⟨(_,_),h70,(inT [(0,1)] [])⟩
def f291 (k:Nat) (a0:TField) (a1:(List UInt8)):Option Unit:=some ()
theorem F291 {k:Nat} {a0:TField} {a1:(List UInt8)} {r:Unit} (h:f291 k a0 a1 = some r) :
    ACalls Tryd.prog 121 [(.d (TField.enc a0)),(.ptr 0 0)] [(0,(.cells [(.d (.str a1))]))] (.d (.bool (decide (a0.fName = a1)))) [(0,(.cells [(.d (.str a1))]))]:=by
 refine acalls_ret ⟨_,Tryd.func121,by kernel_rfl,by kernel_rfl,rfl⟩ 1 1 1 [(3,(.d (.bool (decide (a0.fName = a1)))))] [(0,(.cells [(.d (.str a1))]))] (doneA (.inr rfl) rfl ⟨trivial,trivial⟩ (.refl _) (hasCons rfl hasNil)) ?_
 unfold f291 at h
 refine .seq (.e [] ?_)
 refine .seq (.e [] ?_)
 cases h
 exact .ret rz
def f290_l12 (a0:(List TField)) (a1:(List UInt8)):Nat→Int→Option (LR2 Unit Unit Int)
  | 0,_=>none
  | k + 1,y12_1=>cond (decide (y12_1 < ((a0.length:Nat):Int))) (gd (0≤y12_1∧y12_1 < ((a0.length:Nat):Int)) ((f291 k (rd a0 y12_1) a1).bind fun r37=>cond (decide ((rd a0 y12_1).fName = a1)) (some (.r y12_1)) (f290_l12 a0 a1 k (IntKind.i64.wrap (y12_1 + (1:Int)))))) (some (.b0 ()))
def f290 (k:Nat) (a0:(List TField)) (a1:(List UInt8)):Option Int:=(f290_l12 a0 a1 k (0:Int)).bind fun o12=>(match o12 with | .b0 ()=>some (-1:Int) | .r x=>some x | _=>none)
theorem F290 {k:Nat} {a0:(List TField)} {a1:(List UInt8)} {r:Int} (h:f290 k a0 a1 = some r) :
    ACalls Tryd.prog 120 [(.d (.sl (List.map TField.enc a0))),(.fn 121 [(.ptr 0 0)])] [(0,(.cells [(.d (.str a1))]))] (.d (.int .i64 r)) [(0,(.cells [(.d (.str a1))]))]:=by
 refine acalls_ret ⟨_,Tryd.func120,by kernel_rfl,by kernel_rfl,rfl⟩ 1 1 1 [(4,(.d (.int .i64 r)))] [(0,(.cells [(.d (.str a1))]))] (doneA (.inr rfl) rfl ⟨trivial,trivial⟩ (.refl _) (hasCons rfl hasNil)) ?_
 unfold f290 at h
 refine .seq (.e [] ?_)
 refine .seq (.seq ?_)
 refine .e [.ln TField.enc a0] ?_
 obtain ⟨o12,h12,h⟩:=bind_some h
 refine .block (.lp 1 (fun k (x:Int)=>f290_l12 a0 a1 k x = some o12) (fun x=>[(0,(.d (.sl (List.map TField.enc a0)))),(1,(.fn 121 [(.ptr 0 0)])),(7,(.d (.int .i64 ((a0.length:Nat):Int)))),(8,(.d (.int .i64 x)))]) (fun x=>[(0,(.cells [(.d (.str a1))]))]) _ h12 [] [] ?_)
 intro k y12_1 h12
 rw [f290_l12] at h12
 refine .seq (.e [] ?_)
 refine .seq (.cD h12 (fun h12=>?_) fun h12=>?_)
 · cases h12
   dsimp only at h
   refine .exit (inBlk_eq ?_)
   refine .seq (.e [] ?_)
   cases h
   exact .ret rz
 refine .skip (.seq ?_)
 refine .block (.seq ?_)
 refine .e [] (.seq ?_)
 obtain ⟨b35,h12⟩:=gd_some h12
 obtain ⟨r37,e37,h12⟩:=bind_some h12
 refine .e [.iad TField.enc a0 5 (fun _=>rfl) b35,.cq (F291 e37) [] 1] (.cD h12 (fun h12=>?_) fun h12=>?_)
 · refine .skip (.e [] ?_)
   exact ⟨_,h12,inZ⟩
 refine .seq (.e [] ?_)
 cases h12
 dsimp only at h
 cases h
 exact .ret rz
def f258_l20 (r17:(List (List UInt8))) (a0:TNode):Nat→Int→Option (LR2 Unit Unit Int)
  | 0,_=>none
  | k + 1,y20_1=>cond (decide (y20_1 < ((r17.length:Nat):Int))) (gd (0≤y20_1∧y20_1 < ((r17.length:Nat):Int)) ((f290 k a0.fFields (rd r17 y20_1)).bind fun r45=>cond (decide (r45 ≥ (0:Int))) (some (.r r45)) (f258_l20 r17 a0 k (IntKind.i64.wrap (y20_1 + (1:Int)))))) (some (.b0 ()))
def f258 (k:Nat) (a0:TNode) (a1:TField):Option Int:=(f259 k ([([a1.fName]:List (List UInt8)),a1.fAliases]:List (List (List UInt8)))).bind fun r17=>(f258_l20 r17 a0 k (0:Int)).bind fun o20=>(match o20 with | .b0 ()=>some (-1:Int) | .r x=>some x | _=>none)
theorem F258 {k:Nat} {a0:TNode} {a1:TField} {r:Int} (h:f258 k a0 a1 = some r) :
    ACalls Tryd.prog 109 [(.d (TNode.enc a0)),(.d (TField.enc a1))] [] (.d (.int .i64 r)) []:=by
 refine acalls_ret ⟨_,Tryd.func109,by kernel_rfl,by kernel_rfl,rfl⟩ 0 0 0 [(4,(.d (.int .i64 r)))] [] (doneA (.inr rfl) rfl ⟨trivial,trivial⟩ (.refl _) hasNil) ?_
 unfold f258 at h
 refine .seq (.e [] ?_)
 refine .seq (.seq ?_)
 obtain ⟨r17,e17,h⟩:=bind_some h
 refine .e [.call (F259 e17) [(0,2)] 1,.ln D.str r17] ?_
 obtain ⟨o20,h20,h⟩:=bind_some h
 refine .block (.lp 2 (fun k (x:Int)=>f258_l20 r17 a0 k x = some o20) (fun x=>[(2,(.ptr 0 0)),(14,(.ap 1 1 (List.map D.str r17))),(15,(.d (.int .i64 ((r17.length:Nat):Int)))),(16,(.d (.int .i64 x)))]) (fun x=>[(0,(.cells [(.d (.int .i64 a0.fKind)),(.d (.str a0.fName)),(.d (.sl (List.map D.str a0.fAliases))),(.d (.sl (List.map TField.enc a0.fFields))),(.d (.sl (List.map D.str a0.fSymbols))),(.d (.bool a0.fHas)),(.d (.str a0.fDefault)),(.d (.int .i64 a0.fItems)),(.d (.sl (List.map (D.int .i64) a0.fBranches))),(.d (.int .i64 a0.fSize))])),(1,(.tok ((List.map D.str r17).length * 1)))]) _ h20 [(1,2)] [] ?_)
 intro k y20_1 h20
 rw [f258_l20] at h20
 refine .seq (.e [] ?_)
 refine .seq (.cD h20 (fun h20=>?_) fun h20=>?_)
 · cases h20
   dsimp only at h
   refine .exit (inBlk_eq ?_)
   refine .seq (.e [] ?_)
   cases h
   exact .ret rz
 refine .skip (.seq ?_)
 refine .block (.seq ?_)
 obtain ⟨b35,h20⟩:=gd_some h20
 refine .e [.iad D.str r17 1 (fun _=>rfl) b35] (.seq ?_)
 obtain ⟨r45,e45,h20⟩:=bind_some h20
 refine .e [.cq (F290 e45) [(0,2)] 1] (.seq ?_)
 refine .e [] (.cD h20 (fun h20=>?_) fun h20=>?_)
 · refine .skip (.e [] ?_)
   exact ⟨_,h20,inZ⟩
 refine .seq (.e [] ?_)
 cases h20
 dsimp only at h
 cases h
 exact .ret rz
def f495_j90 (k:Nat) (j90_1:(List Tcheck_pair)) (j90_2:Bool):Option ((List Tcheck_pair)×Bool):=some (j90_1,j90_2)
def f495_l27 (a1:TNode) (a0:TNode):Nat→(List Tcheck_pair)→Bool→Int→Option (LR2 ((List Tcheck_pair)×Bool) Unit ((List Tcheck_pair)×Bool))
  | 0,_,_,_=>none
  | k + 1,y27_1,y27_2,y27_3=>cond (decide (y27_3 < ((a1.fFields.length:Nat):Int))) (gd (0≤y27_3∧y27_3 < ((a1.fFields.length:Nat):Int)) ((f258 k a0 (rd a1.fFields y27_3)).bind fun r51=>cond (decide (r51 < (0:Int))) (cond y27_2 (f495_l27 a1 a0 k y27_1 ((rd a1.fFields y27_3).fHas) (IntKind.i64.wrap (y27_3 + (1:Int)))) (f495_l27 a1 a0 k y27_1 false (IntKind.i64.wrap (y27_3 + (1:Int))))) (gd (0≤r51∧r51 < ((a0.fFields.length:Nat):Int)) (gd ((y27_1.length + ([(Tcheck_pair.mk ((rd a0.fFields r51).fType) ((rd a1.fFields y27_3).fType))]:List Tcheck_pair).length) * 2 * 16≤281474976710656) (f495_l27 a1 a0 k (y27_1 ++ ([(Tcheck_pair.mk ((rd a0.fFields r51).fType) ((rd a1.fFields y27_3).fType))]:List Tcheck_pair)) y27_2 (IntKind.i64.wrap (y27_3 + (1:Int)))))))) (some (.b0 (y27_1,y27_2)))
def f495 (k:Nat) (a0:TNode) (a1:TNode):Option ((List Tcheck_pair)×Bool):=(f495_l27 a1 a0 k ([]:List Tcheck_pair) true (0:Int)).bind fun o27=>(match o27 with | .b0 (x27_1,x27_2)=>f495_j90 k x27_1 x27_2 | _=>none)
theorem F495 {k:Nat} {a0:TNode} {a1:TNode} {r:((List Tcheck_pair)×Bool)} (h:f495 k a0 a1 = some r) :
    ACalls Tryd.prog 89 [(.d (TNode.enc a0)),(.d (TNode.enc a1))] [] (.tup [(.ap 0 2 (List.map Tcheck_pair.enc r.1)),(.d (.bool r.2))]) [(0,(.tok ((List.map Tcheck_pair.enc r.1).length * 2)))]:=by
 refine acalls_ret ⟨_,Tryd.func89,by kernel_rfl,by kernel_rfl,rfl⟩ 0 1 1 [(4,(.ap 0 2 (List.map Tcheck_pair.enc r.1))),(5,(.d (.bool r.2)))] [(0,(.tok ((List.map Tcheck_pair.enc r.1).length * 2)))] (doneA (.inr rfl) rfl ⟨trivial,⟨trivial,trivial⟩⟩ (.refl _) (hasCons rfl hasNil)) ?_
 unfold f495 at h
 refine .seq (.e [] ?_)
 refine .scope (.seq ?_)
 refine .e [] (.seq ?_)
 refine .e [] (.seq ?_)
 refine .label (.j 1 (fun (z:((List Tcheck_pair)×Bool))=>f495_j90 k z.1 z.2 = some r) (fun z=>[(6,(.ap 0 2 (List.map Tcheck_pair.enc z.1))),(7,(.d (.bool z.2)))]) (fun z=>[(0,(.tok ((List.map Tcheck_pair.enc z.1).length * 2)))]) ?_ ?_)
 · refine .seq (.e [.ln TField.enc a1.fFields] ?_)
   obtain ⟨o27,h27,h⟩:=bind_some h
   refine .block (.lp 2 (fun k (x:((List Tcheck_pair)×Bool×Int))=>f495_l27 a1 a0 k x.1 x.2.1 x.2.2 = some o27) (fun x=>[(2,(.ptr 0 0)),(6,(.ap 1 2 (List.map Tcheck_pair.enc x.1))),(7,(.d (.bool x.2.1))),(12,(.d (.sl (List.map TField.enc a1.fFields)))),(13,(.d (.int .i64 ((a1.fFields.length:Nat):Int)))),(14,(.d (.int .i64 x.2.2)))]) (fun x=>[(0,(.cells [(.d (.int .i64 a0.fKind)),(.d (.str a0.fName)),(.d (.sl (List.map D.str a0.fAliases))),(.d (.sl (List.map TField.enc a0.fFields))),(.d (.sl (List.map D.str a0.fSymbols))),(.d (.bool a0.fHas)),(.d (.str a0.fDefault)),(.d (.int .i64 a0.fItems)),(.d (.sl (List.map (D.int .i64) a0.fBranches))),(.d (.int .i64 a0.fSize))])),(1,(.tok ((List.map Tcheck_pair.enc x.1).length * 2)))]) (_,_,_) h27 [(1,2)] [.tok 0] ?_)
   rintro k ⟨y27_1,y27_2,y27_3⟩ h27
   dsimp only at h27 ⊢
   rw [f495_l27] at h27
   refine .seq (.e [] ?_)
   refine .seq (.cD h27 (fun h27=>?_) fun h27=>?_)
   · cases h27
     dsimp only at h
     refine .exit (inBlk_eq ?_)
     exact ⟨(_,_),h,(inT [(0,1)] [])⟩
   refine .skip (.seq ?_)
   refine .block (.seq ?_)
   obtain ⟨b42,h27⟩:=gd_some h27
   refine .e [.iad TField.enc a1.fFields 5 (fun _=>rfl) b42] (.seq ?_)
   obtain ⟨r51,e51,h27⟩:=bind_some h27
   refine .e [.call (F258 e51) [] 0] (.seq ?_)
   refine .seq (.e [] ?_)
   refine .cB h27 (fun h27=>?_) fun h27=>?_
   · refine .seq ?_
     rcases cc h27 with ⟨c64,h27⟩ | ⟨c64,h27⟩
     · refine .e [.br c64] (.exit ?_)
       refine inBlk_eq (.e [] ?_)
       exact ⟨(_,_,_),h27,inZ⟩
     refine .e [.br c64] (.exit ?_)
     refine inBlk_eq (.e [] ?_)
     exact ⟨(_,_,_),h27,inZ⟩
   refine .skip ?_
   obtain ⟨b77,h27⟩:=gd_some h27
   obtain ⟨b84,h27⟩:=gd_some h27
   refine .e [.iad TField.enc a0.fFields 5 (fun _=>rfl) b77,.apA Tcheck_pair.enc y27_1 ([(Tcheck_pair.mk ((rd a0.fFields r51).fType) ((rd a1.fFields y27_3).fType))]:List Tcheck_pair) 2 (fun _=>rfl) b84] (.e [] ?_)
   exact ⟨(_,_,_),h27,(inT [(1,3)] [])⟩
 rintro ⟨j90_1,j90_2⟩ h
 dsimp only at h ⊢
 unfold f495_j90 at h
 refine .seq (.e [] ?_)
 cases h
 exact .ret rz
def f491_j84 (k:Nat) (j84_1:(List Tcheck_pair)):Option ((List Tcheck_pair)×Bool):=some (j84_1,true)
def f491_l52 (a0:(List TNode)) (a6:Tcheck_pair):Nat→(List Tcheck_pair)→Int→Option (LR2 (List Tcheck_pair) Unit ((List Tcheck_pair)×Bool))
  | 0,_,_=>none
  | k + 1,y52_1,y52_2=>cond (decide (y52_2 < ((((rd a0 a6.fi).fBranches).length:Nat):Int))) (gd (0≤y52_2∧y52_2 < ((((rd a0 a6.fi).fBranches).length:Nat):Int)) (gd ((y52_1.length + ([(Tcheck_pair.mk (rd ((rd a0 a6.fi).fBranches) y52_2) a6.fk)]:List Tcheck_pair).length) * 2 * 16≤281474976710656) (f491_l52 a0 a6 k (y52_1 ++ ([(Tcheck_pair.mk (rd ((rd a0 a6.fi).fBranches) y52_2) a6.fk)]:List Tcheck_pair)) (IntKind.i64.wrap (y52_2 + (1:Int)))))) (some (.b0 y52_1))
def f491_j213 (k:Nat) (a0:(List TNode)) (a6:Tcheck_pair) (a1:(List TNode)) (j213_1:Bool):Option ((List Tcheck_pair)×Bool):=cond j213_1 (some (([(Tcheck_pair.mk ((rd a0 a6.fi).fItems) ((rd a1 a6.fk).fItems))]:List Tcheck_pair),true)) (cond (decide ((rd a0 a6.fi).fKind = (9:Int))) ((f495 k (rd a0 a6.fi) (rd a1 a6.fk)).bind fun r237=>some (r237.1,r237.2)) (some (([]:List Tcheck_pair),true)))
def f491 (k:Nat) (a0:(List TNode)) (a1:(List TNode)) (a2:(List Bool)) (a3:(List Tcheck_pair)) (a4:(PM Tcheck_pair (List Tcheck_pair))) (a5:(PM Tcheck_pair Int)) (a6:Tcheck_pair):Option ((List Tcheck_pair)×Bool):=gd (0≤a6.fi∧a6.fi < ((a0.length:Nat):Int)) (gd (0≤a6.fk∧a6.fk < ((a1.length:Nat):Int)) (cond (decide ((rd a0 a6.fi).fKind = (13:Int))) ((f491_l52 a0 a6 k ([]:List Tcheck_pair) (0:Int)).bind fun o52=>(match o52 with | .b0 x52_1=>f491_j84 k x52_1 | _=>none)) (cond (decide ((rd a1 a6.fk).fKind = (13:Int))) ((f241 k (TSchema.mk a0) a6.fi (TSchema.mk a1) a6.fk).bind fun r115=>cond (decide (r115 < (0:Int))) (some (([]:List Tcheck_pair),false)) (gd (0≤r115∧r115 < ((((rd a1 a6.fk).fBranches).length:Nat):Int)) (some (([(Tcheck_pair.mk a6.fi (rd ((rd a1 a6.fk).fBranches) r115))]:List Tcheck_pair),true)))) ((f231 k (TSchema.mk a0) a6.fi (TSchema.mk a1) a6.fk).bind fun r163=>cond (!r163) (some (([]:List Tcheck_pair),false)) (cond (decide ((rd a0 a6.fi).fKind = (10:Int))) (cond ((rd a1 a6.fk).fHas) (some (([]:List Tcheck_pair),true)) ((f492 k ((rd a0 a6.fi).fSymbols) ((rd a1 a6.fk).fKind) ((rd a1 a6.fk).fName) ((rd a1 a6.fk).fAliases) ((rd a1 a6.fk).fFields) ((rd a1 a6.fk).fSymbols) ((rd a1 a6.fk).fHas) ((rd a1 a6.fk).fDefault) ((rd a1 a6.fk).fItems) ((rd a1 a6.fk).fBranches) ((rd a1 a6.fk).fSize)).bind fun r195=>some (([]:List Tcheck_pair),(!r195)))) (cond (decide ((rd a0 a6.fi).fKind = (11:Int))) (f491_j213 k a0 a6 a1 (decide ((rd a0 a6.fi).fKind = (11:Int)))) (f491_j213 k a0 a6 a1 (decide ((rd a0 a6.fi).fKind = (12:Int))))))))))
theorem F491 {k:Nat} {a0:(List TNode)} {a1:(List TNode)} {a2:(List Bool)} {a3:(List Tcheck_pair)} {a4:(PM Tcheck_pair (List Tcheck_pair))} {a5:(PM Tcheck_pair Int)} {a6:Tcheck_pair} {r:((List Tcheck_pair)×Bool)} (h:f491 k a0 a1 a2 a3 a4 a5 a6 = some r) :
    ACalls Tryd.prog 59 [(.ptr 0 0),(.d (Tcheck_pair.enc a6))] [(0,(.cells [(.d (.sl (List.map TNode.enc a0))),(.d (.sl (List.map TNode.enc a1))),(.ap 1 1 (List.map D.bool a2)),(.ap 2 2 (List.map Tcheck_pair.enc a3)),(.mp 3),(.mp 4)])),(1,(.tok ((List.map D.bool a2).length * 1))),(2,(.tok ((List.map Tcheck_pair.enc a3).length * 2))),(3,(pmO Tcheck_pair.enc (slE Tcheck_pair.enc) a4)),(4,(pmO Tcheck_pair.enc (D.int .i64) a5))] (.tup [(.d (.sl (List.map Tcheck_pair.enc r.1))),(.d (.bool r.2))]) [(0,(.cells [(.d (.sl (List.map TNode.enc a0))),(.d (.sl (List.map TNode.enc a1))),(.ap 1 1 (List.map D.bool a2)),(.ap 2 2 (List.map Tcheck_pair.enc a3)),(.mp 3),(.mp 4)])),(3,(pmO Tcheck_pair.enc (slE Tcheck_pair.enc) a4)),(4,(pmO Tcheck_pair.enc (D.int .i64) a5)),(1,(.tok ((List.map D.bool a2).length * 1))),(2,(.tok ((List.map Tcheck_pair.enc a3).length * 2)))]:=by
 refine acalls_ret ⟨_,Tryd.func59,by kernel_rfl,by kernel_rfl,rfl⟩ 5 5 5 [(4,(.d (.sl (List.map Tcheck_pair.enc r.1)))),(5,(.d (.bool r.2)))] [(0,(.cells [(.d (.sl (List.map TNode.enc a0))),(.d (.sl (List.map TNode.enc a1))),(.ap 1 1 (List.map D.bool a2)),(.ap 2 2 (List.map Tcheck_pair.enc a3)),(.mp 3),(.mp 4)])),(3,(pmO Tcheck_pair.enc (slE Tcheck_pair.enc) a4)),(4,(pmO Tcheck_pair.enc (D.int .i64) a5)),(1,(.tok ((List.map D.bool a2).length * 1))),(2,(.tok ((List.map Tcheck_pair.enc a3).length * 2)))] (doneA (.inr rfl) rfl ⟨trivial,⟨trivial,trivial⟩⟩ (.refl _) (hasCons rfl (hasCons rfl (hasCons rfl (hasCons rfl (hasCons rfl hasNil)))))) ?_
 unfold f491 at h
 refine .seq (.e [] ?_)
 refine .seq ?_
 obtain ⟨b17,h⟩:=gd_some h
 obtain ⟨b26,h⟩:=gd_some h
 refine .e [.iad TNode.enc a0 10 (fun _=>rfl) b17,.iad TNode.enc a1 10 (fun _=>rfl) b26] (.seq ?_)
 refine .seq (.e [] ?_)
 refine .cB h (fun h=>?_) fun h=>?_
 · refine .seq (.e [] ?_)
   refine .j 6 (fun z=>f491_j84 k z = some r) (fun z=>[(8,(.ap 5 2 (List.map Tcheck_pair.enc z)))]) (fun z=>[(5,(.tok ((List.map Tcheck_pair.enc z).length * 2))),(0,(.cells [(.d (.sl (List.map TNode.enc a0))),(.d (.sl (List.map TNode.enc a1))),(.ap 1 1 (List.map D.bool a2)),(.ap 2 2 (List.map Tcheck_pair.enc a3)),(.mp 3),(.mp 4)])),(3,(pmO Tcheck_pair.enc (slE Tcheck_pair.enc) a4)),(4,(pmO Tcheck_pair.enc (D.int .i64) a5)),(1,(.tok ((List.map D.bool a2).length * 1))),(2,(.tok ((List.map Tcheck_pair.enc a3).length * 2)))]) ?_ ?_
   · refine .seq (.e [.ln (D.int .i64) ((rd a0 a6.fi).fBranches)] ?_)
     obtain ⟨o52,h52,h⟩:=bind_some h
     refine .block (.lp 7 (fun k (x:((List Tcheck_pair)×Int))=>f491_l52 a0 a6 k x.1 x.2 = some o52) (fun x=>[(3,(.ptr 5 0)),(8,(.ap 6 2 (List.map Tcheck_pair.enc x.1))),(34,(.d (.sl (List.map (D.int .i64) (rd a0 a6.fi).fBranches)))),(35,(.d (.int .i64 ((((rd a0 a6.fi).fBranches).length:Nat):Int)))),(36,(.d (.int .i64 x.2)))]) (fun x=>[(5,(.cells [(.d (.int .i64 a6.fi)),(.d (.int .i64 a6.fk))])),(6,(.tok ((List.map Tcheck_pair.enc x.1).length * 2))),(0,(.cells [(.d (.sl (List.map TNode.enc a0))),(.d (.sl (List.map TNode.enc a1))),(.ap 1 1 (List.map D.bool a2)),(.ap 2 2 (List.map Tcheck_pair.enc a3)),(.mp 3),(.mp 4)])),(3,(pmO Tcheck_pair.enc (slE Tcheck_pair.enc) a4)),(4,(pmO Tcheck_pair.enc (D.int .i64) a5)),(1,(.tok ((List.map D.bool a2).length * 1))),(2,(.tok ((List.map Tcheck_pair.enc a3).length * 2)))]) (_,_) h52 [(6,8)] [.tok 0] ?_)
     rintro k ⟨y52_1,y52_2⟩ h52
     dsimp only at h52 ⊢
     rw [f491_l52] at h52
     refine .seq (.e [] ?_)
     refine .seq (.cD h52 (fun h52=>?_) fun h52=>?_)
     · cases h52
       dsimp only at h
       refine .exit (inBlk_eq ?_)
       exact ⟨_,h,(inT [(5,6)] [])⟩
     refine .skip (.seq ?_)
     refine .block (.seq ?_)
     obtain ⟨b67,h52⟩:=gd_some h52
     refine .e [.iad (D.int .i64) ((rd a0 a6.fi).fBranches) 1 (fun _=>rfl) b67] ?_
     obtain ⟨b78,h52⟩:=gd_some h52
     refine .e [.apA Tcheck_pair.enc y52_1 ([(Tcheck_pair.mk (rd ((rd a0 a6.fi).fBranches) y52_2) a6.fk)]:List Tcheck_pair) 2 (fun _=>rfl) b78] (.e [] ?_)
     exact ⟨(_,_),h52,(inT [(6,7)] [])⟩
   intro j84_1 h
   unfold f491_j84 at h
   refine .seq (.e [] ?_)
   cases h
   exact .ret rz
 refine .skip (.seq ?_)
 refine .seq (.e [] ?_)
 refine .cB h (fun h=>?_) fun h=>?_
 · refine .seq ?_
   obtain ⟨r115,e115,h⟩:=bind_some h
   refine .e [.call (F241 e115) [] 0] (.seq ?_)
   refine .seq (.e [] ?_)
   refine .cB h (fun h=>?_) fun h=>?_
   · refine .seq (.e [] ?_)
     cases h
     exact .ret rz
   refine .skip (.seq ?_)
   obtain ⟨b139,h⟩:=gd_some h
   refine .e [.iad (D.int .i64) ((rd a1 a6.fk).fBranches) 1 (fun _=>rfl) b139] ?_
   cases h
   exact .ret rz
 refine .skip (.seq ?_)
 refine .seq ?_
 obtain ⟨r163,e163,h⟩:=bind_some h
 refine .e [.call (F231 e163) [] 0] (.cB h (fun h=>?_) fun h=>?_)
 · refine .seq (.e [] ?_)
   cases h
   exact .ret rz
 refine .skip (.seq ?_)
 refine .seq (.e [] ?_)
 refine .block (.seq ?_)
 refine .e [] (.cB h (fun h=>?_) fun h=>?_)
 · refine .seq ?_
   rcases cc h with ⟨c191,h⟩ | ⟨c191,h⟩
   · refine .e [.br c191] ?_
     cases h
     exact .ret rz
   obtain ⟨r195,e195,h⟩:=bind_some h
   refine .e [.br c191,.cq (F492 e195) [(0,7)] 1] ?_
   cases h
   exact .ret rz
 refine .j 7 (fun z=>f491_j213 k a0 a6 a1 z = some r) (fun z=>[(6,(.ptr 5 0)),(7,(.ptr 6 0)),(91,(.d (.int .i64 (rd a0 a6.fi).fKind))),(103,(.d (.bool z)))]) (fun z=>[(5,(.cells [(.d (.int .i64 (rd a0 a6.fi).fKind)),(.d (.str (rd a0 a6.fi).fName)),(.d (.sl (List.map D.str (rd a0 a6.fi).fAliases))),(.d (.sl (List.map TField.enc (rd a0 a6.fi).fFields))),(.d (.sl (List.map D.str (rd a0 a6.fi).fSymbols))),(.d (.bool (rd a0 a6.fi).fHas)),(.d (.str (rd a0 a6.fi).fDefault)),(.d (.int .i64 (rd a0 a6.fi).fItems)),(.d (.sl (List.map (D.int .i64) (rd a0 a6.fi).fBranches))),(.d (.int .i64 (rd a0 a6.fi).fSize))])),(6,(.cells [(.d (.int .i64 (rd a1 a6.fk).fKind)),(.d (.str (rd a1 a6.fk).fName)),(.d (.sl (List.map D.str (rd a1 a6.fk).fAliases))),(.d (.sl (List.map TField.enc (rd a1 a6.fk).fFields))),(.d (.sl (List.map D.str (rd a1 a6.fk).fSymbols))),(.d (.bool (rd a1 a6.fk).fHas)),(.d (.str (rd a1 a6.fk).fDefault)),(.d (.int .i64 (rd a1 a6.fk).fItems)),(.d (.sl (List.map (D.int .i64) (rd a1 a6.fk).fBranches))),(.d (.int .i64 (rd a1 a6.fk).fSize))])),(0,(.cells [(.d (.sl (List.map TNode.enc a0))),(.d (.sl (List.map TNode.enc a1))),(.ap 1 1 (List.map D.bool a2)),(.ap 2 2 (List.map Tcheck_pair.enc a3)),(.mp 3),(.mp 4)])),(3,(pmO Tcheck_pair.enc (slE Tcheck_pair.enc) a4)),(4,(pmO Tcheck_pair.enc (D.int .i64) a5)),(1,(.tok ((List.map D.bool a2).length * 1))),(2,(.tok ((List.map Tcheck_pair.enc a3).length * 2)))]) ?_ ?_
 · refine .seq (.e [] ?_)
   refine .cB h (fun h=>?_) fun h=>?_
   · exact .skip ⟨_,h,(inT [(5,6),(6,7)] [])⟩
   exact .e [] ⟨_,h,(inT [(5,6),(6,7)] [])⟩
 intro j213_1 h
 unfold f491_j213 at h
 refine .cB h (fun h=>?_) fun h=>?_
 · refine .seq (.e [] ?_)
   cases h
   exact .ret rz
 refine .seq (.e [] ?_)
 refine .cD h (fun h=>?_) fun h=>?_
 · refine .skip (.seq ?_)
   refine .e [] ?_
   cases h
   exact .ret rz
 refine .seq ?_
 obtain ⟨r237,e237,h⟩:=bind_some h
 refine .e [.call (F495 e237) [(0,7)] 1] ?_
 cases h
 exact .ret rz
abbrev Y489v2:=(List TNode)→(List TNode)→(List Bool)→(List Tcheck_pair)→(PM Tcheck_pair (List Tcheck_pair))→(PM Tcheck_pair Int)→Tcheck_pair→Option ((List Tcheck_pair)×(PM Tcheck_pair (List Tcheck_pair))×(PM Tcheck_pair Int))
def RH489v2 (rc489v2:Y489v2):Prop:=∀ (a0:(List TNode)) (a1:(List TNode)) (a2:(List Bool)) (a3:(List Tcheck_pair)) (a4:(PM Tcheck_pair (List Tcheck_pair))) (a5:(PM Tcheck_pair Int)) (a6:Tcheck_pair) (r:((List Tcheck_pair)×(PM Tcheck_pair (List Tcheck_pair))×(PM Tcheck_pair Int))),rc489v2 a0 a1 a2 a3 a4 a5 a6 = some r→ACalls Tryd.prog 38 [(.ptr 0 0),(.d (Tcheck_pair.enc a6))] [(0,(.cells [(.d (.sl (List.map TNode.enc a0))),(.d (.sl (List.map TNode.enc a1))),(.ap 1 1 (List.map D.bool a2)),(.ap 2 2 (List.map Tcheck_pair.enc a3)),(.mp 3),(.mp 4)])),(1,(.tok ((List.map D.bool a2).length * 1))),(2,(.tok ((List.map Tcheck_pair.enc a3).length * 2))),(3,(pmO Tcheck_pair.enc (slE Tcheck_pair.enc) a4)),(4,(pmO Tcheck_pair.enc (D.int .i64) a5))] (.tup []) [(0,(.cells [(.d (.sl (List.map TNode.enc a0))),(.d (.sl (List.map TNode.enc a1))),(.ap 1 1 (List.map D.bool a2)),(.ap 5 2 (List.map Tcheck_pair.enc r.1)),(.mp 3),(.mp 4)])),(3,(pmO Tcheck_pair.enc (slE Tcheck_pair.enc) r.2.1)),(4,(pmO Tcheck_pair.enc (D.int .i64) r.2.2)),(1,(.tok ((List.map D.bool a2).length * 1))),(5,(.tok ((List.map Tcheck_pair.enc r.1).length * 2)))]
def f490v2 (k:Nat) (a0:(List TNode)) (a1:(List TNode)) (a2:(List Bool)) (a3:(List Tcheck_pair)) (a4:(PM Tcheck_pair (List Tcheck_pair))) (a5:(PM Tcheck_pair Int)) (a6:Tcheck_pair):Option Bool:=cond (decide (a6.fi ≥ (0:Int))) (cond (decide (a6.fi < ((a2.length:Nat):Int))) (gd (0≤a6.fi∧a6.fi < ((a2.length:Nat):Int)) (some (rd a2 a6.fi))) (some false)) (some false)
theorem F490v2 {k:Nat} {a0:(List TNode)} {a1:(List TNode)} {a2:(List Bool)} {a3:(List Tcheck_pair)} {a4:(PM Tcheck_pair (List Tcheck_pair))} {a5:(PM Tcheck_pair Int)} {a6:Tcheck_pair} {r:Bool} (h:f490v2 k a0 a1 a2 a3 a4 a5 a6 = some r) :
    ACalls Tryd.prog 58 [(.ptr 0 0),(.d (Tcheck_pair.enc a6))] [(0,(.cells [(.d (.sl (List.map TNode.enc a0))),(.d (.sl (List.map TNode.enc a1))),(.ap 1 1 (List.map D.bool a2)),(.ap 2 2 (List.map Tcheck_pair.enc a3)),(.mp 3),(.mp 4)])),(1,(.tok ((List.map D.bool a2).length * 1))),(2,(.tok ((List.map Tcheck_pair.enc a3).length * 2))),(3,(pmO Tcheck_pair.enc (slE Tcheck_pair.enc) a4)),(4,(pmO Tcheck_pair.enc (D.int .i64) a5))] (.d (.bool r)) [(0,(.cells [(.d (.sl (List.map TNode.enc a0))),(.d (.sl (List.map TNode.enc a1))),(.ap 1 1 (List.map D.bool a2)),(.ap 2 2 (List.map Tcheck_pair.enc a3)),(.mp 3),(.mp 4)])),(3,(pmO Tcheck_pair.enc (slE Tcheck_pair.enc) a4)),(4,(pmO Tcheck_pair.enc (D.int .i64) a5)),(1,(.tok ((List.map D.bool a2).length * 1))),(2,(.tok ((List.map Tcheck_pair.enc a3).length * 2)))]:=by
 refine acalls_ret ⟨_,Tryd.func58,by kernel_rfl,by kernel_rfl,rfl⟩ 5 5 5 [(4,(.d (.bool r)))] [(0,(.cells [(.d (.sl (List.map TNode.enc a0))),(.d (.sl (List.map TNode.enc a1))),(.ap 1 1 (List.map D.bool a2)),(.ap 2 2 (List.map Tcheck_pair.enc a3)),(.mp 3),(.mp 4)])),(3,(pmO Tcheck_pair.enc (slE Tcheck_pair.enc) a4)),(4,(pmO Tcheck_pair.enc (D.int .i64) a5)),(1,(.tok ((List.map D.bool a2).length * 1))),(2,(.tok ((List.map Tcheck_pair.enc a3).length * 2)))] (doneA (.inr rfl) rfl ⟨trivial,trivial⟩ (.refl _) (hasCons rfl (hasCons rfl (hasCons rfl (hasCons rfl (hasCons rfl hasNil)))))) ?_
 unfold f490v2 at h
 refine .seq (.e [] ?_)
 refine .seq ?_
 rcases cc h with ⟨c12,h⟩ | ⟨c12,h⟩
 · rcases cc h with ⟨c22,h⟩ | ⟨c22,h⟩
   · obtain ⟨b29,h⟩:=gd_some h
     refine .e [.br c12,.ln D.bool a2,.br c22,.iad D.bool a2 1 (fun _=>rfl) b29] ?_
     cases h
     exact .ret rz
   refine .e [.br c12,.ln D.bool a2,.br c22] ?_
   cases h
   exact .ret rz
 refine .e [.br c12,.br (rfl:false = false)] ?_
 cases h
 exact .ret rz
end Go.Proofs.Abs
