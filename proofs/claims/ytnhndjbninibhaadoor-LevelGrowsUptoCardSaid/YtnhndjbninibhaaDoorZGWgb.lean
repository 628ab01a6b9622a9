import Derived.Test.YtnhndjbninibhaaDoorZGWg
set_option linter.unusedVariables false
set_option linter.unusedSimpArgs false
set_option linter.unusedSectionVars false
set_option linter.unusedVariables false
set_option linter.unusedSimpArgs false
set_option maxRecDepth 100000
set_option maxHeartbeats 4000000
namespace Go.Proofs.Abs
open Go
def f359_l149 (y103_1:Int) (j70_1:(List Int)) (j70_2:Nat) (j70_4:(List TNode)) (r10:(Int×Nat×Int×(List TNode))) (a1:Nat):Nat→Int→Int→Option (LR2 Int Unit (Int×Nat×Int×(List TNode)))
  | 0,_,_=>none
  | k + 1,y149_1,y149_2=>cond (decide (y149_1 < y103_1)) (gd (0≤y149_1∧y149_1 < ((j70_1.length:Nat):Int)) (gd (0≤(rd j70_1 y149_1)∧(rd j70_1 y149_1) < ((j70_2:Nat):Int)) (gd (((rd j70_1 y149_1)).toNat < (setAt j70_4 (r10.1).toNat (fun w_=>{ w_ with fBranches:=j70_1 })).length) (cond (decide ((List.getD (setAt j70_4 (r10.1).toNat (fun w_=>{ w_ with fBranches:=j70_1 })) ((rd j70_1 y149_1)).toNat default).fKind = (List.getD (setAt j70_4 (r10.1).toNat (fun w_=>{ w_ with fBranches:=j70_1 })) ((rd j70_1 y103_1)).toNat default).fKind)) (cond (decide ((List.getD (setAt j70_4 (r10.1).toNat (fun w_=>{ w_ with fBranches:=j70_1 })) ((rd j70_1 y103_1)).toNat default).fKind≠(9:Int))) (cond (decide ((List.getD (setAt j70_4 (r10.1).toNat (fun w_=>{ w_ with fBranches:=j70_1 })) ((rd j70_1 y103_1)).toNat default).fKind≠(10:Int))) (cond (decide ((List.getD (setAt j70_4 (r10.1).toNat (fun w_=>{ w_ with fBranches:=j70_1 })) ((rd j70_1 y103_1)).toNat default).fKind≠(14:Int))) ((f362 k (setAt j70_4 (r10.1).toNat (fun w_=>{ w_ with fBranches:=j70_1 })) a1 j70_2 y149_2 (9:Int)).bind fun r206=>f359_l149 y103_1 j70_1 j70_2 j70_4 r10 a1 k (IntKind.i64.wrap (y149_1 + (1:Int))) r206) (gd (0≤y149_1∧y149_1 < ((j70_1.length:Nat):Int)) (gd (0≤y103_1∧y103_1 < ((j70_1.length:Nat):Int)) (cond (decide ((rd j70_1 y149_1) = (rd j70_1 y103_1))) ((f362 k (setAt j70_4 (r10.1).toNat (fun w_=>{ w_ with fBranches:=j70_1 })) a1 j70_2 y149_2 (9:Int)).bind fun r206=>f359_l149 y103_1 j70_1 j70_2 j70_4 r10 a1 k (IntKind.i64.wrap (y149_1 + (1:Int))) r206) (f359_l149 y103_1 j70_1 j70_2 j70_4 r10 a1 k (IntKind.i64.wrap (y149_1 + (1:Int))) y149_2))))) (gd (0≤y149_1∧y149_1 < ((j70_1.length:Nat):Int)) (gd (0≤y103_1∧y103_1 < ((j70_1.length:Nat):Int)) (cond (decide ((rd j70_1 y149_1) = (rd j70_1 y103_1))) ((f362 k (setAt j70_4 (r10.1).toNat (fun w_=>{ w_ with fBranches:=j70_1 })) a1 j70_2 y149_2 (9:Int)).bind fun r206=>f359_l149 y103_1 j70_1 j70_2 j70_4 r10 a1 k (IntKind.i64.wrap (y149_1 + (1:Int))) r206) (f359_l149 y103_1 j70_1 j70_2 j70_4 r10 a1 k (IntKind.i64.wrap (y149_1 + (1:Int))) y149_2))))) (gd (0≤y149_1∧y149_1 < ((j70_1.length:Nat):Int)) (gd (0≤y103_1∧y103_1 < ((j70_1.length:Nat):Int)) (cond (decide ((rd j70_1 y149_1) = (rd j70_1 y103_1))) ((f362 k (setAt j70_4 (r10.1).toNat (fun w_=>{ w_ with fBranches:=j70_1 })) a1 j70_2 y149_2 (9:Int)).bind fun r206=>f359_l149 y103_1 j70_1 j70_2 j70_4 r10 a1 k (IntKind.i64.wrap (y149_1 + (1:Int))) r206) (f359_l149 y103_1 j70_1 j70_2 j70_4 r10 a1 k (IntKind.i64.wrap (y149_1 + (1:Int))) y149_2))))) (f359_l149 y103_1 j70_1 j70_2 j70_4 r10 a1 k (IntKind.i64.wrap (y149_1 + (1:Int))) y149_2))))) (some (.b0 y149_2))
def f359_j145 (L:Int→Int→Option (LR2 Int Unit (Int×Nat×Int×(List TNode)))) (k:Nat) (y103_1:Int) (j70_1:(List Int)) (j70_2:Nat) (j70_4:(List TNode)) (r10:(Int×Nat×Int×(List TNode))) (a1:Nat) (j145_1:Int):Option (LR2 Int Unit (Int×Nat×Int×(List TNode))):=(f359_l149 y103_1 j70_1 j70_2 j70_4 r10 a1 k (0:Int) j145_1).bind fun o149=>(match o149 with | .b0 x149_1=>L (IntKind.i64.wrap (y103_1 + (1:Int))) x149_1 | _=>none)
def f359_l103 (j70_1:(List Int)) (j70_2:Nat) (j70_4:(List TNode)) (r10:(Int×Nat×Int×(List TNode))) (a1:Nat):Nat→Int→Int→Option (LR2 Int Unit (Int×Nat×Int×(List TNode)))
  | 0,_,_=>none
  | k + 1,y103_1,y103_2=>cond (decide (y103_1 < ((j70_1.length:Nat):Int))) (gd (0≤y103_1∧y103_1 < ((j70_1.length:Nat):Int)) (gd (0≤(rd j70_1 y103_1)∧(rd j70_1 y103_1) < ((j70_2:Nat):Int)) (gd (((rd j70_1 y103_1)).toNat < (setAt j70_4 (r10.1).toNat (fun w_=>{ w_ with fBranches:=j70_1 })).length) (cond (decide ((List.getD (setAt j70_4 (r10.1).toNat (fun w_=>{ w_ with fBranches:=j70_1 })) ((rd j70_1 y103_1)).toNat default).fKind = (13:Int))) ((f362 k (setAt j70_4 (r10.1).toNat (fun w_=>{ w_ with fBranches:=j70_1 })) a1 j70_2 y103_2 (9:Int)).bind fun r143=>f359_j145 (f359_l103 j70_1 j70_2 j70_4 r10 a1 k) k y103_1 j70_1 j70_2 j70_4 r10 a1 r143) (f359_j145 (f359_l103 j70_1 j70_2 j70_4 r10 a1 k) k y103_1 j70_1 j70_2 j70_4 r10 a1 y103_2))))) (some (.b0 y103_2))
def f359_j70 (k:Nat) (r10:(Int×Nat×Int×(List TNode))) (a1:Nat) (j70_1:(List Int)) (j70_2:Nat) (j70_3:Int) (j70_4:(List TNode)):Option (Int×Nat×Int×(List TNode)):=cond (decide (j70_3≠(0:Int))) (some ((0:Int),j70_2,j70_3,j70_4)) (gd (0≤r10.1∧r10.1 < ((j70_2:Nat):Int)) (gd (a1≤(r10.1).toNat∧(r10.1).toNat < j70_4.length) ((f359_l103 j70_1 j70_2 j70_4 r10 a1 k (0:Int) j70_3).bind fun o103=>(match o103 with | .b0 x103_1=>some (r10.1,j70_2,x103_1,(setAt j70_4 (r10.1).toNat (fun w_=>{ w_ with fBranches:=j70_1 }))) | _=>none))))
def f359_l35 (a4:TJson) (rc357:Y357) (a1:Nat) (a5:(List UInt8)):Nat→(List Int)→Int→Nat→Int→(List TNode)→Option (LR2 ((List Int)×Nat×Int×(List TNode)) Unit (Int×Nat×Int×(List TNode)))
  | 0,_,_,_,_,_=>none
  | k + 1,y35_1,y35_2,y35_3,y35_4,y35_5=>cond (decide (y35_2 < ((a4.fL.length:Nat):Int))) (gd (0≤y35_2∧y35_2 < ((a4.fL.length:Nat):Int)) ((TJson.dec (rtE (rd a4.fL y35_2))).bind fun rx58=>(rc357 y35_5 a1 y35_3 y35_4 rx58 a5).bind fun r61=>gd ((y35_1.length + ([r61.1]:List Int).length) * 2 * 8≤281474976710656) (f359_l35 a4 rc357 a1 a5 k (y35_1 ++ ([r61.1]:List Int)) (IntKind.i64.wrap (y35_2 + (1:Int))) r61.2.1 r61.2.2.1 r61.2.2.2))) (some (.b0 (y35_1,y35_3,y35_4,y35_5)))
def f359_j26 (k:Nat) (a4:TJson) (rc357:Y357) (a1:Nat) (a5:(List UInt8)) (r10:(Int×Nat×Int×(List TNode))) (j26_1:Int):Option (Int×Nat×Int×(List TNode)):=(f359_l35 a4 rc357 a1 a5 k ([]:List Int) (0:Int) r10.2.1 j26_1 r10.2.2.2).bind fun o35=>(match o35 with | .b0 (x35_1,x35_2,x35_3,x35_4)=>f359_j70 k r10 a1 x35_1 x35_2 x35_3 x35_4 | _=>none)
def f359 (rc357:Y357) (k:Nat) (a0:(List TNode)) (a1:Nat) (a2:Nat) (a3:Int) (a4:TJson) (a5:(List UInt8)):Option (Int×Nat×Int×(List TNode)):=(f363 k a0 a1 a2 a3 (13:Int)).bind fun r10=>cond (decide (((a4.fL.length:Nat):Int) = (0:Int))) ((f362 k r10.2.2.2 a1 r10.2.1 r10.2.2.1 (9:Int)).bind fun r24=>f359_j26 k a4 rc357 a1 a5 r10 r24) (f359_j26 k a4 rc357 a1 a5 r10 r10.2.2.1)
theorem F359 {rc357:Y357} (hrc357:RH357 rc357) {k:Nat} {a0:(List TNode)} {a1:Nat} {a2:Nat} {a3:Int} {a4:TJson} {a5:(List UInt8)} {r:(Int×Nat×Int×(List TNode))} (h:f359 rc357 k a0 a1 a2 a3 a4 a5 = some r) {vs:List Value} (hvs:vs.length≤a1 * 10) :
    ACalls Tryd.prog 49 [(.ptr 0 0),(.d (TJson.enc a4)),(.d (.str a5))] [(0,(.cells [(.row 1 10 a2),(.d (.int .i64 a3))])),(1,(.rowQ 3 10 vs [] (cellsD TNode.enc a0)))] (.d (.int .i64 r.1)) [(0,(.cells [(.row 2 10 r.2.1),(.d (.int .i64 r.2.2.1))])),(2,(.rowQ 3 10 vs [] (cellsD TNode.enc r.2.2.2)))]:=by
 refine acalls_ret ⟨_,Tryd.func49,by kernel_rfl,by kernel_rfl,rfl⟩ 2 3 3 [(6,(.d (.int .i64 r.1)))] [(0,(.cells [(.row 2 10 r.2.1),(.d (.int .i64 r.2.2.1))])),(2,(.rowQ 3 10 vs [] (cellsD TNode.enc r.2.2.2)))] (doneA (.inr rfl) rfl ⟨trivial,trivial⟩ (.refl _) (hasCons rfl (hasCons rfl hasNil))) ?_
 unfold f359 at h
 refine .seq (.e [] ?_)
 refine .seq ?_
 obtain ⟨r10,e10,h⟩:=bind_some h
 refine .e [.call (F363 e10 hvs) [(2,3)] 3] (.j 4 (fun z=>f359_j26 k a4 rc357 a1 a5 r10 z = some r) (fun z=>[(0,(.ptr 0 0)),(2,(.d (.str a5))),(4,(.ptr 2 0)),(7,(.d (.int .i64 r10.1)))]) (fun z=>[(0,(.cells [(.row 3 10 r10.2.1),(.d (.int .i64 z))])),(2,(.cells [(.d (.int .i64 a4.fKind)),(.d (.str a4.fText)),(.d (.sl (List.map (rtE (z:=4)) a4.fL))),(.d (.sl (List.map D.str a4.fKeys)))])),(3,(.rowQ 3 10 vs [] (cellsD TNode.enc r10.2.2.2)))]) ?_ ?_)
 · refine .seq (.e [.ln (rtE (z:=4)) a4.fL] ?_)
   refine .cD h (fun h=>?_) fun h=>?_
   · exact .skip ⟨_,h,inZ⟩
   obtain ⟨r24,e24,h⟩:=bind_some h
   exact .e [.call (F362 e24 hvs) [(1,3)] 2] ⟨_,h,inZ⟩
 intro j26_1 h
 unfold f359_j26 at h
 refine .seq (.e [] ?_)
 refine .j 4 (fun (z:((List Int)×Nat×Int×(List TNode)))=>f359_j70 k r10 a1 z.1 z.2.1 z.2.2.1 z.2.2.2 = some r) (fun z=>[(0,(.ptr 0 0)),(7,(.d (.int .i64 r10.1))),(8,(.ap 2 1 (List.map (D.int .i64) z.1)))]) (fun z=>[(0,(.cells [(.row 3 10 z.2.1),(.d (.int .i64 z.2.2.1))])),(2,(.tok ((List.map (D.int .i64) z.1).length * 1))),(3,(.rowQ 3 10 vs [] (cellsD TNode.enc z.2.2.2)))]) ?_ ?_
 · refine .seq (.e [] ?_)
   obtain ⟨o35,h35,h⟩:=bind_some h
   refine .block (.lp 5 (fun k (x:((List Int)×Int×Nat×Int×(List TNode)))=>f359_l35 a4 rc357 a1 a5 k x.1 x.2.1 x.2.2.1 x.2.2.2.1 x.2.2.2.2 = some o35) (fun x=>[(0,(.ptr 0 0)),(2,(.d (.str a5))),(4,(.ptr 2 0)),(7,(.d (.int .i64 r10.1))),(8,(.ap 3 1 (List.map (D.int .i64) x.1))),(9,(.d (.int .i64 x.2.1)))]) (fun x=>[(0,(.cells [(.row 4 10 x.2.2.1),(.d (.int .i64 x.2.2.2.1))])),(2,(.cells [(.d (.int .i64 a4.fKind)),(.d (.str a4.fText)),(.d (.sl (List.map (rtE (z:=4)) a4.fL))),(.d (.sl (List.map D.str a4.fKeys)))])),(3,(.tok ((List.map (D.int .i64) x.1).length * 1))),(4,(.rowQ 3 10 vs [] (cellsD TNode.enc x.2.2.2.2)))]) (([]:List Int),(0:Int),r10.2.1,j26_1,r10.2.2.2) h35 [(4,3),(3,4)] [.tok 0] ?_)
   rintro k ⟨y35_1,y35_2,y35_3,y35_4,y35_5⟩ h35
   dsimp only at h35 ⊢
   rw [f359_l35] at h35
   refine .seq (.seq ?_)
   refine .e [.ln (rtE (z:=4)) a4.fL] (.cD h35 (fun h35=>?_) fun h35=>?_)
   · cases h35
     dsimp only at h
     refine .exit (inBlk_eq ?_)
     exact ⟨(_,_,_,_),h,(inT [(2,3),(3,4)] [])⟩
   refine .skip (.seq ?_)
   refine .block ?_
   obtain ⟨b58,h35⟩:=gd_some h35
   obtain ⟨rx58,ex58,h35⟩:=bind_some h35
   obtain ⟨r61,e61,h35⟩:=bind_some h35
   obtain ⟨b63,h35⟩:=gd_some h35
   refine .e [.iadE (rtE (z:=4)) a4.fL 4 rtE_ok.len b58 (TJson.dec_eq ex58),.call (hrc357 _ _ _ _ _ _ _ e61 hvs) [(1,4),(2,5)] 3,.apA (D.int .i64) y35_1 ([r61.1]:List Int) 1 (fun _=>rfl) b63] (.e [] ?_)
   exact ⟨((y35_1 ++ ([r61.1]:List Int)),(IntKind.i64.wrap (y35_2 + (1:Int))),r61.2.1,r61.2.2.1,r61.2.2.2),h35,(inT [(3,6),(4,5)] [])⟩
 rintro ⟨j70_1,j70_2,j70_3,j70_4⟩ h
 dsimp only at h ⊢
 unfold f359_j70 at h
 refine .seq (.seq ?_)
 refine .e [] (.cB h (fun h=>?_) fun h=>?_)
 · refine .seq (.e [] ?_)
   cases h
   exact .ret (rq [(2,3)] [])
 refine .skip (.seq ?_)
 obtain ⟨b95,h⟩:=gd_some h
 obtain ⟨b97,h⟩:=gd_some h
 refine .e [.iaR (n:=j70_2) (k:=r10.1) b95,.stC TNode.ok 3 hvs j70_4 (i:=(r10.1).toNat) (j:=8) b97 (fun w_=>{ w_ with fBranches:=j70_1 }) (.ap 2 1 (List.map (D.int .i64) j70_1)) (.sl rfl)] (.seq ?_)
 refine .seq (.e [] ?_)
 obtain ⟨o103,h103,h⟩:=bind_some h
 refine .block (.lp 4 (fun k (x:(Int×Int))=>f359_l103 j70_1 j70_2 j70_4 r10 a1 k x.1 x.2 = some o103) (fun x=>[(0,(.ptr 0 0)),(7,(.d (.int .i64 r10.1))),(8,(.ap 2 1 (List.map (D.int .i64) j70_1))),(10,(.d (.int .i64 x.1)))]) (fun x=>[(0,(.cells [(.row 3 10 j70_2),(.d (.int .i64 x.2))])),(2,(.tok ((List.map (D.int .i64) j70_1).length * 1))),(3,(.rowQ 3 10 vs [] (cellsD TNode.enc (setAt j70_4 (r10.1).toNat (fun w_=>{ w_ with fBranches:=j70_1 })))))]) (_,_) h103 [] [] ?_)
 rintro k ⟨y103_1,y103_2⟩ h103
 dsimp only at h103 ⊢
 rw [f359_l103] at h103
 refine .seq (.seq ?_)
 refine .e [.ln (D.int .i64) j70_1] (.cD h103 (fun h103=>?_) fun h103=>?_)
 · cases h103
   dsimp only at h
   refine .exit (inBlk_eq ?_)
   refine .seq (.e [] ?_)
   cases h
   exact .ret (rq [(2,3)] [])
 refine .skip (.seq ?_)
 refine .block (.seq ?_)
 obtain ⟨b127,h103⟩:=gd_some h103
 obtain ⟨b129,h103⟩:=gd_some h103
 obtain ⟨b131,h103⟩:=gd_some h103
 refine .e [.iad (D.int .i64) j70_1 1 (fun _=>rfl) b127,.iaR (n:=j70_2) (k:=(rd j70_1 y103_1)) b129,.ldC TNode.ok 3 vs [] (setAt j70_4 (r10.1).toNat (fun w_=>{ w_ with fBranches:=j70_1 })) (i:=((rd j70_1 y103_1)).toNat) (j:=0) b131 (.int .i64 (List.getD (setAt j70_4 (r10.1).toNat (fun w_=>{ w_ with fBranches:=j70_1 })) ((rd j70_1 y103_1)).toNat default).fKind)] (.j 4 (fun z=>f359_j145 (f359_l103 j70_1 j70_2 j70_4 r10 a1 k) k y103_1 j70_1 j70_2 j70_4 r10 a1 z = some o103) (fun z=>[(0,(.ptr 0 0)),(7,(.d (.int .i64 r10.1))),(8,(.ap 2 1 (List.map (D.int .i64) j70_1))),(10,(.d (.int .i64 y103_1))),(11,(.d (.int .i64 (List.getD (setAt j70_4 (r10.1).toNat (fun w_=>{ w_ with fBranches:=j70_1 })) ((rd j70_1 y103_1)).toNat default).fKind)))]) (fun z=>[(0,(.cells [(.row 3 10 j70_2),(.d (.int .i64 z))])),(2,(.tok ((List.map (D.int .i64) j70_1).length * 1))),(3,(.rowQ 3 10 vs [] (cellsD TNode.enc (setAt j70_4 (r10.1).toNat (fun w_=>{ w_ with fBranches:=j70_1 })))))]) ?_ ?_)
 · refine .seq (.e [] ?_)
   refine .cD h103 (fun h103=>?_) fun h103=>?_
   · exact .skip ⟨_,h103,inZ⟩
   obtain ⟨r143,e143,h103⟩:=bind_some h103
   exact .e [.call (F362 e143 hvs) [(1,3)] 2] ⟨_,h103,inZ⟩
 intro j145_1 h103
 unfold f359_j145 at h103
 refine .seq (.e [] ?_)
 obtain ⟨o149,h149,h103⟩:=bind_some h103
 refine .block (.lp 4 (fun k (x:(Int×Int))=>f359_l149 y103_1 j70_1 j70_2 j70_4 r10 a1 k x.1 x.2 = some o149) (fun x=>[(0,(.ptr 0 0)),(7,(.d (.int .i64 r10.1))),(8,(.ap 2 1 (List.map (D.int .i64) j70_1))),(10,(.d (.int .i64 y103_1))),(11,(.d (.int .i64 (List.getD (setAt j70_4 (r10.1).toNat (fun w_=>{ w_ with fBranches:=j70_1 })) ((rd j70_1 y103_1)).toNat default).fKind))),(12,(.d (.int .i64 x.1)))]) (fun x=>[(0,(.cells [(.row 3 10 j70_2),(.d (.int .i64 x.2))])),(2,(.tok ((List.map (D.int .i64) j70_1).length * 1))),(3,(.rowQ 3 10 vs [] (cellsD TNode.enc (setAt j70_4 (r10.1).toNat (fun w_=>{ w_ with fBranches:=j70_1 })))))]) (_,_) h149 [] [] ?_)
 rintro k ⟨y149_1,y149_2⟩ h149
 dsimp only at h149 ⊢
 rw [f359_l149] at h149
 refine .seq (.seq ?_)
 refine .e [] (.cD h149 (fun h149=>?_) fun h149=>?_)
 · cases h149
   dsimp only at h103
   refine .exit (inBlk_eq ?_)
   exact .e [] ⟨(_,_),h103,inZ⟩
 refine .skip (.seq ?_)
 refine .block (.seq ?_)
 obtain ⟨b172,h149⟩:=gd_some h149
 obtain ⟨b174,h149⟩:=gd_some h149
 obtain ⟨b176,h149⟩:=gd_some h149
 rcases cc h149 with ⟨c179,h149⟩ | ⟨c179,h149⟩
 · rcases cc h149 with ⟨c182,h149⟩ | ⟨c182,h149⟩
   · rcases cc h149 with ⟨c186,h149⟩ | ⟨c186,h149⟩
     · rcases cc h149 with ⟨c190,h149⟩ | ⟨c190,h149⟩
       · refine .e [.iad (D.int .i64) j70_1 1 (fun _=>rfl) b172,.iaR (n:=j70_2) (k:=(rd j70_1 y149_1)) b174,.ldC TNode.ok 3 vs [] (setAt j70_4 (r10.1).toNat (fun w_=>{ w_ with fBranches:=j70_1 })) (i:=((rd j70_1 y149_1)).toNat) (j:=0) b176 (.int .i64 (List.getD (setAt j70_4 (r10.1).toNat (fun w_=>{ w_ with fBranches:=j70_1 })) ((rd j70_1 y149_1)).toNat default).fKind),.br c179,.br c182,.br c186,.br c190] (.cT rfl ?_)
         obtain ⟨r206,e206,h149⟩:=bind_some h149
         refine .e [.call (F362 e206 hvs) [(1,3)] 2] (.e [] ?_)
         exact ⟨(_,_),h149,inZ⟩
       obtain ⟨b193,h149⟩:=gd_some h149
       obtain ⟨b197,h149⟩:=gd_some h149
       refine .e [.iad (D.int .i64) j70_1 1 (fun _=>rfl) b172,.iaR (n:=j70_2) (k:=(rd j70_1 y149_1)) b174,.ldC TNode.ok 3 vs [] (setAt j70_4 (r10.1).toNat (fun w_=>{ w_ with fBranches:=j70_1 })) (i:=((rd j70_1 y149_1)).toNat) (j:=0) b176 (.int .i64 (List.getD (setAt j70_4 (r10.1).toNat (fun w_=>{ w_ with fBranches:=j70_1 })) ((rd j70_1 y149_1)).toNat default).fKind),.br c179,.br c182,.br c186,.br c190,.iad (D.int .i64) j70_1 1 (fun _=>rfl) b193,.iad (D.int .i64) j70_1 1 (fun _=>rfl) b197] (.cD h149 (fun h149=>?_) fun h149=>?_)
       · refine .skip (.e [] ?_)
         exact ⟨(_,_),h149,inZ⟩
       obtain ⟨r206,e206,h149⟩:=bind_some h149
       refine .e [.call (F362 e206 hvs) [(1,3)] 2] (.e [] ?_)
       exact ⟨(_,_),h149,inZ⟩
     obtain ⟨b193,h149⟩:=gd_some h149
     obtain ⟨b197,h149⟩:=gd_some h149
     refine .e [.iad (D.int .i64) j70_1 1 (fun _=>rfl) b172,.iaR (n:=j70_2) (k:=(rd j70_1 y149_1)) b174,.ldC TNode.ok 3 vs [] (setAt j70_4 (r10.1).toNat (fun w_=>{ w_ with fBranches:=j70_1 })) (i:=((rd j70_1 y149_1)).toNat) (j:=0) b176 (.int .i64 (List.getD (setAt j70_4 (r10.1).toNat (fun w_=>{ w_ with fBranches:=j70_1 })) ((rd j70_1 y149_1)).toNat default).fKind),.br c179,.br c182,.br c186,.br (rfl:false = false),.iad (D.int .i64) j70_1 1 (fun _=>rfl) b193,.iad (D.int .i64) j70_1 1 (fun _=>rfl) b197] (.cD h149 (fun h149=>?_) fun h149=>?_)
     · refine .skip (.e [] ?_)
       exact ⟨(_,_),h149,inZ⟩
     obtain ⟨r206,e206,h149⟩:=bind_some h149
     refine .e [.call (F362 e206 hvs) [(1,3)] 2] (.e [] ?_)
     exact ⟨(_,_),h149,inZ⟩
   obtain ⟨b193,h149⟩:=gd_some h149
   obtain ⟨b197,h149⟩:=gd_some h149
   refine .e [.iad (D.int .i64) j70_1 1 (fun _=>rfl) b172,.iaR (n:=j70_2) (k:=(rd j70_1 y149_1)) b174,.ldC TNode.ok 3 vs [] (setAt j70_4 (r10.1).toNat (fun w_=>{ w_ with fBranches:=j70_1 })) (i:=((rd j70_1 y149_1)).toNat) (j:=0) b176 (.int .i64 (List.getD (setAt j70_4 (r10.1).toNat (fun w_=>{ w_ with fBranches:=j70_1 })) ((rd j70_1 y149_1)).toNat default).fKind),.br c179,.br c182,.br (rfl:false = false),.br (rfl:false = false),.iad (D.int .i64) j70_1 1 (fun _=>rfl) b193,.iad (D.int .i64) j70_1 1 (fun _=>rfl) b197] (.cD h149 (fun h149=>?_) fun h149=>?_)
   · refine .skip (.e [] ?_)
     exact ⟨(_,_),h149,inZ⟩
   obtain ⟨r206,e206,h149⟩:=bind_some h149
   refine .e [.call (F362 e206 hvs) [(1,3)] 2] (.e [] ?_)
   exact ⟨(_,_),h149,inZ⟩
 refine .e [.iad (D.int .i64) j70_1 1 (fun _=>rfl) b172,.iaR (n:=j70_2) (k:=(rd j70_1 y149_1)) b174,.ldC TNode.ok 3 vs [] (setAt j70_4 (r10.1).toNat (fun w_=>{ w_ with fBranches:=j70_1 })) (i:=((rd j70_1 y149_1)).toNat) (j:=0) b176 (.int .i64 (List.getD (setAt j70_4 (r10.1).toNat (fun w_=>{ w_ with fBranches:=j70_1 })) ((rd j70_1 y149_1)).toNat default).fKind),.br c179] (.cF rfl ?_)
 refine .skip (.e [] ?_)
 exact ⟨(_,_),h149,inZ⟩
def f346_j68 (k:Nat):Option (Bool×Int×(List UInt8)×(List (RT 4))×(List (List UInt8))):=some (false,(0:Int),([]:List UInt8),([]:List (RT 4)),([]:List (List UInt8)))
def f346_l12 (a0:TJson) (a1:(List UInt8)):Nat→Int→Option (LR2 Unit Unit (Bool×Int×(List UInt8)×(List (RT 4))×(List (List UInt8))))
  | 0,_=>none
  | k + 1,y12_1=>cond (decide (a0.fKind = (7:Int))) (cond (decide (y12_1 < ((a0.fKeys.length:Nat):Int))) (cond (decide (y12_1 < ((a0.fL.length:Nat):Int))) (gd (0≤y12_1∧y12_1 < ((a0.fKeys.length:Nat):Int)) (cond (decide ((rd a0.fKeys y12_1) = a1)) (gd (0≤y12_1∧y12_1 < ((a0.fL.length:Nat):Int)) ((TJson.dec (rtE (rd a0.fL y12_1))).bind fun rx57=>some (.r (true,rx57.fKind,rx57.fText,rx57.fL,rx57.fKeys)))) (f346_l12 a0 a1 k (IntKind.i64.wrap (y12_1 + (1:Int)))))) (some (.b0 ()))) (some (.b0 ()))) (some (.b0 ()))
def f346 (k:Nat) (a0:TJson) (a1:(List UInt8)):Option (Bool×Int×(List UInt8)×(List (RT 4))×(List (List UInt8))):=(f346_l12 a0 a1 k (0:Int)).bind fun o12=>(match o12 with | .b0 ()=>f346_j68 k | .r x=>some x | _=>none)
theorem F346 {k:Nat} {a0:TJson} {a1:(List UInt8)} {r:(Bool×Int×(List UInt8)×(List (RT 4))×(List (List UInt8)))} (h:f346 k a0 a1 = some r) :
    ACalls Tryd.prog 50 [(.d (TJson.enc a0)),(.d (.str a1))] [] (.tup [(.d (.agg [(.int .i64 r.2.1),(.str r.2.2.1),(.sl (List.map (rtE (z:=4)) r.2.2.2.1)),(.sl (List.map D.str r.2.2.2.2))])),(.d (.bool r.1))]) []:=by
 refine acalls_ret ⟨_,Tryd.func50,by kernel_rfl,by kernel_rfl,rfl⟩ 0 0 1 [(4,(.ptr 0 0)),(5,(.d (.bool r.1)))] [(0,(.cells [(.d (.int .i64 r.2.1)),(.d (.str r.2.2.1)),(.d (.sl (List.map (rtE (z:=4)) r.2.2.2.1))),(.d (.sl (List.map D.str r.2.2.2.2)))]))] (doneA (.inr rfl) rfl ⟨(Nat.le_of_ble_eq_true rfl),⟨trivial,trivial⟩⟩ (.refl _) hasNil) ?_
 unfold f346 at h
 refine .seq (.e [] ?_)
 refine .j 1 (fun (z:Unit)=>f346_j68 k = some r) (fun z=>[(4,(.ptr 0 0))]) (fun z=>[(0,(.cells [(.d (.int .i64 (0:Int))),(.d (.str ([]:List UInt8))),.nils,.nils]))]) ?_ ?_
 · refine .seq (.e [] ?_)
   obtain ⟨o12,h12,h⟩:=bind_some h
   refine .block (.lp 2 (fun k (x:Int)=>f346_l12 a0 a1 k x = some o12) (fun x=>[(1,(.d (.str a1))),(2,(.ptr 0 0)),(4,(.ptr 1 0)),(6,(.d (.int .i64 x)))]) (fun x=>[(0,(.cells [(.d (.int .i64 a0.fKind)),(.d (.str a0.fText)),(.d (.sl (List.map (rtE (z:=4)) a0.fL))),(.d (.sl (List.map D.str a0.fKeys)))])),(1,(.cells [(.d (.int .i64 (0:Int))),(.d (.str ([]:List UInt8))),.nils,.nils]))]) _ h12 [] [] ?_)
   intro k y12_1 h12
   rw [f346_l12] at h12
   refine .seq (.seq ?_)
   rcases cc h12 with ⟨c21,h12⟩ | ⟨c21,h12⟩
   · rcases cc h12 with ⟨c28,h12⟩ | ⟨c28,h12⟩
     · refine .e [.br c21,.ln D.str a0.fKeys,.br c28,.ln (rtE (z:=4)) a0.fL] (.cD h12 (fun h12=>?_) fun h12=>?_)
       · cases h12
         dsimp only at h
         refine .exit (inBlk_eq ?_)
         exact ⟨(),h,(inT [(0,1)] [])⟩
       refine .skip (.seq ?_)
       refine .block (.seq ?_)
       obtain ⟨b46,h12⟩:=gd_some h12
       refine .e [.iad D.str a0.fKeys 1 (fun _=>rfl) b46] (.cD h12 (fun h12=>?_) fun h12=>?_)
       · refine .skip (.e [] ?_)
         exact ⟨_,h12,inZ⟩
       refine .seq ?_
       obtain ⟨b57,h12⟩:=gd_some h12
       obtain ⟨rx57,ex57,h12⟩:=bind_some h12
       refine .e [.iadE (rtE (z:=4)) a0.fL 4 rtE_ok.len b57 (TJson.dec_eq ex57)] ?_
       cases h12
       dsimp only at h
       cases h
       exact .ret (rq [(0,1)] [])
     refine .e [.br c21,.ln D.str a0.fKeys,.br c28] (.cF rfl ?_)
     cases h12
     dsimp only at h
     refine .exit (inBlk_eq ?_)
     exact ⟨(),h,(inT [(0,1)] [])⟩
   refine .e [.br c21,.br (rfl:false = false)] (.cF rfl ?_)
   cases h12
   dsimp only at h
   refine .exit (inBlk_eq ?_)
   exact ⟨(),h,(inT [(0,1)] [])⟩
 rintro ⟨⟩ h
 unfold f346_j68 at h
 refine .seq (.e [] ?_)
 cases h
 exact .ret rz
def f360_j37 (k:Nat) (rc357:Y357) (r11:(Int×Nat×Int×(List TNode))) (a1:Nat) (r18:(Bool×Int×(List UInt8)×(List (RT 4))×(List (List UInt8)))) (a7:(List UInt8)) (j37_1:Int):Option (Int×Nat×Int×(List TNode)):=(rc357 r11.2.2.2 a1 r11.2.1 j37_1 (TJson.mk r18.2.1 r18.2.2.1 r18.2.2.2.1 r18.2.2.2.2) a7).bind fun r43=>cond (decide (r43.2.2.1 = (0:Int))) (gd (0≤r11.1∧r11.1 < ((r43.2.1:Nat):Int)) (gd (a1≤(r11.1).toNat∧(r11.1).toNat < r43.2.2.2.length) (some (r11.1,r43.2.1,r43.2.2.1,(setAt r43.2.2.2 (r11.1).toNat (fun w_=>{ w_ with fItems:=r43.1 })))))) (some (r11.1,r43.2.1,r43.2.2.1,r43.2.2.2))
def f360 (rc357:Y357) (k:Nat) (a0:(List TNode)) (a1:Nat) (a2:Nat) (a3:Int) (a4:Int) (a5:TJson) (a6:(List UInt8)) (a7:(List UInt8)):Option (Int×Nat×Int×(List TNode)):=(f363 k a0 a1 a2 a3 a4).bind fun r11=>(f346 k a5 a6).bind fun r18=>cond (!r18.1) ((f362 k r11.2.2.2 a1 r11.2.1 r11.2.2.1 (9:Int)).bind fun r35=>f360_j37 k rc357 r11 a1 r18 a7 r35) (f360_j37 k rc357 r11 a1 r18 a7 r11.2.2.1)
theorem F360 {rc357:Y357} (hrc357:RH357 rc357) {k:Nat} {a0:(List TNode)} {a1:Nat} {a2:Nat} {a3:Int} {a4:Int} {a5:TJson} {a6:(List UInt8)} {a7:(List UInt8)} {r:(Int×Nat×Int×(List TNode))} (h:f360 rc357 k a0 a1 a2 a3 a4 a5 a6 a7 = some r) {vs:List Value} (hvs:vs.length≤a1 * 10) :
    ACalls Tryd.prog 51 [(.ptr 0 0),(.d (.int .i64 a4)),(.d (TJson.enc a5)),(.d (.str a6)),(.d (.str a7))] [(0,(.cells [(.row 1 10 a2),(.d (.int .i64 a3))])),(1,(.rowQ 3 10 vs [] (cellsD TNode.enc a0)))] (.d (.int .i64 r.1)) [(0,(.cells [(.row 2 10 r.2.1),(.d (.int .i64 r.2.2.1))])),(2,(.rowQ 3 10 vs [] (cellsD TNode.enc r.2.2.2)))]:=by
 refine acalls_ret ⟨_,Tryd.func51,by kernel_rfl,by kernel_rfl,rfl⟩ 2 3 3 [(10,(.d (.int .i64 r.1)))] [(0,(.cells [(.row 2 10 r.2.1),(.d (.int .i64 r.2.2.1))])),(2,(.rowQ 3 10 vs [] (cellsD TNode.enc r.2.2.2)))] (doneA (.inr rfl) rfl ⟨trivial,trivial⟩ (.refl _) (hasCons rfl (hasCons rfl hasNil))) ?_
 unfold f360 at h
 refine .seq (.e [] ?_)
 refine .seq ?_
 obtain ⟨r11,e11,h⟩:=bind_some h
 refine .e [.call (F363 e11 hvs) [(2,3)] 3] (.seq ?_)
 obtain ⟨r18,e18,h⟩:=bind_some h
 refine .e [.call (F346 e18) [] 0] (.j 4 (fun z=>f360_j37 k rc357 r11 a1 r18 a7 z = some r) (fun z=>[(0,(.ptr 0 0)),(4,(.d (.str a7))),(11,(.d (.int .i64 r11.1))),(12,(.ptr 2 0))]) (fun z=>[(0,(.cells [(.row 3 10 r11.2.1),(.d (.int .i64 z))])),(2,(.cells [(.d (.int .i64 r18.2.1)),(.d (.str r18.2.2.1)),(.d (.sl (List.map (rtE (z:=4)) r18.2.2.2.1))),(.d (.sl (List.map D.str r18.2.2.2.2)))])),(3,(.rowQ 3 10 vs [] (cellsD TNode.enc r11.2.2.2)))]) ?_ ?_)
 · refine .seq (.e [] ?_)
   refine .cD h (fun h=>?_) fun h=>?_
   · exact .skip ⟨_,h,(inT [(2,4)] [])⟩
   obtain ⟨r35,e35,h⟩:=bind_some h
   exact .e [.call (F362 e35 hvs) [(1,3)] 2] ⟨_,h,(inT [(2,4)] [])⟩
 intro j37_1 h
 unfold f360_j37 at h
 refine .seq ?_
 obtain ⟨r43,e43,h⟩:=bind_some h
 refine .e [.call (hrc357 _ _ _ _ _ _ _ e43 hvs) [(1,3),(2,4)] 3] (.seq ?_)
 refine .seq (.e [] ?_)
 refine .cD h (fun h=>?_) fun h=>?_
 · refine .skip (.seq ?_)
   refine .e [] ?_
   cases h
   exact .ret (rq [(2,4)] [])
 obtain ⟨b63,h⟩:=gd_some h
 obtain ⟨b65,h⟩:=gd_some h
 refine .e [.iaR (n:=r43.2.1) (k:=r11.1) b63,.stC TNode.ok 3 hvs r43.2.2.2 (i:=(r11.1).toNat) (j:=7) b65 (fun w_=>{ w_ with fItems:=r43.1 }) (.d (.int .i64 r43.1)) (.refl _)] (.seq ?_)
 refine .e [] ?_
 cases h
 exact .ret (rq [(2,4)] [])
def f343 (k:Nat) (a0:(List UInt8)):Option (List UInt8):=(f257 k a0).bind fun r10=>gd (0≤(0:Int)∧(0:Int)≤(max (0:Int) r10)∧(max (0:Int) r10)≤((a0.length:Nat):Int)) (some (sl a0 (0:Int) (max (0:Int) r10)))
theorem F343 {k:Nat} {a0:(List UInt8)} {r:(List UInt8)} (h:f343 k a0 = some r) :
    ACalls Tryd.prog 74 [(.d (.str a0))] [] (.d (.str r)) []:=by
 refine acalls_ret ⟨_,Tryd.func74,by kernel_rfl,by kernel_rfl,rfl⟩ 0 0 0 [(2,(.d (.str r)))] [] (doneA (.inr rfl) rfl ⟨trivial,trivial⟩ (.refl _) hasNil) ?_
 unfold f343 at h
 refine .seq (.e [] ?_)
 refine .seq ?_
 obtain ⟨r10,e10,h⟩:=bind_some h
 obtain ⟨b12,h⟩:=gd_some h
 refine .e [.call (F257 e10) [] 0,.sd b12] ?_
 cases h
 exact .ret rz
def f365_j130 (L:(List (List UInt8))→Int→Option (LR2 (List (List UInt8)) Unit ((List (List UInt8))×Int))) (k:Nat) (a0:(List TNode)) (a1:Nat) (a2:Nat) (a3:Int) (y58_1:(List (List UInt8))) (j115_1:(List UInt8)) (y58_2:Int) (j130_1:Bool):Option (LR2 (List (List UInt8)) Unit ((List (List UInt8))×Int)):=cond j130_1 ((f362 k a0 a1 a2 a3 (6:Int)).bind fun r135=>some (.r (([]:List (List UInt8)),r135))) (gd ((y58_1.length + ([j115_1]:List (List UInt8)).length) * 2 * 16≤281474976710656) (L (y58_1 ++ ([j115_1]:List (List UInt8))) (IntKind.i64.wrap (y58_2 + (1:Int)))))
def f365_j115 (L:(List (List UInt8))→Int→Option (LR2 (List (List UInt8)) Unit ((List (List UInt8))×Int))) (k:Nat) (y58_2:Int) (r10:(Bool×Int×(List UInt8)×(List (RT 4))×(List (List UInt8)))) (a0:(List TNode)) (a1:Nat) (a2:Nat) (a3:Int) (y58_1:(List (List UInt8))) (j115_1:(List UInt8)) (j115_2:Bool):Option (LR2 (List (List UInt8)) Unit ((List (List UInt8))×Int)):=gd (0≤y58_2∧y58_2 < ((r10.2.2.2.1.length:Nat):Int)) ((TJson.dec (rtE (rd r10.2.2.2.1 y58_2))).bind fun rx122=>cond (decide (rx122.fKind≠(5:Int))) (f365_j130 (L) k a0 a1 a2 a3 y58_1 j115_1 y58_2 true) (f365_j130 (L) k a0 a1 a2 a3 y58_1 j115_1 y58_2 (!j115_2)))
def f365_l58 (r10:(Bool×Int×(List UInt8)×(List (RT 4))×(List (List UInt8)))) (a6:Bool) (a5:(List UInt8)) (a0:(List TNode)) (a1:Nat) (a2:Nat) (a3:Int):Nat→(List (List UInt8))→Int→Option (LR2 (List (List UInt8)) Unit ((List (List UInt8))×Int))
  | 0,_,_=>none
  | k + 1,y58_1,y58_2=>cond (decide (y58_2 < ((r10.2.2.2.1.length:Nat):Int))) (gd (0≤y58_2∧y58_2 < ((r10.2.2.2.1.length:Nat):Int)) ((TJson.dec (rtE (rd r10.2.2.2.1 y58_2))).bind fun rx80=>gd (0≤y58_2∧y58_2 < ((r10.2.2.2.1.length:Nat):Int)) ((TJson.dec (rtE (rd r10.2.2.2.1 y58_2))).bind fun rx86=>(f339 k rx86.fText).bind fun r89=>cond (!a6) (gd (0≤y58_2∧y58_2 < ((r10.2.2.2.1.length:Nat):Int)) ((TJson.dec (rtE (rd r10.2.2.2.1 y58_2))).bind fun rx104=>(f338 k rx104.fText a5).bind fun r108=>f365_j115 (f365_l58 r10 a6 a5 a0 a1 a2 a3 k) k y58_2 r10 a0 a1 a2 a3 y58_1 r108.1 r108.2)) (f365_j115 (f365_l58 r10 a6 a5 a0 a1 a2 a3 k) k y58_2 r10 a0 a1 a2 a3 y58_1 rx80.fText r89)))) (some (.b0 y58_1))
def f365 (k:Nat) (a0:(List TNode)) (a1:Nat) (a2:Nat) (a3:Int) (a4:TJson) (a5:(List UInt8)) (a6:Bool):Option ((List (List UInt8))×Int):=(f346 k a4 ([97,108,105,97,115,101,115]:List UInt8)).bind fun r10=>cond (!r10.1) (some (([]:List (List UInt8)),a3)) (cond (decide (r10.2.1≠(6:Int))) ((f362 k a0 a1 a2 a3 (6:Int)).bind fun r42=>some (([]:List (List UInt8)),r42)) ((f365_l58 r10 a6 a5 a0 a1 a2 a3 k ([]:List (List UInt8)) (0:Int)).bind fun o58=>(match o58 with | .b0 x58_1=>some (x58_1,a3) | .r x=>some x | _=>none)))
theorem F365 {k:Nat} {a0:(List TNode)} {a1:Nat} {a2:Nat} {a3:Int} {a4:TJson} {a5:(List UInt8)} {a6:Bool} {r:((List (List UInt8))×Int)} (h:f365 k a0 a1 a2 a3 a4 a5 a6 = some r) {vs:List Value} (hvs:vs.length≤a1 * 10) :
    ACalls Tryd.prog 73 [(.ptr 0 0),(.d (TJson.enc a4)),(.d (.str a5)),(.d (.bool a6))] [(0,(.cells [(.row 1 10 a2),(.d (.int .i64 a3))])),(1,(.rowQ 3 10 vs [] (cellsD TNode.enc a0)))] (.ap 2 1 (List.map D.str r.1)) [(2,(.tok ((List.map D.str r.1).length * 1))),(0,(.cells [(.row 1 10 a2),(.d (.int .i64 r.2))])),(1,(.rowQ 3 10 vs [] (cellsD TNode.enc a0)))]:=by
 refine acalls_ret ⟨_,Tryd.func73,by kernel_rfl,by kernel_rfl,rfl⟩ 2 3 3 [(8,(.ap 2 1 (List.map D.str r.1)))] [(2,(.tok ((List.map D.str r.1).length * 1))),(0,(.cells [(.row 1 10 a2),(.d (.int .i64 r.2))])),(1,(.rowQ 3 10 vs [] (cellsD TNode.enc a0)))] (doneA (.inr rfl) rfl ⟨trivial,trivial⟩ (.refl _) (hasCons rfl (hasCons rfl (hasCons rfl hasNil)))) ?_
 unfold f365 at h
 refine .seq (.e [] ?_)
 refine .seq ?_
 obtain ⟨r10,e10,h⟩:=bind_some h
 refine .e [.call (F346 e10) [] 0] (.seq ?_)
 refine .seq (.e [] ?_)
 refine .cB h (fun h=>?_) fun h=>?_
 · refine .seq (.e [] ?_)
   cases h
   exact .ret (rq [(2,4)] [.tok 0])
 refine .skip (.seq ?_)
 refine .seq (.e [] ?_)
 refine .cB h (fun h=>?_) fun h=>?_
 · refine .seq ?_
   obtain ⟨r42,e42,h⟩:=bind_some h
   refine .e [.call (F362 e42 hvs) [] 2] (.seq ?_)
   refine .e [] ?_
   cases h
   exact .ret (rq [(2,4)] [.tok 0])
 refine .skip (.seq ?_)
 refine .e [] (.seq ?_)
 refine .seq (.e [] ?_)
 obtain ⟨o58,h58,h⟩:=bind_some h
 refine .block (.lp 4 (fun k (x:((List (List UInt8))×Int))=>f365_l58 r10 a6 a5 a0 a1 a2 a3 k x.1 x.2 = some o58) (fun x=>[(0,(.ptr 0 0)),(2,(.d (.str a5))),(3,(.d (.bool a6))),(9,(.ptr 2 0)),(11,(.ap 3 1 (List.map D.str x.1))),(12,(.d (.int .i64 x.2)))]) (fun x=>[(0,(.cells [(.row 1 10 a2),(.d (.int .i64 a3))])),(2,(.cells [(.d (.int .i64 r10.2.1)),(.d (.str r10.2.2.1)),(.d (.sl (List.map (rtE (z:=4)) r10.2.2.2.1))),(.d (.sl (List.map D.str r10.2.2.2.2)))])),(3,(.tok ((List.map D.str x.1).length * 1))),(1,(.rowQ 3 10 vs [] (cellsD TNode.enc a0)))]) (_,_) h58 [(2,3),(3,4)] [.tok 0] ?_)
 rintro k ⟨y58_1,y58_2⟩ h58
 dsimp only at h58 ⊢
 rw [f365_l58] at h58
 refine .seq (.seq ?_)
 refine .e [.ln (rtE (z:=4)) r10.2.2.2.1] (.cD h58 (fun h58=>?_) fun h58=>?_)
 · cases h58
   dsimp only at h
   refine .exit (inBlk_eq ?_)
   refine .seq (.e [] ?_)
   cases h
   exact .ret (rq [(2,3)] [])
 refine .skip (.seq ?_)
 refine .block (.seq ?_)
 obtain ⟨b80,h58⟩:=gd_some h58
 obtain ⟨rx80,ex80,h58⟩:=bind_some h58
 obtain ⟨b86,h58⟩:=gd_some h58
 obtain ⟨rx86,ex86,h58⟩:=bind_some h58
 obtain ⟨r89,e89,h58⟩:=bind_some h58
 refine .e [.iadE (rtE (z:=4)) r10.2.2.2.1 4 rtE_ok.len b80 (TJson.dec_eq ex80),.iadE (rtE (z:=4)) r10.2.2.2.1 4 rtE_ok.len b86 (TJson.dec_eq ex86),.call (F339 e89) [] 0] (.j 4 (fun (z:((List UInt8)×Bool))=>f365_j115 (f365_l58 r10 a6 a5 a0 a1 a2 a3 k) k y58_2 r10 a0 a1 a2 a3 y58_1 z.1 z.2 = some o58) (fun z=>[(0,(.ptr 0 0)),(2,(.d (.str a5))),(3,(.d (.bool a6))),(9,(.ptr 2 0)),(11,(.ap 3 1 (List.map D.str y58_1))),(12,(.d (.int .i64 y58_2))),(13,(.d (.str z.1))),(14,(.d (.bool z.2)))]) (fun z=>[(0,(.cells [(.row 1 10 a2),(.d (.int .i64 a3))])),(2,(.cells [(.d (.int .i64 r10.2.1)),(.d (.str r10.2.2.1)),(.d (.sl (List.map (rtE (z:=4)) r10.2.2.2.1))),(.d (.sl (List.map D.str r10.2.2.2.2)))])),(3,(.tok ((List.map D.str y58_1).length * 1))),(1,(.rowQ 3 10 vs [] (cellsD TNode.enc a0)))]) ?_ ?_)
 · refine .seq (.e [] ?_)
   refine .cD h58 (fun h58=>?_) fun h58=>?_
   · exact .skip ⟨(_,_),h58,inZ⟩
   obtain ⟨b104,h58⟩:=gd_some h58
   obtain ⟨rx104,ex104,h58⟩:=bind_some h58
   obtain ⟨r108,e108,h58⟩:=bind_some h58
   exact .e [.iadE (rtE (z:=4)) r10.2.2.2.1 4 rtE_ok.len b104 (TJson.dec_eq ex104),.call (F338 e108) [] 0] ⟨(r108.1,r108.2),h58,inZ⟩
 rintro ⟨j115_1,j115_2⟩ h58
 dsimp only at h58 ⊢
 unfold f365_j115 at h58
 refine .seq (.j 4 (fun z=>f365_j130 (f365_l58 r10 a6 a5 a0 a1 a2 a3 k) k a0 a1 a2 a3 y58_1 j115_1 y58_2 z = some o58) (fun z=>[(0,(.ptr 0 0)),(2,(.d (.str a5))),(3,(.d (.bool a6))),(9,(.ptr 2 0)),(11,(.ap 3 1 (List.map D.str y58_1))),(12,(.d (.int .i64 y58_2))),(13,(.d (.str j115_1))),(68,.any),(69,.any),(70,(.d (.bool z)))]) (fun z=>[(0,(.cells [(.row 1 10 a2),(.d (.int .i64 a3))])),(2,(.cells [(.d (.int .i64 r10.2.1)),(.d (.str r10.2.2.1)),(.d (.sl (List.map (rtE (z:=4)) r10.2.2.2.1))),(.d (.sl (List.map D.str r10.2.2.2.2)))])),(3,(.tok ((List.map D.str y58_1).length * 1))),(1,(.rowQ 3 10 vs [] (cellsD TNode.enc a0)))]) ?_ ?_)
 · obtain ⟨b122,h58⟩:=gd_some h58
   obtain ⟨rx122,ex122,h58⟩:=bind_some h58
   rcases cc h58 with ⟨c126,h58⟩ | ⟨c126,h58⟩
   · exact .e [.iadE (rtE (z:=4)) r10.2.2.2.1 4 rtE_ok.len b122 (TJson.dec_eq ex122),.br c126] ⟨_,h58,inZ⟩
   exact .e [.iadE (rtE (z:=4)) r10.2.2.2.1 4 rtE_ok.len b122 (TJson.dec_eq ex122),.br c126] ⟨_,h58,inZ⟩
 intro j130_1 h58
 unfold f365_j130 at h58
 refine .cD h58 (fun h58=>?_) fun h58=>?_
 · refine .skip ?_
   obtain ⟨b147,h58⟩:=gd_some h58
   refine .e [.apA D.str y58_1 ([j115_1]:List (List UInt8)) 1 (fun _=>rfl) b147] (.e [] ?_)
   exact ⟨(_,_),h58,(inT [(3,4)] [])⟩
 refine .seq ?_
 obtain ⟨r135,e135,h58⟩:=bind_some h58
 refine .e [.call (F362 e135 hvs) [] 2] (.seq ?_)
 refine .e [] ?_
 cases h58
 dsimp only at h
 cases h
 exact .ret (rq [(2,4)] [.tok 0])
abbrev Y348:=TJson→Int→Option Bool
def RH348 (rc348:Y348):Prop:=∀ (a0:TJson) (a1:Int) (r:Bool),rc348 a0 a1 = some r→ACalls Tryd.prog 77 [(.d (TJson.enc a0)),(.d (.int .i64 a1))] [] (.d (.bool r)) []
def f349 (k:Nat) (a0:(List UInt8)):Option Bool:=(f350 k a0 (0:Int) (0:Int)).bind fun r16=>cond (decide (r16.2.2 = (0:Int))) (cond (decide (r16.2.1 = ((a0.length:Nat):Int))) (some (decide (r16.1 = a0))) (some false)) (some false)
theorem F349 {k:Nat} {a0:(List UInt8)} {r:Bool} (h:f349 k a0 = some r) :
    ACalls Tryd.prog 97 [(.d (.str a0))] [] (.d (.bool r)) []:=by
 refine acalls_ret ⟨_,Tryd.func97,by kernel_rfl,by kernel_rfl,rfl⟩ 0 0 0 [(2,(.d (.bool r)))] [] (doneA (.inr rfl) rfl ⟨trivial,trivial⟩ (.refl _) hasNil) ?_
 unfold f349 at h
 refine .seq (.e [] ?_)
 refine .seq (.e [] ?_)
 refine .seq ?_
 obtain ⟨r16,e16,h⟩:=bind_some h
 refine .e [.call (F350 e16) [] 1] (.seq ?_)
 rcases cc h with ⟨c26,h⟩ | ⟨c26,h⟩
 · rcases cc h with ⟨c35,h⟩ | ⟨c35,h⟩
   · refine .e [.br c26,.br c35] ?_
     cases h
     exact .ret rz
   refine .e [.br c26,.br c35] ?_
   cases h
   exact .ret rz
 refine .e [.br c26,.br (rfl:false = false)] ?_
 cases h
 exact .ret rz
def f351 (k:Nat) (a0:List UInt8):Option Bool:=gd (a0.length≤9223372036854775807) (some (Lib.validD a0))
theorem F351 {k:Nat} {a0:List UInt8} {r:Bool} (h:f351 k a0 = some r) :
    ACalls Tryd.prog 98 [(.d (.str a0))] [] (.d (.bool r)) []:=by
  have hc:=valJ
  obtain ⟨b,h⟩:=gd_some h
  cases h
  exact valB_calls hc a0 b
def f348_l166 (a0:TJson) (rc348:Y348) (a1:Int):Nat→Int→Option (LR2 Unit Unit Bool)
  | 0,_=>none
  | k + 1,y166_1=>cond (decide (y166_1 < ((a0.fL.length:Nat):Int))) (cond (decide (a0.fKind = (7:Int))) (gd (0≤y166_1∧y166_1 < ((a0.fKeys.length:Nat):Int)) ((f351 k (rd a0.fKeys y166_1)).bind fun r194=>cond (!r194) (some (.r false)) (gd (0≤(0:Int)∧(0:Int)≤y166_1∧y166_1≤((a0.fKeys.length:Nat):Int)) (gd (0≤y166_1∧y166_1 < ((a0.fKeys.length:Nat):Int)) ((f77 k (sl a0.fKeys (0:Int) y166_1) (rd a0.fKeys y166_1)).bind fun r206=>cond r206 (some (.r false)) (gd (0≤y166_1∧y166_1 < ((a0.fL.length:Nat):Int)) ((TJson.dec (rtE (rd a0.fL y166_1))).bind fun rx213=>(rc348 rx213 (IntKind.i64.wrap (a1 + (1:Int)))).bind fun r217=>cond (!r217) (some (.r false)) (f348_l166 a0 rc348 a1 k (IntKind.i64.wrap (y166_1 + (1:Int))))))))))) (gd (0≤y166_1∧y166_1 < ((a0.fL.length:Nat):Int)) ((TJson.dec (rtE (rd a0.fL y166_1))).bind fun rx213=>(rc348 rx213 (IntKind.i64.wrap (a1 + (1:Int)))).bind fun r217=>cond (!r217) (some (.r false)) (f348_l166 a0 rc348 a1 k (IntKind.i64.wrap (y166_1 + (1:Int))))))) (some (.b0 ()))
def f348_j161 (k:Nat) (a0:TJson) (rc348:Y348) (a1:Int):Option Bool:=(f348_l166 a0 rc348 a1 k (0:Int)).bind fun o166=>(match o166 with | .b0 ()=>some true | .r x=>some x | _=>none)
def f348_j117 (k:Nat) (a0:TJson) (a1:Int) (rc348:Y348) (j117_1:Bool):Option Bool:=cond j117_1 (cond (decide (a0.fText≠([]:List UInt8))) (some false) (cond (decide (a0.fKind = (6:Int))) (cond (decide (((a0.fKeys.length:Nat):Int) > (0:Int))) (some false) (cond (decide (a0.fKind = (7:Int))) (cond (decide (((a0.fKeys.length:Nat):Int)≠((a0.fL.length:Nat):Int))) (some false) (cond (decide (a1 ≥ (64:Int))) (some false) (f348_j161 k a0 rc348 a1))) (cond (decide (a1 ≥ (64:Int))) (some false) (f348_j161 k a0 rc348 a1)))) (cond (decide (a0.fKind = (7:Int))) (cond (decide (((a0.fKeys.length:Nat):Int)≠((a0.fL.length:Nat):Int))) (some false) (cond (decide (a1 ≥ (64:Int))) (some false) (f348_j161 k a0 rc348 a1))) (cond (decide (a1 ≥ (64:Int))) (some false) (f348_j161 k a0 rc348 a1))))) (some false)
def f348_j32 (k:Nat) (a0:TJson) (a1:Int) (rc348:Y348) (j32_1:Bool):Option Bool:=cond j32_1 (cond (decide (a0.fText = ([]:List UInt8))) (cond (decide (((a0.fL.length:Nat):Int) = (0:Int))) (some (decide (((a0.fKeys.length:Nat):Int) = (0:Int)))) (some false)) (some false)) (cond (decide (a0.fKind = (4:Int))) ((f349 k a0.fText).bind fun r64=>cond r64 (cond (decide (((a0.fL.length:Nat):Int) = (0:Int))) (some (decide (((a0.fKeys.length:Nat):Int) = (0:Int)))) (some false)) (some false)) (cond (decide (a0.fKind = (5:Int))) ((f351 k a0.fText).bind fun r90=>cond r90 (cond (decide (((a0.fL.length:Nat):Int) = (0:Int))) (some (decide (((a0.fKeys.length:Nat):Int) = (0:Int)))) (some false)) (some false)) (cond (decide (a0.fKind = (6:Int))) (f348_j117 k a0 a1 rc348 (decide (a0.fKind = (6:Int)))) (f348_j117 k a0 a1 rc348 (decide (a0.fKind = (7:Int)))))))
def f348_s (rc348:Y348) (k:Nat) (a0:TJson) (a1:Int):Option Bool:=cond (decide (a0.fKind = (1:Int))) (f348_j32 k a0 a1 rc348 (decide (a0.fKind = (1:Int)))) (cond (decide (a0.fKind = (2:Int))) (f348_j32 k a0 a1 rc348 (decide (a0.fKind = (2:Int)))) (f348_j32 k a0 a1 rc348 (decide (a0.fKind = (3:Int)))))
theorem F348_s {rc348:Y348} (hrc348:RH348 rc348) {k:Nat} {a0:TJson} {a1:Int} {r:Bool} (h:f348_s rc348 k a0 a1 = some r) :
    ACalls Tryd.prog 77 [(.d (TJson.enc a0)),(.d (.int .i64 a1))] [] (.d (.bool r)) []:=by
 refine acalls_ret ⟨_,Tryd.func77,by kernel_rfl,by kernel_rfl,rfl⟩ 0 0 0 [(4,(.d (.bool r)))] [] (doneA (.inr rfl) rfl ⟨trivial,trivial⟩ (.refl _) hasNil) ?_
 unfold f348_s at h
 refine .seq (.e [] ?_)
 refine .seq (.seq ?_)
 refine .e [] (.block ?_)
 refine .j 1 (fun z=>f348_j32 k a0 a1 rc348 z = some r) (fun z=>[(1,(.d (.int .i64 a1))),(2,(.ptr 0 0)),(7,(.d (.int .i64 a0.fKind))),(8,(.d (.bool z)))]) (fun z=>[(0,(.cells [(.d (.int .i64 a0.fKind)),(.d (.str a0.fText)),(.d (.sl (List.map (rtE (z:=4)) a0.fL))),(.d (.sl (List.map D.str a0.fKeys)))]))]) ?_ ?_
 · refine .seq (.e [] ?_)
   refine .cB h (fun h=>?_) fun h=>?_
   · exact .skip ⟨_,h,inZ⟩
   refine .seq (.e [] ?_)
   refine .cB h (fun h=>?_) fun h=>?_
   · exact .skip ⟨_,h,inZ⟩
   exact .e [] ⟨_,h,inZ⟩
 intro j32_1 h
 unfold f348_j32 at h
 refine .cB h (fun h=>?_) fun h=>?_
 · refine .seq ?_
   rcases cc h with ⟨c39,h⟩ | ⟨c39,h⟩
   · rcases cc h with ⟨c45,h⟩ | ⟨c45,h⟩
     · refine .e [.br c39,.ln (rtE (z:=4)) a0.fL,.br c45,.ln D.str a0.fKeys] ?_
       cases h
       exact .ret rz
     refine .e [.br c39,.ln (rtE (z:=4)) a0.fL,.br c45] ?_
     cases h
     exact .ret rz
   refine .e [.br c39,.br (rfl:false = false)] ?_
   cases h
   exact .ret rz
 refine .seq (.e [] ?_)
 refine .cB h (fun h=>?_) fun h=>?_
 · refine .seq ?_
   obtain ⟨r64,e64,h⟩:=bind_some h
   rcases cc h with ⟨c65,h⟩ | ⟨c65,h⟩
   · rcases cc h with ⟨c71,h⟩ | ⟨c71,h⟩
     · refine .e [.call (F349 e64) [] 0,.br c65,.ln (rtE (z:=4)) a0.fL,.br c71,.ln D.str a0.fKeys] ?_
       cases h
       exact .ret rz
     refine .e [.call (F349 e64) [] 0,.br c65,.ln (rtE (z:=4)) a0.fL,.br c71] ?_
     cases h
     exact .ret rz
   refine .e [.call (F349 e64) [] 0,.br c65,.br (rfl:false = false)] ?_
   cases h
   exact .ret rz
 refine .seq (.e [] ?_)
 refine .cB h (fun h=>?_) fun h=>?_
 · refine .seq ?_
   obtain ⟨r90,e90,h⟩:=bind_some h
   rcases cc h with ⟨c91,h⟩ | ⟨c91,h⟩
   · rcases cc h with ⟨c97,h⟩ | ⟨c97,h⟩
     · refine .e [.call (F351 e90) [] 0,.br c91,.ln (rtE (z:=4)) a0.fL,.br c97,.ln D.str a0.fKeys] ?_
       cases h
       exact .ret rz
     refine .e [.call (F351 e90) [] 0,.br c91,.ln (rtE (z:=4)) a0.fL,.br c97] ?_
     cases h
     exact .ret rz
   refine .e [.call (F351 e90) [] 0,.br c91,.br (rfl:false = false)] ?_
   cases h
   exact .ret rz
 refine .j 1 (fun z=>f348_j117 k a0 a1 rc348 z = some r) (fun z=>[(1,(.d (.int .i64 a1))),(2,(.ptr 0 0)),(61,(.d (.bool z)))]) (fun z=>[(0,(.cells [(.d (.int .i64 a0.fKind)),(.d (.str a0.fText)),(.d (.sl (List.map (rtE (z:=4)) a0.fL))),(.d (.sl (List.map D.str a0.fKeys)))]))]) ?_ ?_
 · refine .seq (.e [] ?_)
   refine .cB h (fun h=>?_) fun h=>?_
   · exact .skip ⟨_,h,inZ⟩
   exact .e [] ⟨_,h,inZ⟩
 intro j117_1 h
 unfold f348_j117 at h
 refine .cD h (fun h=>?_) fun h=>?_
 · refine .skip (.seq ?_)
   refine .e [] ?_
   cases h
   exact .ret rz
 refine .j 1 (fun (z:Unit)=>f348_j161 k a0 rc348 a1 = some r) (fun z=>[(1,(.d (.int .i64 a1))),(2,(.ptr 0 0))]) (fun z=>[(0,(.cells [(.d (.int .i64 a0.fKind)),(.d (.str a0.fText)),(.d (.sl (List.map (rtE (z:=4)) a0.fL))),(.d (.sl (List.map D.str a0.fKeys)))]))]) ?_ ?_
 · refine .seq ?_
   rcases cc h with ⟨c125,h⟩ | ⟨c125,h⟩
   · refine .e [.br c125,.br (rfl:true = true),.br (rfl:true = true)] (.cT rfl ?_)
     refine .seq (.e [] ?_)
     cases h
     exact .ret rz
   rcases cc h with ⟨c129,h⟩ | ⟨c129,h⟩
   · rcases cc h with ⟨c136,h⟩ | ⟨c136,h⟩
     · refine .e [.br c125,.br c129,.ln D.str a0.fKeys,.br c136,.br (rfl:true = true)] (.cT rfl ?_)
       refine .seq (.e [] ?_)
       cases h
       exact .ret rz
     rcases cc h with ⟨c140,h⟩ | ⟨c140,h⟩
     · rcases cc h with ⟨c150,h⟩ | ⟨c150,h⟩
       · refine .e [.br c125,.br c129,.ln D.str a0.fKeys,.br c136,.br c140,.ln D.str a0.fKeys,.ln (rtE (z:=4)) a0.fL,.br c150] (.cT rfl ?_)
         refine .seq (.e [] ?_)
         cases h
         exact .ret rz
       refine .e [.br c125,.br c129,.ln D.str a0.fKeys,.br c136,.br c140,.ln D.str a0.fKeys,.ln (rtE (z:=4)) a0.fL,.br c150] (.cD h (fun h=>?_) fun h=>?_)
       · exact .skip ⟨(),h,inZ⟩
       refine .seq (.e [] ?_)
       cases h
       exact .ret rz
     refine .e [.br c125,.br c129,.ln D.str a0.fKeys,.br c136,.br c140,.br (rfl:false = false)] (.cD h (fun h=>?_) fun h=>?_)
     · exact .skip ⟨(),h,inZ⟩
     refine .seq (.e [] ?_)
     cases h
     exact .ret rz
   rcases cc h with ⟨c140,h⟩ | ⟨c140,h⟩
   · rcases cc h with ⟨c150,h⟩ | ⟨c150,h⟩
     · refine .e [.br c125,.br c129,.br (rfl:false = false),.br c140,.ln D.str a0.fKeys,.ln (rtE (z:=4)) a0.fL,.br c150] (.cT rfl ?_)
       refine .seq (.e [] ?_)
       cases h
       exact .ret rz
     refine .e [.br c125,.br c129,.br (rfl:false = false),.br c140,.ln D.str a0.fKeys,.ln (rtE (z:=4)) a0.fL,.br c150] (.cD h (fun h=>?_) fun h=>?_)
     · exact .skip ⟨(),h,inZ⟩
     refine .seq (.e [] ?_)
     cases h
     exact .ret rz
   refine .e [.br c125,.br c129,.br (rfl:false = false),.br c140,.br (rfl:false = false)] (.cD h (fun h=>?_) fun h=>?_)
   · exact .skip ⟨(),h,inZ⟩
   refine .seq (.e [] ?_)
   cases h
   exact .ret rz
 rintro ⟨⟩ h
 unfold f348_j161 at h
 refine .seq (.seq ?_)
 refine .e [] ?_
 obtain ⟨o166,h166,h⟩:=bind_some h
 refine .block (.lp 1 (fun k (x:Int)=>f348_l166 a0 rc348 a1 k x = some o166) (fun x=>[(1,(.d (.int .i64 a1))),(2,(.ptr 0 0)),(5,(.d (.int .i64 x)))]) (fun x=>[(0,(.cells [(.d (.int .i64 a0.fKind)),(.d (.str a0.fText)),(.d (.sl (List.map (rtE (z:=4)) a0.fL))),(.d (.sl (List.map D.str a0.fKeys)))]))]) _ h166 [] [] ?_)
 intro k y166_1 h166
 rw [f348_l166] at h166
 refine .seq (.seq ?_)
 refine .e [.ln (rtE (z:=4)) a0.fL] (.cD h166 (fun h166=>?_) fun h166=>?_)
 · cases h166
   dsimp only at h
   refine .exit (inBlk_eq ?_)
   refine .seq (.e [] ?_)
   cases h
   exact .ret rz
 refine .skip (.seq ?_)
 refine .block (.seq ?_)
 rcases cc h166 with ⟨c188,h166⟩ | ⟨c188,h166⟩
 · obtain ⟨b192,h166⟩:=gd_some h166
   obtain ⟨r194,e194,h166⟩:=bind_some h166
   rcases cc h166 with ⟨c196,h166⟩ | ⟨c196,h166⟩
   · refine .e [.br c188,.iad D.str a0.fKeys 1 (fun _=>rfl) b192,.call (F351 e194) [] 0,.br c196,.br (rfl:true = true)] (.cT rfl ?_)
     refine .seq (.e [] ?_)
     cases h166
     dsimp only at h
     cases h
     exact .ret rz
   obtain ⟨b200,h166⟩:=gd_some h166
   obtain ⟨b204,h166⟩:=gd_some h166
   obtain ⟨r206,e206,h166⟩:=bind_some h166
   rcases cc h166 with ⟨c209,h166⟩ | ⟨c209,h166⟩
   · refine .e [.br c188,.iad D.str a0.fKeys 1 (fun _=>rfl) b192,.call (F351 e194) [] 0,.br c196,.slc D.str a0.fKeys 1 (fun _=>rfl) b200,.iad D.str a0.fKeys 1 (fun _=>rfl) b204,.call (F77 e206) [] 0,.br c209] (.cT rfl ?_)
     refine .seq (.e [] ?_)
     cases h166
     dsimp only at h
     cases h
     exact .ret rz
   obtain ⟨b213,h166⟩:=gd_some h166
   obtain ⟨rx213,ex213,h166⟩:=bind_some h166
   obtain ⟨r217,e217,h166⟩:=bind_some h166
   refine .e [.br c188,.iad D.str a0.fKeys 1 (fun _=>rfl) b192,.call (F351 e194) [] 0,.br c196,.slc D.str a0.fKeys 1 (fun _=>rfl) b200,.iad D.str a0.fKeys 1 (fun _=>rfl) b204,.call (F77 e206) [] 0,.br c209,.iadE (rtE (z:=4)) a0.fL 4 rtE_ok.len b213 (TJson.dec_eq ex213),.call (hrc348 _ _ _ e217) [] 0] (.cD h166 (fun h166=>?_) fun h166=>?_)
   · refine .skip (.e [] ?_)
     exact ⟨_,h166,inZ⟩
   refine .seq (.e [] ?_)
   cases h166
   dsimp only at h
   cases h
   exact .ret rz
 obtain ⟨b213,h166⟩:=gd_some h166
 obtain ⟨rx213,ex213,h166⟩:=bind_some h166
 obtain ⟨r217,e217,h166⟩:=bind_some h166
 refine .e [.br c188,.br (rfl:false = false),.iadE (rtE (z:=4)) a0.fL 4 rtE_ok.len b213 (TJson.dec_eq ex213),.call (hrc348 _ _ _ e217) [] 0] (.cD h166 (fun h166=>?_) fun h166=>?_)
 · refine .skip (.e [] ?_)
   exact ⟨_,h166,inZ⟩
 refine .seq (.e [] ?_)
 cases h166
 dsimp only at h
 cases h
 exact .ret rz
def f348:Nat→TJson→Int→Option Bool
  | 0,_,_=>none
  | k + 1,a0,a1=>f348_s (f348 k) k a0 a1
theorem F348 {k:Nat} {a0:TJson} {a1:Int} {r:Bool} (h:f348 k a0 a1 = some r) :
    ACalls Tryd.prog 77 [(.d (TJson.enc a0)),(.d (.int .i64 a1))] [] (.d (.bool r)) []:=by
  induction k generalizing a0 a1 r with
  | zero=>exact absurd (show (none:Option _) = some r from h) (fun h2=>by cases h2)
  | succ k ih=>exact F348_s (fun _ _ _ h=>ih h) h
def f347 (k:Nat) (a0:TJson):Option Bool:=(f348 k a0 (0:Int)).bind fun r10=>some r10
theorem F347 {k:Nat} {a0:TJson} {r:Bool} (h:f347 k a0 = some r) :
    ACalls Tryd.prog 54 [(.d (TJson.enc a0))] [] (.d (.bool r)) []:=by
 refine acalls_ret ⟨_,Tryd.func54,by kernel_rfl,by kernel_rfl,rfl⟩ 0 0 0 [(2,(.d (.bool r)))] [] (doneA (.inr rfl) rfl ⟨trivial,trivial⟩ (.refl _) hasNil) ?_
 unfold f347 at h
 refine .seq (.e [] ?_)
 refine .seq ?_
 obtain ⟨r10,e10,h⟩:=bind_some h
 refine .e [.call (F348 e10) [] 0] ?_
 cases h
 exact .ret rz
abbrev Y355:=TJson→Option (List UInt8)
def RH355 (rc355:Y355):Prop:=∀ (a0:TJson) (r:(List UInt8)),rc355 a0 = some r→ACalls Tryd.prog 113 [(.d (TJson.enc a0))] [] (.d (.str r)) []
def f356_j100 (k:Nat) (j100_1:(List UInt8)):Option (List UInt8):=gd (j100_1.length + ([34]:List UInt8).length≤9223372036854775807) (some (j100_1 ++ ([34]:List UInt8)))
def f356_j47 (L:(List UInt8)→Int→Option (LR2 (List UInt8) Unit (List UInt8))) (k:Nat) (y14_1:(List UInt8)) (y14_2:Int) (a0:(List UInt8)) (j47_1:Bool):Option (LR2 (List UInt8) Unit (List UInt8)):=cond j47_1 (gd (y14_1.length + ([92]:List UInt8).length≤9223372036854775807) (gd (0≤y14_2∧y14_2≤(IntKind.i64.wrap (y14_2 + (1:Int)))∧(IntKind.i64.wrap (y14_2 + (1:Int)))≤((a0.length:Nat):Int)) (gd ((y14_1 ++ ([92]:List UInt8)).length + (sl a0 y14_2 (IntKind.i64.wrap (y14_2 + (1:Int)))).length≤9223372036854775807) (L ((y14_1 ++ ([92]:List UInt8)) ++ (sl a0 y14_2 (IntKind.i64.wrap (y14_2 + (1:Int))))) (IntKind.i64.wrap (y14_2 + (1:Int))))))) (cond (decide ((((a0.getD (y14_2).toNat 0).toNat:Nat):Int) < (32:Int))) (gd (y14_1.length + ([92,117,48,48]:List UInt8).length≤9223372036854775807) (gd (0≤(Int.fdiv (((a0.getD (y14_2).toNat 0).toNat:Nat):Int) (2 ^ (min ((4:Int)).toNat IntKind.u8.bits)))∧(Int.fdiv (((a0.getD (y14_2).toNat 0).toNat:Nat):Int) (2 ^ (min ((4:Int)).toNat IntKind.u8.bits)))≤(((u8 (IntKind.u8.wrap ((Int.fdiv (((a0.getD (y14_2).toNat 0).toNat:Nat):Int) (2 ^ (min ((4:Int)).toNat IntKind.u8.bits))) + (1:Int)))).toNat:Nat):Int)∧(((u8 (IntKind.u8.wrap ((Int.fdiv (((a0.getD (y14_2).toNat 0).toNat:Nat):Int) (2 ^ (min ((4:Int)).toNat IntKind.u8.bits))) + (1:Int)))).toNat:Nat):Int)≤((([48,49,50,51,52,53,54,55,56,57,97,98,99,100,101,102]:List UInt8).length:Nat):Int)) (gd ((y14_1 ++ ([92,117,48,48]:List UInt8)).length + (sl ([48,49,50,51,52,53,54,55,56,57,97,98,99,100,101,102]:List UInt8) (Int.fdiv (((a0.getD (y14_2).toNat 0).toNat:Nat):Int) (2 ^ (min ((4:Int)).toNat IntKind.u8.bits))) (((u8 (IntKind.u8.wrap ((Int.fdiv (((a0.getD (y14_2).toNat 0).toNat:Nat):Int) (2 ^ (min ((4:Int)).toNat IntKind.u8.bits))) + (1:Int)))).toNat:Nat):Int)).length≤9223372036854775807) (gd (0≤(((u8 (bitsA .and .u8 (((a0.getD (y14_2).toNat 0).toNat:Nat):Int) (15:Int))).toNat:Nat):Int)∧(((u8 (bitsA .and .u8 (((a0.getD (y14_2).toNat 0).toNat:Nat):Int) (15:Int))).toNat:Nat):Int)≤(((u8 (IntKind.u8.wrap ((((u8 (bitsA .and .u8 (((a0.getD (y14_2).toNat 0).toNat:Nat):Int) (15:Int))).toNat:Nat):Int) + (1:Int)))).toNat:Nat):Int)∧(((u8 (IntKind.u8.wrap ((((u8 (bitsA .and .u8 (((a0.getD (y14_2).toNat 0).toNat:Nat):Int) (15:Int))).toNat:Nat):Int) + (1:Int)))).toNat:Nat):Int)≤((([48,49,50,51,52,53,54,55,56,57,97,98,99,100,101,102]:List UInt8).length:Nat):Int)) (gd (((y14_1 ++ ([92,117,48,48]:List UInt8)) ++ (sl ([48,49,50,51,52,53,54,55,56,57,97,98,99,100,101,102]:List UInt8) (Int.fdiv (((a0.getD (y14_2).toNat 0).toNat:Nat):Int) (2 ^ (min ((4:Int)).toNat IntKind.u8.bits))) (((u8 (IntKind.u8.wrap ((Int.fdiv (((a0.getD (y14_2).toNat 0).toNat:Nat):Int) (2 ^ (min ((4:Int)).toNat IntKind.u8.bits))) + (1:Int)))).toNat:Nat):Int))).length + (sl ([48,49,50,51,52,53,54,55,56,57,97,98,99,100,101,102]:List UInt8) (((u8 (bitsA .and .u8 (((a0.getD (y14_2).toNat 0).toNat:Nat):Int) (15:Int))).toNat:Nat):Int) (((u8 (IntKind.u8.wrap ((((u8 (bitsA .and .u8 (((a0.getD (y14_2).toNat 0).toNat:Nat):Int) (15:Int))).toNat:Nat):Int) + (1:Int)))).toNat:Nat):Int)).length≤9223372036854775807) (L (((y14_1 ++ ([92,117,48,48]:List UInt8)) ++ (sl ([48,49,50,51,52,53,54,55,56,57,97,98,99,100,101,102]:List UInt8) (Int.fdiv (((a0.getD (y14_2).toNat 0).toNat:Nat):Int) (2 ^ (min ((4:Int)).toNat IntKind.u8.bits))) (((u8 (IntKind.u8.wrap ((Int.fdiv (((a0.getD (y14_2).toNat 0).toNat:Nat):Int) (2 ^ (min ((4:Int)).toNat IntKind.u8.bits))) + (1:Int)))).toNat:Nat):Int))) ++ (sl ([48,49,50,51,52,53,54,55,56,57,97,98,99,100,101,102]:List UInt8) (((u8 (bitsA .and .u8 (((a0.getD (y14_2).toNat 0).toNat:Nat):Int) (15:Int))).toNat:Nat):Int) (((u8 (IntKind.u8.wrap ((((u8 (bitsA .and .u8 (((a0.getD (y14_2).toNat 0).toNat:Nat):Int) (15:Int))).toNat:Nat):Int) + (1:Int)))).toNat:Nat):Int))) (IntKind.i64.wrap (y14_2 + (1:Int))))))))) (gd (0≤y14_2∧y14_2≤(IntKind.i64.wrap (y14_2 + (1:Int)))∧(IntKind.i64.wrap (y14_2 + (1:Int)))≤((a0.length:Nat):Int)) (gd (y14_1.length + (sl a0 y14_2 (IntKind.i64.wrap (y14_2 + (1:Int)))).length≤9223372036854775807) (L (y14_1 ++ (sl a0 y14_2 (IntKind.i64.wrap (y14_2 + (1:Int))))) (IntKind.i64.wrap (y14_2 + (1:Int)))))))
def f356_l14 (a0:(List UInt8)):Nat→(List UInt8)→Int→Option (LR2 (List UInt8) Unit (List UInt8))
  | 0,_,_=>none
  | k + 1,y14_1,y14_2=>cond (decide (y14_2 < ((a0.length:Nat):Int))) (gd (0≤y14_2∧y14_2 < ((a0.length:Nat):Int)) (cond (decide ((((a0.getD (y14_2).toNat 0).toNat:Nat):Int) = (34:Int))) (f356_j47 (f356_l14 a0 k) k y14_1 y14_2 a0 true) (f356_j47 (f356_l14 a0 k) k y14_1 y14_2 a0 (decide ((((a0.getD (y14_2).toNat 0).toNat:Nat):Int) = (92:Int)))))) (some (.b0 y14_1))
def f356 (k:Nat) (a0:(List UInt8)):Option (List UInt8):=(f356_l14 a0 k ([34]:List UInt8) (0:Int)).bind fun o14=>(match o14 with | .b0 x14_1=>f356_j100 k x14_1 | _=>none)
theorem F356 {k:Nat} {a0:(List UInt8)} {r:(List UInt8)} (h:f356 k a0 = some r) :
    ACalls Tryd.prog 103 [(.d (.str a0))] [] (.d (.str r)) []:=by
 refine acalls_ret ⟨_,Tryd.func103,by kernel_rfl,by kernel_rfl,rfl⟩ 0 0 0 [(2,(.d (.str r)))] [] (doneA (.inr rfl) rfl ⟨trivial,trivial⟩ (.refl _) hasNil) ?_
 unfold f356 at h
 refine .seq (.e [] ?_)
 refine .seq (.e [] ?_)
 refine .j 0 (fun z=>f356_j100 k z = some r) (fun z=>[(3,(.d (.str z)))]) (fun z=>[]) ?_ ?_
 · refine .seq (.e [] ?_)
   obtain ⟨o14,h14,h⟩:=bind_some h
   refine .block (.lp 0 (fun k (x:((List UInt8)×Int))=>f356_l14 a0 k x.1 x.2 = some o14) (fun x=>[(0,(.d (.str a0))),(3,(.d (.str x.1))),(4,(.d (.int .i64 x.2)))]) (fun x=>[]) (_,_) h14 [] [] ?_)
   rintro k ⟨y14_1,y14_2⟩ h14
   dsimp only at h14 ⊢
   rw [f356_l14] at h14
   refine .seq (.seq ?_)
   refine .e [] (.cD h14 (fun h14=>?_) fun h14=>?_)
   · cases h14
     dsimp only at h
     refine .exit (inBlk_eq ?_)
     exact ⟨_,h,inZ⟩
   refine .skip (.seq ?_)
   refine .block (.seq ?_)
   obtain ⟨b34,h14⟩:=gd_some h14
   refine .e [.sd b34] (.block ?_)
   refine .j 0 (fun z=>f356_j47 (f356_l14 a0 k) k y14_1 y14_2 a0 z = some o14) (fun z=>[(0,(.d (.str a0))),(3,(.d (.str y14_1))),(4,(.d (.int .i64 y14_2))),(5,(.d (.int .u8 (((a0.getD (y14_2).toNat 0).toNat:Nat):Int)))),(22,(.d (.bool z))),(26,.any),(27,.any)]) (fun z=>[]) ?_ ?_
   · rcases cc h14 with ⟨c42,h14⟩ | ⟨c42,h14⟩
     · exact .e [.br c42] ⟨_,h14,inZ⟩
     exact .e [.br c42] ⟨_,h14,inZ⟩
   intro j47_1 h14
   unfold f356_j47 at h14
   refine .cB h14 (fun h14=>?_) fun h14=>?_
   · obtain ⟨b51,h14⟩:=gd_some h14
     obtain ⟨b56,h14⟩:=gd_some h14
     obtain ⟨b57,h14⟩:=gd_some h14
     refine .e [.sd b51,.sd b56,.sd b57] (.e [] ?_)
     exact ⟨(_,_),h14,inZ⟩
   refine .seq (.e [] ?_)
   refine .cD h14 (fun h14=>?_) fun h14=>?_
   · obtain ⟨b92,h14⟩:=gd_some h14
     obtain ⟨b93,h14⟩:=gd_some h14
     refine .e [.sd b92,.sd b93] (.e [] ?_)
     exact ⟨(_,_),h14,inZ⟩
   obtain ⟨b69,h14⟩:=gd_some h14
   obtain ⟨b75,h14⟩:=gd_some h14
   obtain ⟨b76,h14⟩:=gd_some h14
   obtain ⟨b82,h14⟩:=gd_some h14
   obtain ⟨b83,h14⟩:=gd_some h14
   refine .e [.sd b69,.sd (p:=0≤(4:Int)) (by decide),.sd (p:=0≤(4:Int)) (by decide),.sd b75,.sd b76,.sd b82,.sd b83] (.e [] ?_)
   exact ⟨(_,_),h14,inZ⟩
 intro j100_1 h
 unfold f356_j100 at h
 refine .seq ?_
 obtain ⟨b104,h⟩:=gd_some h
 refine .e [.sd b104] ?_
 cases h
 exact .ret rz
def f355_j161 (k:Nat) (a0:TJson) (j161_1:(List UInt8)):Option (List UInt8):=cond (decide (a0.fKind = (7:Int))) (gd (j161_1.length + ([125]:List UInt8).length≤9223372036854775807) (some (j161_1 ++ ([125]:List UInt8)))) (gd (j161_1.length + ([93]:List UInt8).length≤9223372036854775807) (some (j161_1 ++ ([93]:List UInt8))))
def f355_j145 (L:(List UInt8)→Int→Option (LR2 (List UInt8) Unit (List UInt8))) (k:Nat) (y95_2:Int) (a0:TJson) (rc355:Y355) (j145_1:(List UInt8)):Option (LR2 (List UInt8) Unit (List UInt8)):=gd (0≤y95_2∧y95_2 < ((a0.fL.length:Nat):Int)) ((TJson.dec (rtE (rd a0.fL y95_2))).bind fun rx151=>(rc355 rx151).bind fun r153=>gd (j145_1.length + r153.length≤9223372036854775807) (L (j145_1 ++ r153) (IntKind.i64.wrap (y95_2 + (1:Int)))))
def f355_j124 (L:(List UInt8)→Int→Option (LR2 (List UInt8) Unit (List UInt8))) (k:Nat) (a0:TJson) (y95_2:Int) (rc355:Y355) (j124_1:(List UInt8)):Option (LR2 (List UInt8) Unit (List UInt8)):=cond (decide (a0.fKind = (7:Int))) (gd (0≤y95_2∧y95_2 < ((a0.fKeys.length:Nat):Int)) ((f356 k (rd a0.fKeys y95_2)).bind fun r140=>gd (j124_1.length + r140.length≤9223372036854775807) (gd ((j124_1 ++ r140).length + ([58]:List UInt8).length≤9223372036854775807) (f355_j145 (L) k y95_2 a0 rc355 ((j124_1 ++ r140) ++ ([58]:List UInt8)))))) (f355_j145 (L) k y95_2 a0 rc355 j124_1)
def f355_l95 (a0:TJson) (rc355:Y355):Nat→(List UInt8)→Int→Option (LR2 (List UInt8) Unit (List UInt8))
  | 0,_,_=>none
  | k + 1,y95_1,y95_2=>cond (decide (y95_2 < ((a0.fL.length:Nat):Int))) (cond (decide (y95_2 > (0:Int))) (gd (y95_1.length + ([44]:List UInt8).length≤9223372036854775807) (f355_j124 (f355_l95 a0 rc355 k) k a0 y95_2 rc355 (y95_1 ++ ([44]:List UInt8)))) (f355_j124 (f355_l95 a0 rc355 k) k a0 y95_2 rc355 y95_1)) (some (.b0 y95_1))
def f355_j90 (k:Nat) (a0:TJson) (rc355:Y355) (j90_1:(List UInt8)):Option (List UInt8):=(f355_l95 a0 rc355 k j90_1 (0:Int)).bind fun o95=>(match o95 with | .b0 x95_1=>f355_j161 k a0 x95_1 | _=>none)
def f355_s (rc355:Y355) (k:Nat) (a0:TJson):Option (List UInt8):=cond (decide (a0.fKind = (1:Int))) (some ([110,117,108,108]:List UInt8)) (cond (decide (a0.fKind = (2:Int))) (some ([102,97,108,115,101]:List UInt8)) (cond (decide (a0.fKind = (3:Int))) (some ([116,114,117,101]:List UInt8)) (cond (decide (a0.fKind = (4:Int))) (some a0.fText) (cond (decide (a0.fKind = (5:Int))) ((f356 k a0.fText).bind fun r70=>some r70) (cond (decide (a0.fKind = (7:Int))) (f355_j90 k a0 rc355 ([123]:List UInt8)) (f355_j90 k a0 rc355 ([91]:List UInt8)))))))
theorem F355_s {rc355:Y355} (hrc355:RH355 rc355) {k:Nat} {a0:TJson} {r:(List UInt8)} (h:f355_s rc355 k a0 = some r) :
    ACalls Tryd.prog 113 [(.d (TJson.enc a0))] [] (.d (.str r)) []:=by
 refine acalls_ret ⟨_,Tryd.func113,by kernel_rfl,by kernel_rfl,rfl⟩ 0 0 0 [(2,(.d (.str r)))] [] (doneA (.inr rfl) rfl ⟨trivial,trivial⟩ (.refl _) hasNil) ?_
 unfold f355_s at h
 refine .seq (.e [] ?_)
 refine .seq (.seq ?_)
 refine .e [] (.block ?_)
 refine .seq (.e [] ?_)
 refine .cB h (fun h=>?_) fun h=>?_
 · refine .seq (.e [] ?_)
   cases h
   exact .ret rz
 refine .seq (.e [] ?_)
 refine .cB h (fun h=>?_) fun h=>?_
 · refine .seq (.e [] ?_)
   cases h
   exact .ret rz
 refine .seq (.e [] ?_)
 refine .cB h (fun h=>?_) fun h=>?_
 · refine .seq (.e [] ?_)
   cases h
   exact .ret rz
 refine .seq (.e [] ?_)
 refine .cB h (fun h=>?_) fun h=>?_
 · refine .seq (.e [] ?_)
   cases h
   exact .ret rz
 refine .seq (.e [] ?_)
 refine .cB h (fun h=>?_) fun h=>?_
 · refine .seq ?_
   obtain ⟨r70,e70,h⟩:=bind_some h
   refine .e [.call (F356 e70) [] 0] ?_
   cases h
   exact .ret rz
 refine .skip (.seq ?_)
 refine .e [] (.j 1 (fun z=>f355_j90 k a0 rc355 z = some r) (fun z=>[(1,(.ptr 0 0)),(3,(.d (.str z)))]) (fun z=>[(0,(.cells [(.d (.int .i64 a0.fKind)),(.d (.str a0.fText)),(.d (.sl (List.map (rtE (z:=4)) a0.fL))),(.d (.sl (List.map D.str a0.fKeys)))]))]) ?_ ?_)
 · refine .seq (.e [] ?_)
   refine .cB h (fun h=>?_) fun h=>?_
   · exact .e [] ⟨_,h,inZ⟩
   exact .skip ⟨_,h,inZ⟩
 intro j90_1 h
 unfold f355_j90 at h
 refine .j 1 (fun z=>f355_j161 k a0 z = some r) (fun z=>[(1,(.ptr 0 0)),(3,(.d (.str z)))]) (fun z=>[(0,(.cells [(.d (.int .i64 a0.fKind)),(.d (.str a0.fText)),(.d (.sl (List.map (rtE (z:=4)) a0.fL))),(.d (.sl (List.map D.str a0.fKeys)))]))]) ?_ ?_
 · refine .seq (.e [] ?_)
   obtain ⟨o95,h95,h⟩:=bind_some h
   refine .block (.lp 1 (fun k (x:((List UInt8)×Int))=>f355_l95 a0 rc355 k x.1 x.2 = some o95) (fun x=>[(1,(.ptr 0 0)),(3,(.d (.str x.1))),(4,(.d (.int .i64 x.2)))]) (fun x=>[(0,(.cells [(.d (.int .i64 a0.fKind)),(.d (.str a0.fText)),(.d (.sl (List.map (rtE (z:=4)) a0.fL))),(.d (.sl (List.map D.str a0.fKeys)))]))]) (_,_) h95 [] [] ?_)
   rintro k ⟨y95_1,y95_2⟩ h95
   dsimp only at h95 ⊢
   rw [f355_l95] at h95
   refine .seq (.seq ?_)
   refine .e [.ln (rtE (z:=4)) a0.fL] (.cD h95 (fun h95=>?_) fun h95=>?_)
   · cases h95
     dsimp only at h
     refine .exit (inBlk_eq ?_)
     exact ⟨_,h,inZ⟩
   refine .skip (.seq ?_)
   refine .block (.j 1 (fun z=>f355_j124 (f355_l95 a0 rc355 k) k a0 y95_2 rc355 z = some o95) (fun z=>[(1,(.ptr 0 0)),(3,(.d (.str z))),(4,(.d (.int .i64 y95_2)))]) (fun z=>[(0,(.cells [(.d (.int .i64 a0.fKind)),(.d (.str a0.fText)),(.d (.sl (List.map (rtE (z:=4)) a0.fL))),(.d (.sl (List.map D.str a0.fKeys)))]))]) ?_ ?_)
   · refine .seq (.e [] ?_)
     refine .cD h95 (fun h95=>?_) fun h95=>?_
     · exact .skip ⟨_,h95,inZ⟩
     obtain ⟨b121,h95⟩:=gd_some h95
     exact .e [.sd b121] ⟨_,h95,inZ⟩
   intro j124_1 h95
   unfold f355_j124 at h95
   refine .j 1 (fun z=>f355_j145 (f355_l95 a0 rc355 k) k y95_2 a0 rc355 z = some o95) (fun z=>[(1,(.ptr 0 0)),(3,(.d (.str z))),(4,(.d (.int .i64 y95_2)))]) (fun z=>[(0,(.cells [(.d (.int .i64 a0.fKind)),(.d (.str a0.fText)),(.d (.sl (List.map (rtE (z:=4)) a0.fL))),(.d (.sl (List.map D.str a0.fKeys)))]))]) ?_ ?_
   · refine .seq (.e [] ?_)
     refine .cD h95 (fun h95=>?_) fun h95=>?_
     · exact .skip ⟨_,h95,inZ⟩
     obtain ⟨b138,h95⟩:=gd_some h95
     obtain ⟨r140,e140,h95⟩:=bind_some h95
     obtain ⟨b141,h95⟩:=gd_some h95
     obtain ⟨b142,h95⟩:=gd_some h95
     exact .e [.iad D.str a0.fKeys 1 (fun _=>rfl) b138,.call (F356 e140) [] 0,.sd b141,.sd b142] ⟨_,h95,inZ⟩
   intro j145_1 h95
   unfold f355_j145 at h95
   obtain ⟨b151,h95⟩:=gd_some h95
   obtain ⟨rx151,ex151,h95⟩:=bind_some h95
   obtain ⟨r153,e153,h95⟩:=bind_some h95
   obtain ⟨b154,h95⟩:=gd_some h95
   refine .e [.iadE (rtE (z:=4)) a0.fL 4 rtE_ok.len b151 (TJson.dec_eq ex151),.call (hrc355 _ _ e153) [] 0,.sd b154] (.e [] ?_)
   exact ⟨(_,_),h95,inZ⟩
 intro j161_1 h
 unfold f355_j161 at h
 refine .seq (.seq ?_)
 refine .e [] (.cB h (fun h=>?_) fun h=>?_)
 · refine .seq ?_
   obtain ⟨b173,h⟩:=gd_some h
   refine .e [.sd b173] ?_
   cases h
   exact .ret rz
 refine .skip (.seq ?_)
 obtain ⟨b181,h⟩:=gd_some h
 refine .e [.sd b181] ?_
 cases h
 exact .ret rz
def f355:Nat→TJson→Option (List UInt8)
  | 0,_=>none
  | k + 1,a0=>f355_s (f355 k) k a0
theorem F355 {k:Nat} {a0:TJson} {r:(List UInt8)} (h:f355 k a0 = some r) :
    ACalls Tryd.prog 113 [(.d (TJson.enc a0))] [] (.d (.str r)) []:=by
  induction k generalizing a0 r with
  | zero=>exact absurd (show (none:Option _) = some r from h) (fun h2=>by cases h2)
  | succ k ih=>exact F355_s (fun _ _ h=>ih h) h
def f354 (k:Nat) (a0:TJson):Option (List UInt8):=(f347 k a0).bind fun r11=>cond (!r11) (some ([]:List UInt8)) ((f355 k a0).bind fun r24=>some r24)
theorem F354 {k:Nat} {a0:TJson} {r:(List UInt8)} (h:f354 k a0 = some r) :
    ACalls Tryd.prog 96 [(.d (TJson.enc a0))] [] (.d (.str r)) []:=by
 refine acalls_ret ⟨_,Tryd.func96,by kernel_rfl,by kernel_rfl,rfl⟩ 0 0 0 [(2,(.d (.str r)))] [] (doneA (.inr rfl) rfl ⟨trivial,trivial⟩ (.refl _) hasNil) ?_
 unfold f354 at h
 refine .seq (.e [] ?_)
 refine .seq (.seq ?_)
 obtain ⟨r11,e11,h⟩:=bind_some h
 refine .e [.call (F347 e11) [] 0] (.cB h (fun h=>?_) fun h=>?_)
 · refine .seq (.e [] ?_)
   cases h
   exact .ret rz
 refine .skip (.seq ?_)
 obtain ⟨r24,e24,h⟩:=bind_some h
 refine .e [.call (F355 e24) [] 0] ?_
 cases h
 exact .ret rz
def f366_j239 (L:Int→Nat→Int→(List TNode)→(List TField)→Option (LR2 (Nat×Int×(List TNode)×(List TField)) Unit (Nat×Int×(List TNode)))) (k:Nat) (r210:(Int×Nat×Int×(List TNode))) (a4:Int) (y39_5:(List TField)) (r84:(Bool×Int×(List UInt8)×(List (RT 4))×(List (List UInt8)))) (r177:((List (List UInt8))×Int)) (a1:Nat) (y39_1:Int) (j239_1:Bool) (j239_2:(List UInt8)):Option (LR2 (Nat×Int×(List TNode)×(List TField)) Unit (Nat×Int×(List TNode))):=cond (decide (r210.2.2.1≠(0:Int))) (some (.r (r210.2.1,r210.2.2.1,r210.2.2.2))) (gd (0≤a4∧a4 < ((r210.2.1:Nat):Int)) (gd ((a4).toNat < r210.2.2.2.length) (gd ((y39_5.length + ([(TField.mk r84.2.2.1 r177.1 r210.1 j239_1 j239_2)]:List TField).length) * 2 * 72≤281474976710656) (gd (0≤a4∧a4 < ((r210.2.1:Nat):Int)) (gd (a1≤(a4).toNat∧(a4).toNat < r210.2.2.2.length) (L (IntKind.i64.wrap (y39_1 + (1:Int))) r210.2.1 r210.2.2.1 (setAt r210.2.2.2 (a4).toNat (fun w_=>{ w_ with fFields:=(y39_5 ++ ([(TField.mk r84.2.2.1 r177.1 r210.1 j239_1 j239_2)]:List TField)) })) (y39_5 ++ ([(TField.mk r84.2.2.1 r177.1 r210.1 j239_1 j239_2)]:List TField))))))))
def f366_j204 (L:Int→Nat→Int→(List TNode)→(List TField)→Option (LR2 (Nat×Int×(List TNode)×(List TField)) Unit (Nat×Int×(List TNode)))) (k:Nat) (a1:Nat) (y39_4:(List TNode)) (a4:Int) (rc357:Y357) (y39_2:Nat) (r185:(Bool×Int×(List UInt8)×(List (RT 4))×(List (List UInt8)))) (a6:(List UInt8)) (rx61:TJson) (y39_5:(List TField)) (r84:(Bool×Int×(List UInt8)×(List (RT 4))×(List (List UInt8)))) (r177:((List (List UInt8))×Int)) (y39_1:Int) (j204_1:Int):Option (LR2 (Nat×Int×(List TNode)×(List TField)) Unit (Nat×Int×(List TNode))):=gd (a1≤y39_4.length∧(a4).toNat < y39_4.length) ((rc357 y39_4 y39_4.length y39_2 j204_1 (TJson.mk r185.2.1 r185.2.2.1 r185.2.2.2.1 r185.2.2.2.2) a6).bind fun r210=>(f346 k rx61 ([100,101,102,97,117,108,116]:List UInt8)).bind fun r217=>cond r217.1 ((f354 k (TJson.mk r217.2.1 r217.2.2.1 r217.2.2.2.1 r217.2.2.2.2)).bind fun r233=>f366_j239 (L) k r210 a4 y39_5 r84 r177 a1 y39_1 true r233) (f366_j239 (L) k r210 a4 y39_5 r84 r177 a1 y39_1 false ([]:List UInt8)))
def f366_j170 (L:Int→Nat→Int→(List TNode)→(List TField)→Option (LR2 (Nat×Int×(List TNode)×(List TField)) Unit (Nat×Int×(List TNode)))) (k:Nat) (a1:Nat) (y39_4:(List TNode)) (a4:Int) (y39_2:Nat) (y39_3:Int) (rx61:TJson) (rc357:Y357) (a6:(List UInt8)) (y39_5:(List TField)) (r84:(Bool×Int×(List UInt8)×(List (RT 4))×(List (List UInt8)))) (y39_1:Int):Option (LR2 (Nat×Int×(List TNode)×(List TField)) Unit (Nat×Int×(List TNode))):=gd (a1≤y39_4.length∧(a4).toNat < y39_4.length) ((f365 k y39_4 y39_4.length y39_2 y39_3 rx61 ([]:List UInt8) true).bind fun r177=>(f346 k rx61 ([116,121,112,101]:List UInt8)).bind fun r185=>cond (!r185.1) (gd (a1≤y39_4.length∧(a4).toNat < y39_4.length) ((f362 k y39_4 y39_4.length y39_2 r177.2 (9:Int)).bind fun r202=>f366_j204 (L) k a1 y39_4 a4 rc357 y39_2 r185 a6 rx61 y39_5 r84 r177 y39_1 r202)) (f366_j204 (L) k a1 y39_4 a4 rc357 y39_2 r185 a6 rx61 y39_5 r84 r177 y39_1 r177.2))
def f366_l117 (a4:Int) (y39_2:Nat) (y39_4:(List TNode)) (y39_5:(List TField)) (r84:(Bool×Int×(List UInt8)×(List (RT 4))×(List (List UInt8)))) (a1:Nat) (y39_3:Int):Nat→Int→Option (LR2 Unit Unit (Nat×Int×(List TNode)))
  | 0,_=>none
  | k + 1,y117_1=>gd (0≤a4∧a4 < ((y39_2:Nat):Int)) (gd ((a4).toNat < y39_4.length) (cond (decide (y117_1 < ((y39_5.length:Nat):Int))) (gd (0≤a4∧a4 < ((y39_2:Nat):Int)) (gd ((a4).toNat < y39_4.length) (gd (0≤y117_1∧y117_1 < ((y39_5.length:Nat):Int)) (cond (decide ((rd y39_5 y117_1).fName = r84.2.2.1)) (gd (a1≤y39_4.length∧(a4).toNat < y39_4.length) ((f362 k y39_4 y39_4.length y39_2 y39_3 (7:Int)).bind fun r162=>some (.r (y39_2,r162,y39_4)))) (f366_l117 a4 y39_2 y39_4 y39_5 r84 a1 y39_3 k (IntKind.i64.wrap (y117_1 + (1:Int)))))))) (some (.b0 ()))))
def f366_l39 (r9:(Bool×Int×(List UInt8)×(List (RT 4))×(List (List UInt8)))) (a1:Nat) (a4:Int) (rc357:Y357) (a6:(List UInt8)):Nat→Int→Nat→Int→(List TNode)→(List TField)→Option (LR2 (Nat×Int×(List TNode)×(List TField)) Unit (Nat×Int×(List TNode)))
  | 0,_,_,_,_,_=>none
  | k + 1,y39_1,y39_2,y39_3,y39_4,y39_5=>cond (decide (y39_1 < ((r9.2.2.2.1.length:Nat):Int))) (gd (0≤y39_1∧y39_1 < ((r9.2.2.2.1.length:Nat):Int)) ((TJson.dec (rtE (rd r9.2.2.2.1 y39_1))).bind fun rx61=>cond (decide (rx61.fKind≠(7:Int))) (gd (a1≤y39_4.length∧(a4).toNat < y39_4.length) ((f362 k y39_4 y39_4.length y39_2 y39_3 (9:Int)).bind fun r77=>some (.r (y39_2,r77,y39_4)))) ((f346 k rx61 ([110,97,109,101]:List UInt8)).bind fun r84=>cond (decide (r84.2.1≠(5:Int))) (gd (a1≤y39_4.length∧(a4).toNat < y39_4.length) ((f362 k y39_4 y39_4.length y39_2 y39_3 (6:Int)).bind fun r109=>some (.r (y39_2,r109,y39_4)))) ((f339 k r84.2.2.1).bind fun r101=>cond (!r101) (gd (a1≤y39_4.length∧(a4).toNat < y39_4.length) ((f362 k y39_4 y39_4.length y39_2 y39_3 (6:Int)).bind fun r109=>some (.r (y39_2,r109,y39_4)))) ((f366_l117 a4 y39_2 y39_4 y39_5 r84 a1 y39_3 k (0:Int)).bind fun o117=>(match o117 with | .b0 ()=>f366_j170 (f366_l39 r9 a1 a4 rc357 a6 k) k a1 y39_4 a4 y39_2 y39_3 rx61 rc357 a6 y39_5 r84 y39_1 | .r x=>some (.r x) | _=>none)))))) (some (.b0 (y39_2,y39_3,y39_4,y39_5)))
def f366 (rc357:Y357) (k:Nat) (a0:(List TNode)) (a1:Nat) (a2:Nat) (a3:Int) (a4:Int) (a5:TJson) (a6:(List UInt8)):Option (Nat×Int×(List TNode)):=gd ((a1≤(a4).toNat∧(a4).toNat < a0.length)∧((List.getD a0 (a4).toNat default).fFields).length = 0) ((f346 k a5 ([102,105,101,108,100,115]:List UInt8)).bind fun r9=>cond (!r9.1) (gd (a1≤a0.length∧(a4).toNat < a0.length) ((f362 k a0 a0.length a2 a3 (9:Int)).bind fun r32=>some (a2,r32,a0))) (cond (decide (r9.2.1≠(6:Int))) (gd (a1≤a0.length∧(a4).toNat < a0.length) ((f362 k a0 a0.length a2 a3 (9:Int)).bind fun r32=>some (a2,r32,a0))) ((f366_l39 r9 a1 a4 rc357 a6 k (0:Int) a2 a3 a0 ([]:List TField)).bind fun o39=>(match o39 with | .b0 (x39_1,x39_2,x39_3,x39_4)=>some (x39_1,x39_2,x39_3) | .r x=>some x | _=>none))))
theorem F366 {rc357:Y357} (hrc357:RH357 rc357) {k:Nat} {a0:(List TNode)} {a1:Nat} {a2:Nat} {a3:Int} {a4:Int} {a5:TJson} {a6:(List UInt8)} {r:(Nat×Int×(List TNode))} (h:f366 rc357 k a0 a1 a2 a3 a4 a5 a6 = some r) {vs:List Value} (hvs:vs.length≤a1 * 10) :
    ACalls Tryd.prog 75 [(.ptr 0 0),(.d (.int .i64 a4)),(.d (TJson.enc a5)),(.d (.str a6))] [(0,(.cells [(.row 1 10 a2),(.d (.int .i64 a3))])),(1,(.rowQ 3 10 vs [] (cellsD TNode.enc a0)))] (.tup []) [(0,(.cells [(.row 2 10 r.1),(.d (.int .i64 r.2.1))])),(2,(.rowQ 3 10 vs [] (cellsD TNode.enc r.2.2)))]:=by
 refine acalls_ret ⟨_,Tryd.func75,by kernel_rfl,by kernel_rfl,rfl⟩ 2 3 3 [] [(0,(.cells [(.row 2 10 r.1),(.d (.int .i64 r.2.1))])),(2,(.rowQ 3 10 vs [] (cellsD TNode.enc r.2.2)))] (doneA (.inr rfl) rfl trivial (.refl _) (hasCons rfl (hasCons rfl hasNil))) ?_
 unfold f366 at h
 obtain ⟨bsp,h⟩:=gd_some h
 refine .spI (z:=10) (f:=3) (l0:=1) (off:=(a4).toNat * 10 + 3) (spD (ys:=(List.getD a0 (a4).toNat default).fFields) TNode.ok bsp.1.2 bsp.2) (modQ (by decide)) rfl rfl (.seq ?_)
 refine .e [] (.seq ?_)
 obtain ⟨r9,e9,h⟩:=bind_some h
 refine .e [.call (F346 e9) [] 0] (.seq ?_)
 refine .seq ?_
 rcases cc h with ⟨c22,h⟩ | ⟨c22,h⟩
 · refine .e [.br c22] (.cT rfl ?_)
   refine .seq ?_
   obtain ⟨b32q,h⟩:=gd_some h
   obtain ⟨r32,e32,h⟩:=bind_some h
   refine .e [.call (ACalls.litC (G1:=[(0,(.cells [(.row 1 10 a2),(.d (.int .i64 a3))]))]) (G2:=[]) (G1':=[(0,(.cells [(.row 1 10 a2),(.d (.int .i64 r32))]))]) (G2':=[]) (l:=1) (l':=1) (f:=3) (sp:=[((a4).toNat * 10 + 3,.nils)]) TNode.ok hvs b32q.1 (spOne (spLt b32q.2)) (fun vs2 hv2=>(F362 e32 hv2))) [] 2] ?_
   cases h
   exact .ret (rq [(2,1)] [])
 refine .e [.br c22] (.cB h (fun h=>?_) fun h=>?_)
 · refine .seq ?_
   obtain ⟨b32q,h⟩:=gd_some h
   obtain ⟨r32,e32,h⟩:=bind_some h
   refine .e [.call (ACalls.litC (G1:=[(0,(.cells [(.row 1 10 a2),(.d (.int .i64 a3))]))]) (G2:=[]) (G1':=[(0,(.cells [(.row 1 10 a2),(.d (.int .i64 r32))]))]) (G2':=[]) (l:=1) (l':=1) (f:=3) (sp:=[((a4).toNat * 10 + 3,.nils)]) TNode.ok hvs b32q.1 (spOne (spLt b32q.2)) (fun vs2 hv2=>(F362 e32 hv2))) [] 2] ?_
   cases h
   exact .ret (rq [(2,1)] [])
 refine .skip (.seq ?_)
 refine .e [] ?_
 obtain ⟨o39,h39,h⟩:=bind_some h
 refine .block (.lp 5 (fun k (x:(Int×Nat×Int×(List TNode)×(List TField)))=>f366_l39 r9 a1 a4 rc357 a6 k x.1 x.2.1 x.2.2.1 x.2.2.2.1 x.2.2.2.2 = some o39) (fun x=>[(0,(.ptr 0 0)),(1,(.d (.int .i64 a4))),(3,(.d (.str a6))),(8,(.ptr 2 0)),(10,(.d (.int .i64 x.1)))]) (fun x=>[(0,(.cells [(.row 3 10 x.2.1),(.d (.int .i64 x.2.2.1))])),(2,(.cells [(.d (.int .i64 r9.2.1)),(.d (.str r9.2.2.1)),(.d (.sl (List.map (rtE (z:=4)) r9.2.2.2.1))),(.d (.sl (List.map D.str r9.2.2.2.2)))])),(3,(.rowQ 3 10 vs [((a4).toNat * 10 + 3,(.ap 4 5 (List.map TField.enc x.2.2.2.2)))] (cellsD TNode.enc x.2.2.2.1))),(4,(.tok ((List.map TField.enc x.2.2.2.2).length * 5)))]) (_,_,_,_,_) h39 [(2,3),(3,1),(4,4)] [.tok 0] ?_)
 rintro k ⟨y39_1,y39_2,y39_3,y39_4,y39_5⟩ h39
 dsimp only at h39 ⊢
 rw [f366_l39] at h39
 refine .seq (.seq ?_)
 refine .e [.ln (rtE (z:=4)) r9.2.2.2.1] (.cD h39 (fun h39=>?_) fun h39=>?_)
 · cases h39
   dsimp only at h
   refine .exit (inBlk_eq ?_)
   cases h
   exact rqn [(2,3)] []
 refine .skip (.seq ?_)
 refine .block (.seq ?_)
 obtain ⟨b61,h39⟩:=gd_some h39
 obtain ⟨rx61,ex61,h39⟩:=bind_some h39
 refine .e [.iadE (rtE (z:=4)) r9.2.2.2.1 4 rtE_ok.len b61 (TJson.dec_eq ex61)] (.seq ?_)
 refine .seq (.e [] ?_)
 refine .cB h39 (fun h39=>?_) fun h39=>?_
 · refine .seq ?_
   obtain ⟨b77q,h39⟩:=gd_some h39
   obtain ⟨r77,e77,h39⟩:=bind_some h39
   refine .e [.call (ACalls.litC (G1:=[(0,(.cells [(.row 1 10 y39_2),(.d (.int .i64 y39_3))]))]) (G2:=[]) (G1':=[(0,(.cells [(.row 1 10 y39_2),(.d (.int .i64 r77))]))]) (G2':=[]) (l:=1) (l':=1) (f:=3) (sp:=[((a4).toNat * 10 + 3,(.ap 2 5 (List.map TField.enc y39_5)))]) TNode.ok hvs b77q.1 (spOne (spLt b77q.2)) (fun vs2 hv2=>(F362 e77 hv2))) [(1,3),(2,4)] 3] ?_
   cases h39
   dsimp only at h
   cases h
   exact .ret (rq [(2,3)] [])
 refine .skip (.seq ?_)
 obtain ⟨r84,e84,h39⟩:=bind_some h39
 refine .e [.call (F346 e84) [] 0] (.seq ?_)
 refine .seq ?_
 rcases cc h39 with ⟨c98,h39⟩ | ⟨c98,h39⟩
 · refine .e [.br c98] (.cT rfl ?_)
   refine .seq ?_
   obtain ⟨b109q,h39⟩:=gd_some h39
   obtain ⟨r109,e109,h39⟩:=bind_some h39
   refine .e [.call (ACalls.litC (G1:=[(0,(.cells [(.row 1 10 y39_2),(.d (.int .i64 y39_3))]))]) (G2:=[]) (G1':=[(0,(.cells [(.row 1 10 y39_2),(.d (.int .i64 r109))]))]) (G2':=[]) (l:=1) (l':=1) (f:=3) (sp:=[((a4).toNat * 10 + 3,(.ap 2 5 (List.map TField.enc y39_5)))]) TNode.ok hvs b109q.1 (spOne (spLt b109q.2)) (fun vs2 hv2=>(F362 e109 hv2))) [(1,3),(2,4)] 3] ?_
   cases h39
   dsimp only at h
   cases h
   exact .ret (rq [(2,3)] [])
 obtain ⟨r101,e101,h39⟩:=bind_some h39
 refine .e [.br c98,.call (F339 e101) [] 0] (.cB h39 (fun h39=>?_) fun h39=>?_)
 · refine .seq ?_
   obtain ⟨b109q,h39⟩:=gd_some h39
   obtain ⟨r109,e109,h39⟩:=bind_some h39
   refine .e [.call (ACalls.litC (G1:=[(0,(.cells [(.row 1 10 y39_2),(.d (.int .i64 y39_3))]))]) (G2:=[]) (G1':=[(0,(.cells [(.row 1 10 y39_2),(.d (.int .i64 r109))]))]) (G2':=[]) (l:=1) (l':=1) (f:=3) (sp:=[((a4).toNat * 10 + 3,(.ap 2 5 (List.map TField.enc y39_5)))]) TNode.ok hvs b109q.1 (spOne (spLt b109q.2)) (fun vs2 hv2=>(F362 e109 hv2))) [(1,3),(2,4)] 3] ?_
   cases h39
   dsimp only at h
   cases h
   exact .ret (rq [(2,3)] [])
 refine .skip (.j 7 (fun (z:Unit)=>f366_j170 (f366_l39 r9 a1 a4 rc357 a6 k) k a1 y39_4 a4 y39_2 y39_3 rx61 rc357 a6 y39_5 r84 y39_1 = some o39) (fun z=>[(0,(.ptr 0 0)),(1,(.d (.int .i64 a4))),(3,(.d (.str a6))),(8,(.ptr 2 0)),(10,(.d (.int .i64 y39_1))),(11,(.ptr 3 0)),(12,(.ptr 4 0)),(60,(.ptr 4 1)),(61,(.d (.str r84.2.2.1))),(62,(.d (.bool r101))),(63,(.d (.bool (!r101))))]) (fun z=>[(0,(.cells [(.row 5 10 y39_2),(.d (.int .i64 y39_3))])),(2,(.cells [(.d (.int .i64 r9.2.1)),(.d (.str r9.2.2.1)),(.d (.sl (List.map (rtE (z:=4)) r9.2.2.2.1))),(.d (.sl (List.map D.str r9.2.2.2.2)))])),(3,(.cells [(.d (.int .i64 rx61.fKind)),(.d (.str rx61.fText)),(.d (.sl (List.map (rtE (z:=4)) rx61.fL))),(.d (.sl (List.map D.str rx61.fKeys)))])),(4,(.cells [(.d (.int .i64 r84.2.1)),(.d (.str r84.2.2.1)),(.d (.sl (List.map (rtE (z:=4)) r84.2.2.2.1))),(.d (.sl (List.map D.str r84.2.2.2.2)))])),(5,(.rowQ 3 10 vs [((a4).toNat * 10 + 3,(.ap 6 5 (List.map TField.enc y39_5)))] (cellsD TNode.enc y39_4))),(6,(.tok ((List.map TField.enc y39_5).length * 5)))]) ?_ ?_)
 · refine .seq (.e [] ?_)
   obtain ⟨o117,h117,h39⟩:=bind_some h39
   refine .block (.lp 7 (fun k (x:Int)=>f366_l117 a4 y39_2 y39_4 y39_5 r84 a1 y39_3 k x = some o117) (fun x=>[(0,(.ptr 0 0)),(1,(.d (.int .i64 a4))),(3,(.d (.str a6))),(8,(.ptr 2 0)),(10,(.d (.int .i64 y39_1))),(11,(.ptr 3 0)),(12,(.ptr 4 0)),(14,(.d (.int .i64 x))),(60,(.ptr 4 1)),(61,(.d (.str r84.2.2.1))),(62,(.d (.bool r101))),(63,(.d (.bool (!r101))))]) (fun x=>[(0,(.cells [(.row 5 10 y39_2),(.d (.int .i64 y39_3))])),(2,(.cells [(.d (.int .i64 r9.2.1)),(.d (.str r9.2.2.1)),(.d (.sl (List.map (rtE (z:=4)) r9.2.2.2.1))),(.d (.sl (List.map D.str r9.2.2.2.2)))])),(3,(.cells [(.d (.int .i64 rx61.fKind)),(.d (.str rx61.fText)),(.d (.sl (List.map (rtE (z:=4)) rx61.fL))),(.d (.sl (List.map D.str rx61.fKeys)))])),(4,(.cells [(.d (.int .i64 r84.2.1)),(.d (.str r84.2.2.1)),(.d (.sl (List.map (rtE (z:=4)) r84.2.2.2.1))),(.d (.sl (List.map D.str r84.2.2.2.2)))])),(5,(.rowQ 3 10 vs [((a4).toNat * 10 + 3,(.ap 6 5 (List.map TField.enc y39_5)))] (cellsD TNode.enc y39_4))),(6,(.tok ((List.map TField.enc y39_5).length * 5)))]) _ h117 [(3,5),(4,6),(5,3),(6,4)] [] ?_)
   intro k y117_1 h117
   rw [f366_l117] at h117
   refine .seq (.seq ?_)
   obtain ⟨b129,h117⟩:=gd_some h117
   obtain ⟨b131,h117⟩:=gd_some h117
   refine .e [.iaR (n:=y39_2) (k:=a4) b129,.ldS TNode.ok 3 vs y39_4 (i:=(a4).toNat) (j:=3) b131 (.ap 6 5 (List.map TField.enc y39_5)),.ln TField.enc y39_5] (.cD h117 (fun h117=>?_) fun h117=>?_)
   · cases h117
     dsimp only at h39
     refine .exit (inBlk_eq ?_)
     exact ⟨(),h39,inZ⟩
   refine .skip (.seq ?_)
   refine .block (.seq ?_)
   obtain ⟨b147,h117⟩:=gd_some h117
   obtain ⟨b149,h117⟩:=gd_some h117
   obtain ⟨b151,h117⟩:=gd_some h117
   refine .e [.iaR (n:=y39_2) (k:=a4) b147,.ldS TNode.ok 3 vs y39_4 (i:=(a4).toNat) (j:=3) b149 (.ap 6 5 (List.map TField.enc y39_5)),.iad TField.enc y39_5 5 (fun _=>rfl) b151] (.cD h117 (fun h117=>?_) fun h117=>?_)
   · refine .skip (.e [] ?_)
     exact ⟨_,h117,inZ⟩
   refine .seq ?_
   obtain ⟨b162q,h117⟩:=gd_some h117
   obtain ⟨r162,e162,h117⟩:=bind_some h117
   refine .e [.call (ACalls.litC (G1:=[(0,(.cells [(.row 1 10 y39_2),(.d (.int .i64 y39_3))]))]) (G2:=[]) (G1':=[(0,(.cells [(.row 1 10 y39_2),(.d (.int .i64 r162))]))]) (G2':=[]) (l:=1) (l':=1) (f:=3) (sp:=[((a4).toNat * 10 + 3,(.ap 2 5 (List.map TField.enc y39_5)))]) TNode.ok hvs b162q.1 (spOne (spLt b162q.2)) (fun vs2 hv2=>(F362 e162 hv2))) [(1,5),(2,6)] 3] ?_
   cases h117
   dsimp only at h39
   cases h39
   dsimp only at h
   cases h
   exact .ret (rq [(2,5)] [])
 rintro ⟨⟩ h39
 unfold f366_j170 at h39
 refine .seq ?_
 obtain ⟨b177q,h39⟩:=gd_some h39
 obtain ⟨r177,e177,h39⟩:=bind_some h39
 refine .e [.call (ACalls.litC (G1:=[(0,(.cells [(.row 1 10 y39_2),(.d (.int .i64 y39_3))]))]) (G2:=[]) (G1':=[(2,(.tok ((List.map D.str r177.1).length * 1))),(0,(.cells [(.row 1 10 y39_2),(.d (.int .i64 r177.2))]))]) (G2':=[]) (l:=1) (l':=1) (f:=3) (sp:=[((a4).toNat * 10 + 3,(.ap 3 5 (List.map TField.enc y39_5)))]) TNode.ok hvs b177q.1 (spOne (spLt b177q.2)) (fun vs2 hv2=>(F365 e177 hv2))) [(1,5),(2,7),(3,6)] 4] (.seq ?_)
 obtain ⟨r185,e185,h39⟩:=bind_some h39
 refine .e [.call (F346 e185) [] 0] (.j 9 (fun z=>f366_j204 (f366_l39 r9 a1 a4 rc357 a6 k) k a1 y39_4 a4 rc357 y39_2 r185 a6 rx61 y39_5 r84 r177 y39_1 z = some o39) (fun z=>[(0,(.ptr 0 0)),(1,(.d (.int .i64 a4))),(3,(.d (.str a6))),(8,(.ptr 2 0)),(10,(.d (.int .i64 y39_1))),(11,(.ptr 3 0)),(15,(.ptr 4 0)),(16,(.ptr 5 0)),(60,(.ptr 6 1)),(61,(.d (.str r84.2.2.1))),(62,(.d (.bool r101))),(63,(.d (.bool (!r101))))]) (fun z=>[(0,(.cells [(.row 7 10 y39_2),(.d (.int .i64 z))])),(2,(.cells [(.d (.int .i64 r9.2.1)),(.d (.str r9.2.2.1)),(.d (.sl (List.map (rtE (z:=4)) r9.2.2.2.1))),(.d (.sl (List.map D.str r9.2.2.2.2)))])),(3,(.cells [(.d (.int .i64 rx61.fKind)),(.d (.str rx61.fText)),(.d (.sl (List.map (rtE (z:=4)) rx61.fL))),(.d (.sl (List.map D.str rx61.fKeys)))])),(4,(.cells [(.d (.str r84.2.2.1)),(.d (.sl (List.map D.str r177.1))),(.d (.int .i64 (0:Int))),(.d (.bool false)),(.d (.str ([]:List UInt8)))])),(5,(.cells [(.d (.int .i64 r185.2.1)),(.d (.str r185.2.2.1)),(.d (.sl (List.map (rtE (z:=4)) r185.2.2.2.1))),(.d (.sl (List.map D.str r185.2.2.2.2)))])),(6,(.cells [(.d (.int .i64 r84.2.1)),(.d (.str r84.2.2.1)),(.d (.sl (List.map (rtE (z:=4)) r84.2.2.2.1))),(.d (.sl (List.map D.str r84.2.2.2.2)))])),(7,(.rowQ 3 10 vs [((a4).toNat * 10 + 3,(.ap 8 5 (List.map TField.enc y39_5)))] (cellsD TNode.enc y39_4))),(8,(.tok ((List.map TField.enc y39_5).length * 5)))]) ?_ ?_)
 · refine .seq (.e [] ?_)
   refine .cD h39 (fun h39=>?_) fun h39=>?_
   · exact .skip ⟨_,h39,(inT [(4,8),(5,9),(6,4),(7,5),(8,6)] [])⟩
   obtain ⟨b202q,h39⟩:=gd_some h39
   obtain ⟨r202,e202,h39⟩:=bind_some h39
   exact .e [.call (ACalls.litC (G1:=[(0,(.cells [(.row 1 10 y39_2),(.d (.int .i64 r177.2))]))]) (G2:=[]) (G1':=[(0,(.cells [(.row 1 10 y39_2),(.d (.int .i64 r202))]))]) (G2':=[]) (l:=1) (l':=1) (f:=3) (sp:=[((a4).toNat * 10 + 3,(.ap 2 5 (List.map TField.enc y39_5)))]) TNode.ok hvs b202q.1 (spOne (spLt b202q.2)) (fun vs2 hv2=>(F362 e202 hv2))) [(1,5),(2,6)] 3] ⟨_,h39,(inT [(4,8),(5,9),(6,4),(7,5),(8,6)] [])⟩
 intro j204_1 h39
 unfold f366_j204 at h39
 refine .seq ?_
 obtain ⟨b210q,h39⟩:=gd_some h39
 obtain ⟨r210,e210,h39⟩:=bind_some h39
 refine .e [.call (ACalls.litC (G1:=[(0,(.cells [(.row 1 10 y39_2),(.d (.int .i64 j204_1))]))]) (G2:=[]) (G1':=[(0,(.cells [(.row 2 10 r210.2.1),(.d (.int .i64 r210.2.2.1))]))]) (G2':=[]) (l:=1) (l':=2) (f:=3) (sp:=[((a4).toNat * 10 + 3,(.ap 3 5 (List.map TField.enc y39_5)))]) TNode.ok hvs b210q.1 (spOne (spLt b210q.2)) (fun vs2 hv2=>(hrc357 _ _ _ _ _ _ _ e210 hv2))) [(1,7),(2,9),(3,8)] 4] (.seq ?_)
 obtain ⟨r217,e217,h39⟩:=bind_some h39
 refine .e [.call (F346 e217) [] 0] (.j 7 (fun (z:(Bool×(List UInt8)))=>f366_j239 (f366_l39 r9 a1 a4 rc357 a6 k) k r210 a4 y39_5 r84 r177 a1 y39_1 z.1 z.2 = some o39) (fun z=>[(0,(.ptr 0 0)),(1,(.d (.int .i64 a4))),(3,(.d (.str a6))),(8,(.ptr 2 0)),(10,(.d (.int .i64 y39_1))),(15,(.ptr 3 0)),(60,(.ptr 4 1)),(61,(.d (.str r84.2.2.1))),(62,(.d (.bool r101))),(63,(.d (.bool (!r101))))]) (fun z=>[(0,(.cells [(.row 5 10 r210.2.1),(.d (.int .i64 r210.2.2.1))])),(2,(.cells [(.d (.int .i64 r9.2.1)),(.d (.str r9.2.2.1)),(.d (.sl (List.map (rtE (z:=4)) r9.2.2.2.1))),(.d (.sl (List.map D.str r9.2.2.2.2)))])),(3,(.cells [(.d (.str r84.2.2.1)),(.d (.sl (List.map D.str r177.1))),(.d (.int .i64 r210.1)),(.d (.bool z.1)),(.d (.str z.2))])),(4,(.cells [(.d (.int .i64 r84.2.1)),(.d (.str r84.2.2.1)),(.d (.sl (List.map (rtE (z:=4)) r84.2.2.2.1))),(.d (.sl (List.map D.str r84.2.2.2.2)))])),(5,(.rowQ 3 10 vs [((a4).toNat * 10 + 3,(.ap 6 5 (List.map TField.enc y39_5)))] (cellsD TNode.enc r210.2.2.2))),(6,(.tok ((List.map TField.enc y39_5).length * 5)))]) ?_ ?_)
 · refine .seq (.e [] ?_)
   refine .cD h39 (fun h39=>?_) fun h39=>?_
   · exact .skip ⟨(_,_),h39,(inT [(3,4),(4,6),(5,9),(6,8)] [])⟩
   obtain ⟨r233,e233,h39⟩:=bind_some h39
   exact .e [.call (F354 e233) [] 0] ⟨(_,_),h39,(inT [(3,4),(4,6),(5,9),(6,8)] [])⟩
 rintro ⟨j239_1,j239_2⟩ h39
 dsimp only at h39 ⊢
 unfold f366_j239 at h39
 refine .seq (.seq ?_)
 refine .e [] (.cB h39 (fun h39=>?_) fun h39=>?_)
 · cases h39
   dsimp only at h
   cases h
   exact .ret (rq [(2,5)] [])
 refine .skip ?_
 obtain ⟨b263,h39⟩:=gd_some h39
 obtain ⟨b265,h39⟩:=gd_some h39
 obtain ⟨b268,h39⟩:=gd_some h39
 obtain ⟨b269,h39⟩:=gd_some h39
 obtain ⟨b271,h39⟩:=gd_some h39
 refine .e [.iaR (n:=r210.2.1) (k:=a4) b263,.ldS TNode.ok 3 vs r210.2.2.2 (i:=(a4).toNat) (j:=3) b265 (.ap 6 5 (List.map TField.enc y39_5)),.apA TField.enc y39_5 ([(TField.mk r84.2.2.1 r177.1 r210.1 j239_1 j239_2)]:List TField) 5 (fun _=>rfl) b268,.iaR (n:=r210.2.1) (k:=a4) b269,.stS TNode.ok 3 hvs r210.2.2.2 (i:=(a4).toNat) b271 (fun w_=>{ w_ with fFields:=(y39_5 ++ ([(TField.mk r84.2.2.1 r177.1 r210.1 j239_1 j239_2)]:List TField)) }) (.ap 6 5 (List.map TField.enc y39_5)) (.ap 7 5 (List.map TField.enc (y39_5 ++ ([(TField.mk r84.2.2.1 r177.1 r210.1 j239_1 j239_2)]:List TField)))) (d:=.sl (List.map TField.enc (y39_5 ++ ([(TField.mk r84.2.2.1 r177.1 r210.1 j239_1 j239_2)]:List TField)))) (.sl rfl) (by simp)] (.e [] ?_)
 exact ⟨((IntKind.i64.wrap (y39_1 + (1:Int))),r210.2.1,r210.2.2.1,(setAt r210.2.2.2 (a4).toNat (fun w_=>{ w_ with fFields:=(y39_5 ++ ([(TField.mk r84.2.2.1 r177.1 r210.1 j239_1 j239_2)]:List TField)) })),(y39_5 ++ ([(TField.mk r84.2.2.1 r177.1 r210.1 j239_1 j239_2)]:List TField))),h39,(inT [(3,5),(4,7)] [])⟩
def f367_j168 (k:Nat) (a4:Int) (a2:Nat) (a1:Nat) (a0:(List TNode)) (j132_1:(List (List UInt8))) (r136:(Bool×Int×(List UInt8)×(List (RT 4))×(List (List UInt8)))) (a3:Int):Option (Int×(List TNode)):=gd (0≤a4∧a4 < ((a2:Nat):Int)) (gd (a1≤(a4).toNat∧(a4).toNat < a0.length) (gd (0≤a4∧a4 < ((a2:Nat):Int)) (gd (a1≤(a4).toNat∧(a4).toNat < (setAt a0 (a4).toNat (fun w_=>{ w_ with fSymbols:=j132_1 })).length) (gd (0≤a4∧a4 < ((a2:Nat):Int)) (gd (a1≤(a4).toNat∧(a4).toNat < (setAt (setAt a0 (a4).toNat (fun w_=>{ w_ with fSymbols:=j132_1 })) (a4).toNat (fun w_=>{ w_ with fHas:=r136.1 })).length) (some (a3,(setAt (setAt (setAt a0 (a4).toNat (fun w_=>{ w_ with fSymbols:=j132_1 })) (a4).toNat (fun w_=>{ w_ with fHas:=r136.1 })) (a4).toNat (fun w_=>{ w_ with fDefault:=r136.2.2.1 })))))))))
def f367_j132 (k:Nat) (a5:TJson) (a0:(List TNode)) (a1:Nat) (a2:Nat) (a3:Int) (a4:Int) (j132_1:(List (List UInt8))):Option (Int×(List TNode)):=(f346 k a5 ([100,101,102,97,117,108,116]:List UInt8)).bind fun r136=>cond r136.1 (cond (decide (r136.2.1≠(5:Int))) ((f362 k a0 a1 a2 a3 (10:Int)).bind fun r165=>some (r165,a0)) ((f77 k j132_1 r136.2.2.1).bind fun r156=>cond (!r156) ((f362 k a0 a1 a2 a3 (10:Int)).bind fun r165=>some (r165,a0)) (f367_j168 k a4 a2 a1 a0 j132_1 r136 a3))) (f367_j168 k a4 a2 a1 a0 j132_1 r136 a3)
def f367_l50 (r9:(Bool×Int×(List UInt8)×(List (RT 4))×(List (List UInt8)))) (a0:(List TNode)) (a1:Nat) (a2:Nat) (a3:Int):Nat→(List (List UInt8))→Int→Option (LR2 (List (List UInt8)) Unit (Int×(List TNode)))
  | 0,_,_=>none
  | k + 1,y50_1,y50_2=>cond (decide (y50_2 < ((r9.2.2.2.1.length:Nat):Int))) (gd (0≤y50_2∧y50_2 < ((r9.2.2.2.1.length:Nat):Int)) ((TJson.dec (rtE (rd r9.2.2.2.1 y50_2))).bind fun rx73=>cond (decide (rx73.fKind≠(5:Int))) ((f362 k a0 a1 a2 a3 (6:Int)).bind fun r92=>some (.r (r92,a0))) (gd (0≤y50_2∧y50_2 < ((r9.2.2.2.1.length:Nat):Int)) ((TJson.dec (rtE (rd r9.2.2.2.1 y50_2))).bind fun rx81=>(f339 k rx81.fText).bind fun r84=>cond (!r84) ((f362 k a0 a1 a2 a3 (6:Int)).bind fun r92=>some (.r (r92,a0))) (gd (0≤y50_2∧y50_2 < ((r9.2.2.2.1.length:Nat):Int)) ((TJson.dec (rtE (rd r9.2.2.2.1 y50_2))).bind fun rx103=>(f77 k y50_1 rx103.fText).bind fun r106=>cond r106 ((f362 k a0 a1 a2 a3 (7:Int)).bind fun r112=>some (.r (r112,a0))) (gd (0≤y50_2∧y50_2 < ((r9.2.2.2.1.length:Nat):Int)) ((TJson.dec (rtE (rd r9.2.2.2.1 y50_2))).bind fun rx121=>gd ((y50_1.length + ([rx121.fText]:List (List UInt8)).length) * 2 * 16≤281474976710656) (f367_l50 r9 a0 a1 a2 a3 k (y50_1 ++ ([rx121.fText]:List (List UInt8))) (IntKind.i64.wrap (y50_2 + (1:Int)))))))))))) (some (.b0 y50_1))
def f367 (k:Nat) (a0:(List TNode)) (a1:Nat) (a2:Nat) (a3:Int) (a4:Int) (a5:TJson):Option (Int×(List TNode)):=(f346 k a5 ([115,121,109,98,111,108,115]:List UInt8)).bind fun r9=>cond (!r9.1) ((f362 k a0 a1 a2 a3 (9:Int)).bind fun r38=>some (r38,a0)) (cond (decide (r9.2.1≠(6:Int))) ((f362 k a0 a1 a2 a3 (9:Int)).bind fun r38=>some (r38,a0)) (cond (decide (((r9.2.2.2.1.length:Nat):Int) = (0:Int))) ((f362 k a0 a1 a2 a3 (9:Int)).bind fun r38=>some (r38,a0)) ((f367_l50 r9 a0 a1 a2 a3 k ([]:List (List UInt8)) (0:Int)).bind fun o50=>(match o50 with | .b0 x50_1=>f367_j132 k a5 a0 a1 a2 a3 a4 x50_1 | .r x=>some x | _=>none))))
theorem F367 {k:Nat} {a0:(List TNode)} {a1:Nat} {a2:Nat} {a3:Int} {a4:Int} {a5:TJson} {r:(Int×(List TNode))} (h:f367 k a0 a1 a2 a3 a4 a5 = some r) {vs:List Value} (hvs:vs.length≤a1 * 10) :
    ACalls Tryd.prog 76 [(.ptr 0 0),(.d (.int .i64 a4)),(.d (TJson.enc a5))] [(0,(.cells [(.row 1 10 a2),(.d (.int .i64 a3))])),(1,(.rowQ 3 10 vs [] (cellsD TNode.enc a0)))] (.tup []) [(0,(.cells [(.row 1 10 a2),(.d (.int .i64 r.1))])),(1,(.rowQ 3 10 vs [] (cellsD TNode.enc r.2)))]:=by
 refine acalls_ret ⟨_,Tryd.func76,by kernel_rfl,by kernel_rfl,rfl⟩ 2 2 2 [] [(0,(.cells [(.row 1 10 a2),(.d (.int .i64 r.1))])),(1,(.rowQ 3 10 vs [] (cellsD TNode.enc r.2)))] (doneA (.inr rfl) rfl trivial (.refl _) (hasCons rfl (hasCons rfl hasNil))) ?_
 unfold f367 at h
 refine .seq (.e [] ?_)
 refine .seq ?_
 obtain ⟨r9,e9,h⟩:=bind_some h
 refine .e [.call (F346 e9) [] 0] (.seq ?_)
 refine .seq ?_
 rcases cc h with ⟨c22,h⟩ | ⟨c22,h⟩
 · refine .e [.br c22,.br (rfl:true = true)] (.cT rfl ?_)
   refine .seq ?_
   obtain ⟨r38,e38,h⟩:=bind_some h
   refine .e [.call (F362 e38 hvs) [] 2] ?_
   cases h
   exact .ret rz
 rcases cc h with ⟨c27,h⟩ | ⟨c27,h⟩
 · refine .e [.br c22,.br c27] (.cT rfl ?_)
   refine .seq ?_
   obtain ⟨r38,e38,h⟩:=bind_some h
   refine .e [.call (F362 e38 hvs) [] 2] ?_
   cases h
   exact .ret rz
 refine .e [.br c22,.br c27,.ln (rtE (z:=4)) r9.2.2.2.1] (.cB h (fun h=>?_) fun h=>?_)
 · refine .seq ?_
   obtain ⟨r38,e38,h⟩:=bind_some h
   refine .e [.call (F362 e38 hvs) [] 2] ?_
   cases h
   exact .ret rz
 refine .skip (.seq ?_)
 refine .e [] (.j 4 (fun z=>f367_j132 k a5 a0 a1 a2 a3 a4 z = some r) (fun z=>[(0,(.ptr 0 0)),(1,(.d (.int .i64 a4))),(5,(.ptr 2 0)),(8,(.ap 3 1 (List.map D.str z)))]) (fun z=>[(0,(.cells [(.row 1 10 a2),(.d (.int .i64 a3))])),(2,(.cells [(.d (.int .i64 a5.fKind)),(.d (.str a5.fText)),(.d (.sl (List.map (rtE (z:=4)) a5.fL))),(.d (.sl (List.map D.str a5.fKeys)))])),(3,(.tok ((List.map D.str z).length * 1))),(1,(.rowQ 3 10 vs [] (cellsD TNode.enc a0)))]) ?_ ?_)
 · refine .seq (.e [] ?_)
   obtain ⟨o50,h50,h⟩:=bind_some h
   refine .block (.lp 5 (fun k (x:((List (List UInt8))×Int))=>f367_l50 r9 a0 a1 a2 a3 k x.1 x.2 = some o50) (fun x=>[(0,(.ptr 0 0)),(1,(.d (.int .i64 a4))),(5,(.ptr 2 0)),(6,(.ptr 3 0)),(8,(.ap 4 1 (List.map D.str x.1))),(9,(.d (.int .i64 x.2)))]) (fun x=>[(0,(.cells [(.row 1 10 a2),(.d (.int .i64 a3))])),(2,(.cells [(.d (.int .i64 a5.fKind)),(.d (.str a5.fText)),(.d (.sl (List.map (rtE (z:=4)) a5.fL))),(.d (.sl (List.map D.str a5.fKeys)))])),(3,(.cells [(.d (.int .i64 r9.2.1)),(.d (.str r9.2.2.1)),(.d (.sl (List.map (rtE (z:=4)) r9.2.2.2.1))),(.d (.sl (List.map D.str r9.2.2.2.2)))])),(4,(.tok ((List.map D.str x.1).length * 1))),(1,(.rowQ 3 10 vs [] (cellsD TNode.enc a0)))]) (_,_) h50 [(4,4)] [.tok 0] ?_)
   rintro k ⟨y50_1,y50_2⟩ h50
   dsimp only at h50 ⊢
   rw [f367_l50] at h50
   refine .seq (.seq ?_)
   refine .e [.ln (rtE (z:=4)) r9.2.2.2.1] (.cD h50 (fun h50=>?_) fun h50=>?_)
   · cases h50
     dsimp only at h
     refine .exit (inBlk_eq ?_)
     exact ⟨_,h,(inT [(3,4)] [])⟩
   refine .skip (.seq ?_)
   refine .block (.seq ?_)
   refine .seq ?_
   obtain ⟨b73,h50⟩:=gd_some h50
   obtain ⟨rx73,ex73,h50⟩:=bind_some h50
   rcases cc h50 with ⟨c77,h50⟩ | ⟨c77,h50⟩
   · refine .e [.iadE (rtE (z:=4)) r9.2.2.2.1 4 rtE_ok.len b73 (TJson.dec_eq ex73),.br c77] (.cT rfl ?_)
     refine .seq ?_
     obtain ⟨r92,e92,h50⟩:=bind_some h50
     refine .e [.call (F362 e92 hvs) [] 2] ?_
     cases h50
     dsimp only at h
     cases h
     exact .ret rz
   obtain ⟨b81,h50⟩:=gd_some h50
   obtain ⟨rx81,ex81,h50⟩:=bind_some h50
   obtain ⟨r84,e84,h50⟩:=bind_some h50
   refine .e [.iadE (rtE (z:=4)) r9.2.2.2.1 4 rtE_ok.len b73 (TJson.dec_eq ex73),.br c77,.iadE (rtE (z:=4)) r9.2.2.2.1 4 rtE_ok.len b81 (TJson.dec_eq ex81),.call (F339 e84) [] 0] (.cB h50 (fun h50=>?_) fun h50=>?_)
   · refine .seq ?_
     obtain ⟨r92,e92,h50⟩:=bind_some h50
     refine .e [.call (F362 e92 hvs) [] 2] ?_
     cases h50
     dsimp only at h
     cases h
     exact .ret rz
   refine .skip (.seq ?_)
   refine .seq ?_
   obtain ⟨b103,h50⟩:=gd_some h50
   obtain ⟨rx103,ex103,h50⟩:=bind_some h50
   obtain ⟨r106,e106,h50⟩:=bind_some h50
   refine .e [.iadE (rtE (z:=4)) r9.2.2.2.1 4 rtE_ok.len b103 (TJson.dec_eq ex103),.call (F77 e106) [] 0] (.cB h50 (fun h50=>?_) fun h50=>?_)
   · refine .seq ?_
     obtain ⟨r112,e112,h50⟩:=bind_some h50
     refine .e [.call (F362 e112 hvs) [] 2] ?_
     cases h50
     dsimp only at h
     cases h
     exact .ret rz
   refine .skip ?_
   obtain ⟨b121,h50⟩:=gd_some h50
   obtain ⟨rx121,ex121,h50⟩:=bind_some h50
   obtain ⟨b125,h50⟩:=gd_some h50
   refine .e [.iadE (rtE (z:=4)) r9.2.2.2.1 4 rtE_ok.len b121 (TJson.dec_eq ex121),.apA D.str y50_1 ([rx121.fText]:List (List UInt8)) 1 (fun _=>rfl) b125] (.e [] ?_)
   exact ⟨(_,_),h50,(inT [(4,5)] [])⟩
 intro j132_1 h
 unfold f367_j132 at h
 refine .seq ?_
 obtain ⟨r136,e136,h⟩:=bind_some h
 refine .e [.call (F346 e136) [] 0] (.j 4 (fun (z:Unit)=>f367_j168 k a4 a2 a1 a0 j132_1 r136 a3 = some r) (fun z=>[(0,(.ptr 0 0)),(1,(.d (.int .i64 a4))),(8,(.ap 2 1 (List.map D.str j132_1))),(10,(.ptr 3 0)),(11,(.d (.bool r136.1)))]) (fun z=>[(0,(.cells [(.row 1 10 a2),(.d (.int .i64 a3))])),(2,(.tok ((List.map D.str j132_1).length * 1))),(3,(.cells [(.d (.int .i64 r136.2.1)),(.d (.str r136.2.2.1)),(.d (.sl (List.map (rtE (z:=4)) r136.2.2.2.1))),(.d (.sl (List.map D.str r136.2.2.2.2)))])),(1,(.rowQ 3 10 vs [] (cellsD TNode.enc a0)))]) ?_ ?_)
 · refine .seq ?_
   rcases cc h with ⟨c148,h⟩ | ⟨c148,h⟩
   · rcases cc h with ⟨c152,h⟩ | ⟨c152,h⟩
     · refine .e [.br c148,.br c152] (.cT rfl ?_)
       refine .seq ?_
       obtain ⟨r165,e165,h⟩:=bind_some h
       refine .e [.call (F362 e165 hvs) [] 2] ?_
       cases h
       exact .ret rz
     obtain ⟨r156,e156,h⟩:=bind_some h
     refine .e [.br c148,.br c152,.call (F77 e156) [] 0] (.cD h (fun h=>?_) fun h=>?_)
     · exact .skip ⟨(),h,(inT [(2,3),(3,4)] [])⟩
     refine .seq ?_
     obtain ⟨r165,e165,h⟩:=bind_some h
     refine .e [.call (F362 e165 hvs) [] 2] ?_
     cases h
     exact .ret rz
   refine .e [.br c148] (.cF rfl ?_)
   exact .skip ⟨(),h,(inT [(2,3),(3,4)] [])⟩
 rintro ⟨⟩ h
 unfold f367_j168 at h
 obtain ⟨b189,h⟩:=gd_some h
 obtain ⟨b191,h⟩:=gd_some h
 obtain ⟨b192,h⟩:=gd_some h
 obtain ⟨b194,h⟩:=gd_some h
 obtain ⟨b195,h⟩:=gd_some h
 obtain ⟨b197,h⟩:=gd_some h
 refine .e [.iaR (n:=a2) (k:=a4) b189,.stC TNode.ok 3 hvs a0 (i:=(a4).toNat) (j:=4) b191 (fun w_=>{ w_ with fSymbols:=j132_1 }) (.ap 2 1 (List.map D.str j132_1)) (.sl rfl),.iaR (n:=a2) (k:=a4) b192,.stC TNode.ok 3 hvs (setAt a0 (a4).toNat (fun w_=>{ w_ with fSymbols:=j132_1 })) (i:=(a4).toNat) (j:=5) b194 (fun w_=>{ w_ with fHas:=r136.1 }) (.d (.bool r136.1)) (.refl _),.iaR (n:=a2) (k:=a4) b195,.stC TNode.ok 3 hvs (setAt (setAt a0 (a4).toNat (fun w_=>{ w_ with fSymbols:=j132_1 })) (a4).toNat (fun w_=>{ w_ with fHas:=r136.1 })) (i:=(a4).toNat) (j:=6) b197 (fun w_=>{ w_ with fDefault:=r136.2.2.1 }) (.d (.str r136.2.2.1)) (.refl _)] ?_
 cases h
 exact rqn [] []
end Go.Proofs.Abs
