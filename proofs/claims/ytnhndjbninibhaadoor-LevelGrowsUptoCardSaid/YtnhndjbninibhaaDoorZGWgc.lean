import Derived.Test.YtnhndjbninibhaaDoorZGWgb
set_option linter.unusedVariables false
set_option linter.unusedSimpArgs false
set_option linter.unusedSectionVars false
set_option linter.unusedVariables false
set_option linter.unusedSimpArgs false
set_option maxRecDepth 100000
set_option maxHeartbeats 4000000
namespace Go.Proofs.Abs
open Go
def f361_j311 (k:Nat) (r11:(Int×Nat×Int×(List TNode))) (a1:Nat) (r96:((List UInt8)×Bool)) (r156:((List (List UInt8))×Int)) (j284_1:Int) (j311_1:Int):Option (Int×Nat×Int×(List TNode)):=gd (0≤r11.1∧r11.1 < ((r11.2.1:Nat):Int)) (gd (a1≤(r11.1).toNat∧(r11.1).toNat < (setAt (setAt r11.2.2.2 (r11.1).toNat (fun w_=>{ w_ with fName:=r96.1 })) (r11.1).toNat (fun w_=>{ w_ with fAliases:=r156.1 })).length) (some (r11.1,r11.2.1,j311_1,(setAt (setAt (setAt r11.2.2.2 (r11.1).toNat (fun w_=>{ w_ with fName:=r96.1 })) (r11.1).toNat (fun w_=>{ w_ with fAliases:=r156.1 })) (r11.1).toNat (fun w_=>{ w_ with fSize:=j284_1 })))))
def f361_j284 (k:Nat) (r231:(Bool×Int×(List UInt8)×(List (RT 4))×(List (List UInt8)))) (r11:(Int×Nat×Int×(List TNode))) (r96:((List UInt8)×Bool)) (r156:((List (List UInt8))×Int)) (a1:Nat) (j284_1:Int):Option (Int×Nat×Int×(List TNode)):=cond (!r231.1) ((f362 k (setAt (setAt r11.2.2.2 (r11.1).toNat (fun w_=>{ w_ with fName:=r96.1 })) (r11.1).toNat (fun w_=>{ w_ with fAliases:=r156.1 })) a1 r11.2.1 r156.2 (9:Int)).bind fun r309=>f361_j311 k r11 a1 r96 r156 j284_1 r309) (cond (decide (r231.2.1≠(4:Int))) ((f362 k (setAt (setAt r11.2.2.2 (r11.1).toNat (fun w_=>{ w_ with fName:=r96.1 })) (r11.1).toNat (fun w_=>{ w_ with fAliases:=r156.1 })) a1 r11.2.1 r156.2 (9:Int)).bind fun r309=>f361_j311 k r11 a1 r96 r156 j284_1 r309) (gd (0≤(0:Int)∧(0:Int) < ((r231.2.2.1.length:Nat):Int)) (cond (decide ((((r231.2.2.1.getD ((0:Int)).toNat 0).toNat:Nat):Int) = (45:Int))) ((f362 k (setAt (setAt r11.2.2.2 (r11.1).toNat (fun w_=>{ w_ with fName:=r96.1 })) (r11.1).toNat (fun w_=>{ w_ with fAliases:=r156.1 })) a1 r11.2.1 r156.2 (9:Int)).bind fun r309=>f361_j311 k r11 a1 r96 r156 j284_1 r309) (cond (decide (j284_1 > (1000:Int))) ((f362 k (setAt (setAt r11.2.2.2 (r11.1).toNat (fun w_=>{ w_ with fName:=r96.1 })) (r11.1).toNat (fun w_=>{ w_ with fAliases:=r156.1 })) a1 r11.2.1 r156.2 (9:Int)).bind fun r309=>f361_j311 k r11 a1 r96 r156 j284_1 r309) (f361_j311 k r11 a1 r96 r156 j284_1 r156.2)))))
def f361_l247 (r231:(Bool×Int×(List UInt8)×(List (RT 4))×(List (List UInt8)))):Nat→Int→Int→Option (LR2 Int Unit (Int×Nat×Int×(List TNode)))
  | 0,_,_=>none
  | k + 1,y247_1,y247_2=>cond (decide (y247_2 < ((r231.2.2.1.length:Nat):Int))) (cond (decide (y247_1≤(1000:Int))) (gd (0≤y247_2∧y247_2 < ((r231.2.2.1.length:Nat):Int)) (f361_l247 r231 k (IntKind.i64.wrap ((IntKind.i64.wrap ((IntKind.i64.wrap ((10:Int) * y247_1)) + (IntKind.i64.wrap (((r231.2.2.1.getD (y247_2).toNat 0).toNat:Nat):Int)))) - (48:Int))) (IntKind.i64.wrap (y247_2 + (1:Int))))) (some (.b0 y247_1))) (some (.b0 y247_1))
def f361_j117 (k:Nat) (r11:(Int×Nat×Int×(List TNode))) (a1:Nat) (r96:((List UInt8)×Bool)) (a5:TJson) (a4:Int) (rc357:Y357) (j117_1:Bool):Option (Int×Nat×Int×(List TNode)):=cond j117_1 ((f362 k r11.2.2.2 a1 r11.2.1 r11.2.2.1 (6:Int)).bind fun r122=>some ((0:Int),r11.2.1,r122,r11.2.2.2)) ((f364 k r11.2.2.2 a1 r11.2.1 r11.2.2.1 r96.1).bind fun r135=>cond (decide (r135 ≥ (0:Int))) ((f362 k r11.2.2.2 a1 r11.2.1 r11.2.2.1 (7:Int)).bind fun r142=>some ((0:Int),r11.2.1,r142,r11.2.2.2)) ((f343 k r96.1).bind fun r155=>(f365 k r11.2.2.2 a1 r11.2.1 r11.2.2.1 a5 r155 false).bind fun r156=>cond (decide (r156.2≠(0:Int))) (some ((0:Int),r11.2.1,r156.2,r11.2.2.2)) (gd (0≤r11.1∧r11.1 < ((r11.2.1:Nat):Int)) (gd (a1≤(r11.1).toNat∧(r11.1).toNat < r11.2.2.2.length) (gd (0≤r11.1∧r11.1 < ((r11.2.1:Nat):Int)) (gd (a1≤(r11.1).toNat∧(r11.1).toNat < (setAt r11.2.2.2 (r11.1).toNat (fun w_=>{ w_ with fName:=r96.1 })).length) (cond (decide (a4 = (9:Int))) ((f343 k r96.1).bind fun r213=>(f366 rc357 k (setAt (setAt r11.2.2.2 (r11.1).toNat (fun w_=>{ w_ with fName:=r96.1 })) (r11.1).toNat (fun w_=>{ w_ with fAliases:=r156.1 })) a1 r11.2.1 r156.2 r11.1 a5 r213).bind fun r214=>some (r11.1,r214.1,r214.2.1,r214.2.2)) (cond (decide (a4 = (10:Int))) ((f367 k (setAt (setAt r11.2.2.2 (r11.1).toNat (fun w_=>{ w_ with fName:=r96.1 })) (r11.1).toNat (fun w_=>{ w_ with fAliases:=r156.1 })) a1 r11.2.1 r156.2 r11.1 a5).bind fun r226=>some (r11.1,r11.2.1,r226.1,r226.2)) ((f346 k a5 ([115,105,122,101]:List UInt8)).bind fun r231=>(f361_l247 r231 k (0:Int) (0:Int)).bind fun o247=>(match o247 with | .b0 x247_1=>f361_j284 k r231 r11 r96 r156 a1 x247_1 | _=>none))))))))))
def f361_j90 (k:Nat) (r33:(Bool×Int×(List UInt8)×(List (RT 4))×(List (List UInt8)))) (r11:(Int×Nat×Int×(List TNode))) (a1:Nat) (a5:TJson) (a4:Int) (rc357:Y357) (j90_1:(List UInt8)):Option (Int×Nat×Int×(List TNode)):=(f338 k r33.2.2.1 j90_1).bind fun r96=>cond (!r96.2) (f361_j117 k r11 a1 r96 a5 a4 rc357 true) (cond (decide (j90_1≠([]:List UInt8))) ((f340 k j90_1).bind fun r113=>f361_j117 k r11 a1 r96 a5 a4 rc357 (!r113)) (f361_j117 k r11 a1 r96 a5 a4 rc357 false))
def f361_j66 (k:Nat) (r11:(Int×Nat×Int×(List TNode))) (a1:Nat) (r44:(Bool×Int×(List UInt8)×(List (RT 4))×(List (List UInt8)))) (r33:(Bool×Int×(List UInt8)×(List (RT 4))×(List (List UInt8)))) (a5:TJson) (a4:Int) (rc357:Y357) (a6:(List UInt8)) (j66_1:Bool):Option (Int×Nat×Int×(List TNode)):=cond j66_1 ((f362 k r11.2.2.2 a1 r11.2.1 r11.2.2.1 (6:Int)).bind fun r71=>some ((0:Int),r11.2.1,r71,r11.2.2.2)) (cond r44.1 (f361_j90 k r33 r11 a1 a5 a4 rc357 r44.2.2.1) (f361_j90 k r33 r11 a1 a5 a4 rc357 a6))
def f361 (rc357:Y357) (k:Nat) (a0:(List TNode)) (a1:Nat) (a2:Nat) (a3:Int) (a4:Int) (a5:TJson) (a6:(List UInt8)):Option (Int×Nat×Int×(List TNode)):=(f363 k a0 a1 a2 a3 a4).bind fun r11=>cond (decide (r11.2.2.1≠(0:Int))) (some ((0:Int),r11.2.1,r11.2.2.1,r11.2.2.2)) ((f346 k a5 ([110,97,109,101]:List UInt8)).bind fun r33=>(f346 k a5 ([110,97,109,101,115,112,97,99,101]:List UInt8)).bind fun r44=>cond (decide (r33.2.1≠(5:Int))) (f361_j66 k r11 a1 r44 r33 a5 a4 rc357 a6 true) (cond r44.1 (f361_j66 k r11 a1 r44 r33 a5 a4 rc357 a6 (decide (r44.2.1≠(5:Int)))) (f361_j66 k r11 a1 r44 r33 a5 a4 rc357 a6 false)))
theorem F361 {rc357:Y357} (hrc357:RH357 rc357) {k:Nat} {a0:(List TNode)} {a1:Nat} {a2:Nat} {a3:Int} {a4:Int} {a5:TJson} {a6:(List UInt8)} {r:(Int×Nat×Int×(List TNode))} (h:f361 rc357 k a0 a1 a2 a3 a4 a5 a6 = some r) {vs:List Value} (hvs:vs.length≤a1 * 10) :
    ACalls Tryd.prog 52 [(.ptr 0 0),(.d (.int .i64 a4)),(.d (TJson.enc a5)),(.d (.str a6))] [(0,(.cells [(.row 1 10 a2),(.d (.int .i64 a3))])),(1,(.rowQ 3 10 vs [] (cellsD TNode.enc a0)))] (.d (.int .i64 r.1)) [(0,(.cells [(.row 2 10 r.2.1),(.d (.int .i64 r.2.2.1))])),(2,(.rowQ 3 10 vs [] (cellsD TNode.enc r.2.2.2)))]:=by
 refine acalls_ret ⟨_,Tryd.func52,by kernel_rfl,by kernel_rfl,rfl⟩ 2 3 3 [(8,(.d (.int .i64 r.1)))] [(0,(.cells [(.row 2 10 r.2.1),(.d (.int .i64 r.2.2.1))])),(2,(.rowQ 3 10 vs [] (cellsD TNode.enc r.2.2.2)))] (doneA (.inr rfl) rfl ⟨trivial,trivial⟩ (.refl _) (hasCons rfl (hasCons rfl hasNil))) ?_
 unfold f361 at h
 refine .seq (.e [] ?_)
 refine .seq ?_
 obtain ⟨r11,e11,h⟩:=bind_some h
 refine .e [.call (F363 e11 hvs) [(2,3)] 3] (.seq ?_)
 refine .seq (.e [] ?_)
 refine .cB h (fun h=>?_) fun h=>?_
 · refine .seq (.e [] ?_)
   cases h
   exact .ret (rq [(2,3)] [])
 refine .skip (.seq ?_)
 obtain ⟨r33,e33,h⟩:=bind_some h
 refine .e [.call (F346 e33) [] 0] (.seq ?_)
 obtain ⟨r44,e44,h⟩:=bind_some h
 refine .e [.call (F346 e44) [] 0] (.seq ?_)
 refine .j 6 (fun z=>f361_j66 k r11 a1 r44 r33 a5 a4 rc357 a6 z = some r) (fun z=>[(0,(.ptr 0 0)),(1,(.d (.int .i64 a4))),(3,(.d (.str a6))),(6,(.ptr 2 0)),(9,(.d (.int .i64 r11.1))),(10,(.ptr 3 0)),(12,(.ptr 4 0)),(13,(.d (.bool r44.1))),(49,(.d (.bool z)))]) (fun z=>[(0,(.cells [(.row 5 10 r11.2.1),(.d (.int .i64 r11.2.2.1))])),(2,(.cells [(.d (.int .i64 a5.fKind)),(.d (.str a5.fText)),(.d (.sl (List.map (rtE (z:=4)) a5.fL))),(.d (.sl (List.map D.str a5.fKeys)))])),(3,(.cells [(.d (.int .i64 r33.2.1)),(.d (.str r33.2.2.1)),(.d (.sl (List.map (rtE (z:=4)) r33.2.2.2.1))),(.d (.sl (List.map D.str r33.2.2.2.2)))])),(4,(.cells [(.d (.int .i64 r44.2.1)),(.d (.str r44.2.2.1)),(.d (.sl (List.map (rtE (z:=4)) r44.2.2.2.1))),(.d (.sl (List.map D.str r44.2.2.2.2)))])),(5,(.rowQ 3 10 vs [] (cellsD TNode.enc r11.2.2.2)))]) ?_ ?_
 · rcases cc h with ⟨c58,h⟩ | ⟨c58,h⟩
   · exact .e [.br c58] ⟨_,h,(inT [(3,4),(4,5),(5,3)] [])⟩
   rcases cc h with ⟨c60,h⟩ | ⟨c60,h⟩
   · exact .e [.br c58,.br c60] ⟨_,h,(inT [(3,4),(4,5),(5,3)] [])⟩
   exact .e [.br c58,.br c60] ⟨_,h,(inT [(3,4),(4,5),(5,3)] [])⟩
 intro j66_1 h
 unfold f361_j66 at h
 refine .cB h (fun h=>?_) fun h=>?_
 · refine .seq ?_
   obtain ⟨r71,e71,h⟩:=bind_some h
   refine .e [.call (F362 e71 hvs) [(1,5)] 2] (.seq ?_)
   refine .e [] ?_
   cases h
   exact .ret (rq [(2,5)] [])
 refine .skip (.j 5 (fun z=>f361_j90 k r33 r11 a1 a5 a4 rc357 z = some r) (fun z=>[(0,(.ptr 0 0)),(1,(.d (.int .i64 a4))),(3,(.d (.str z))),(6,(.ptr 2 0)),(9,(.d (.int .i64 r11.1))),(10,(.ptr 3 0))]) (fun z=>[(0,(.cells [(.row 4 10 r11.2.1),(.d (.int .i64 r11.2.2.1))])),(2,(.cells [(.d (.int .i64 a5.fKind)),(.d (.str a5.fText)),(.d (.sl (List.map (rtE (z:=4)) a5.fL))),(.d (.sl (List.map D.str a5.fKeys)))])),(3,(.cells [(.d (.int .i64 r33.2.1)),(.d (.str r33.2.2.1)),(.d (.sl (List.map (rtE (z:=4)) r33.2.2.2.1))),(.d (.sl (List.map D.str r33.2.2.2.2)))])),(4,(.rowQ 3 10 vs [] (cellsD TNode.enc r11.2.2.2)))]) ?_ ?_)
 · refine .seq (.e [] ?_)
   refine .cB h (fun h=>?_) fun h=>?_
   · exact .e [] ⟨_,h,(inT [(4,5)] [])⟩
   exact .skip ⟨_,h,(inT [(4,5)] [])⟩
 intro j90_1 h
 unfold f361_j90 at h
 refine .seq ?_
 obtain ⟨r96,e96,h⟩:=bind_some h
 refine .e [.call (F338 e96) [] 0] (.seq ?_)
 refine .j 4 (fun z=>f361_j117 k r11 a1 r96 a5 a4 rc357 z = some r) (fun z=>[(0,(.ptr 0 0)),(1,(.d (.int .i64 a4))),(6,(.ptr 2 0)),(9,(.d (.int .i64 r11.1))),(14,(.d (.str r96.1))),(72,(.d (.bool z)))]) (fun z=>[(0,(.cells [(.row 3 10 r11.2.1),(.d (.int .i64 r11.2.2.1))])),(2,(.cells [(.d (.int .i64 a5.fKind)),(.d (.str a5.fText)),(.d (.sl (List.map (rtE (z:=4)) a5.fL))),(.d (.sl (List.map D.str a5.fKeys)))])),(3,(.rowQ 3 10 vs [] (cellsD TNode.enc r11.2.2.2)))]) ?_ ?_
 · rcases cc h with ⟨c108,h⟩ | ⟨c108,h⟩
   · exact .e [.br c108] ⟨_,h,(inT [(3,4)] [])⟩
   rcases cc h with ⟨c111,h⟩ | ⟨c111,h⟩
   · obtain ⟨r113,e113,h⟩:=bind_some h
     exact .e [.br c108,.br c111,.call (F340 e113) [] 0] ⟨_,h,(inT [(3,4)] [])⟩
   exact .e [.br c108,.br c111] ⟨_,h,(inT [(3,4)] [])⟩
 intro j117_1 h
 unfold f361_j117 at h
 refine .cB h (fun h=>?_) fun h=>?_
 · refine .seq ?_
   obtain ⟨r122,e122,h⟩:=bind_some h
   refine .e [.call (F362 e122 hvs) [(1,3)] 2] (.seq ?_)
   refine .e [] ?_
   cases h
   exact .ret (rq [(2,3)] [])
 refine .skip (.seq ?_)
 refine .seq ?_
 obtain ⟨r135,e135,h⟩:=bind_some h
 refine .e [.cq (F364 e135 hvs) [(1,3)] 2] (.cB h (fun h=>?_) fun h=>?_)
 · refine .seq ?_
   obtain ⟨r142,e142,h⟩:=bind_some h
   refine .e [.call (F362 e142 hvs) [(1,3)] 2] (.seq ?_)
   refine .e [] ?_
   cases h
   exact .ret (rq [(2,3)] [])
 refine .skip (.seq ?_)
 obtain ⟨r155,e155,h⟩:=bind_some h
 obtain ⟨r156,e156,h⟩:=bind_some h
 refine .e [.call (F343 e155) [] 0,.call (F365 e156 hvs) [(1,3),(2,4)] 3] (.seq ?_)
 refine .seq (.e [] ?_)
 refine .cB h (fun h=>?_) fun h=>?_
 · refine .seq (.e [] ?_)
   cases h
   exact .ret (rq [(2,3)] [])
 refine .skip (.seq ?_)
 obtain ⟨b189,h⟩:=gd_some h
 obtain ⟨b191,h⟩:=gd_some h
 obtain ⟨b192,h⟩:=gd_some h
 obtain ⟨b194,h⟩:=gd_some h
 refine .e [.iaR (n:=r11.2.1) (k:=r11.1) b189,.stC TNode.ok 3 hvs r11.2.2.2 (i:=(r11.1).toNat) (j:=1) b191 (fun w_=>{ w_ with fName:=r96.1 }) (.d (.str r96.1)) (.refl _),.iaR (n:=r11.2.1) (k:=r11.1) b192,.stC TNode.ok 3 hvs (setAt r11.2.2.2 (r11.1).toNat (fun w_=>{ w_ with fName:=r96.1 })) (i:=(r11.1).toNat) (j:=2) b194 (fun w_=>{ w_ with fAliases:=r156.1 }) (.ap 4 1 (List.map D.str r156.1)) (.sl rfl)] (.seq ?_)
 refine .seq (.e [] ?_)
 refine .block (.seq ?_)
 refine .e [] (.cB h (fun h=>?_) fun h=>?_)
 · obtain ⟨r213,e213,h⟩:=bind_some h
   obtain ⟨r214,e214,h⟩:=bind_some h
   refine .e [.call (F343 e213) [] 0,.call (F366 hrc357 e214 hvs) [(1,3),(2,5)] 3] (.seq ?_)
   refine .e [] ?_
   cases h
   exact .ret (rq [(2,5)] [])
 refine .seq (.e [] ?_)
 refine .cB h (fun h=>?_) fun h=>?_
 · obtain ⟨r226,e226,h⟩:=bind_some h
   refine .e [.call (F367 e226 hvs) [(1,3)] 2] (.seq ?_)
   refine .e [] ?_
   cases h
   exact .ret (rq [(2,3)] [])
 refine .seq ?_
 obtain ⟨r231,e231,h⟩:=bind_some h
 refine .e [.call (F346 e231) [] 0] (.seq ?_)
 refine .e [] (.j 4 (fun z=>f361_j284 k r231 r11 r96 r156 a1 z = some r) (fun z=>[(0,(.ptr 0 0)),(9,(.d (.int .i64 r11.1))),(17,(.ptr 2 0)),(18,(.d (.bool r231.1))),(19,(.d (.int .i64 z)))]) (fun z=>[(0,(.cells [(.row 3 10 r11.2.1),(.d (.int .i64 r156.2))])),(2,(.cells [(.d (.int .i64 r231.2.1)),(.d (.str r231.2.2.1)),(.d (.sl (List.map (rtE (z:=4)) r231.2.2.2.1))),(.d (.sl (List.map D.str r231.2.2.2.2)))])),(3,(.rowQ 3 10 vs [] (cellsD TNode.enc (setAt (setAt r11.2.2.2 (r11.1).toNat (fun w_=>{ w_ with fName:=r96.1 })) (r11.1).toNat (fun w_=>{ w_ with fAliases:=r156.1 })))))]) ?_ ?_)
 · refine .seq (.e [] ?_)
   obtain ⟨o247,h247,h⟩:=bind_some h
   refine .block (.lp 4 (fun k (x:(Int×Int))=>f361_l247 r231 k x.1 x.2 = some o247) (fun x=>[(0,(.ptr 0 0)),(9,(.d (.int .i64 r11.1))),(17,(.ptr 2 0)),(18,(.d (.bool r231.1))),(19,(.d (.int .i64 x.1))),(20,(.d (.int .i64 x.2)))]) (fun x=>[(0,(.cells [(.row 3 10 r11.2.1),(.d (.int .i64 r156.2))])),(2,(.cells [(.d (.int .i64 r231.2.1)),(.d (.str r231.2.2.1)),(.d (.sl (List.map (rtE (z:=4)) r231.2.2.2.1))),(.d (.sl (List.map D.str r231.2.2.2.2)))])),(3,(.rowQ 3 10 vs [] (cellsD TNode.enc (setAt (setAt r11.2.2.2 (r11.1).toNat (fun w_=>{ w_ with fName:=r96.1 })) (r11.1).toNat (fun w_=>{ w_ with fAliases:=r156.1 })))))]) (_,_) h247 [(2,5)] [] ?_)
   rintro k ⟨y247_1,y247_2⟩ h247
   dsimp only at h247 ⊢
   rw [f361_l247] at h247
   refine .seq (.seq ?_)
   rcases cc h247 with ⟨c258,h247⟩ | ⟨c258,h247⟩
   · refine .e [.br c258] (.cD h247 (fun h247=>?_) fun h247=>?_)
     · cases h247
       dsimp only at h
       refine .exit (inBlk_eq ?_)
       exact ⟨_,h,inZ⟩
     refine .skip (.seq ?_)
     refine .block ?_
     obtain ⟨b274,h247⟩:=gd_some h247
     refine .e [.sd b274] (.e [] ?_)
     exact ⟨(_,_),h247,inZ⟩
   refine .e [.br c258] (.cF rfl ?_)
   cases h247
   dsimp only at h
   refine .exit (inBlk_eq ?_)
   exact ⟨_,h,inZ⟩
 intro j284_1 h
 unfold f361_j284 at h
 refine .j 3 (fun z=>f361_j311 k r11 a1 r96 r156 j284_1 z = some r) (fun z=>[(0,(.ptr 0 0)),(9,(.d (.int .i64 r11.1))),(19,(.d (.int .i64 j284_1)))]) (fun z=>[(0,(.cells [(.row 2 10 r11.2.1),(.d (.int .i64 z))])),(2,(.rowQ 3 10 vs [] (cellsD TNode.enc (setAt (setAt r11.2.2.2 (r11.1).toNat (fun w_=>{ w_ with fName:=r96.1 })) (r11.1).toNat (fun w_=>{ w_ with fAliases:=r156.1 })))))]) ?_ ?_
 · refine .seq ?_
   rcases cc h with ⟨c290,h⟩ | ⟨c290,h⟩
   · refine .e [.br c290,.br (rfl:true = true),.br (rfl:true = true)] (.cT rfl ?_)
     obtain ⟨r309,e309,h⟩:=bind_some h
     exact .e [.call (F362 e309 hvs) [(1,3)] 2] ⟨_,h,(inT [(2,3)] [])⟩
   rcases cc h with ⟨c295,h⟩ | ⟨c295,h⟩
   · refine .e [.br c290,.br c295,.br (rfl:true = true)] (.cT rfl ?_)
     obtain ⟨r309,e309,h⟩:=bind_some h
     exact .e [.call (F362 e309 hvs) [(1,3)] 2] ⟨_,h,(inT [(2,3)] [])⟩
   obtain ⟨b298,h⟩:=gd_some h
   rcases cc h with ⟨c301,h⟩ | ⟨c301,h⟩
   · refine .e [.br c290,.br c295,.sd b298,.br c301] (.cT rfl ?_)
     obtain ⟨r309,e309,h⟩:=bind_some h
     exact .e [.call (F362 e309 hvs) [(1,3)] 2] ⟨_,h,(inT [(2,3)] [])⟩
   refine .e [.br c290,.br c295,.sd b298,.br c301] (.cD h (fun h=>?_) fun h=>?_)
   · exact .skip ⟨_,h,(inT [(2,3)] [])⟩
   obtain ⟨r309,e309,h⟩:=bind_some h
   exact .e [.call (F362 e309 hvs) [(1,3)] 2] ⟨_,h,(inT [(2,3)] [])⟩
 intro j311_1 h
 unfold f361_j311 at h
 obtain ⟨b319,h⟩:=gd_some h
 obtain ⟨b321,h⟩:=gd_some h
 refine .e [.iaR (n:=r11.2.1) (k:=r11.1) b319,.stC TNode.ok 3 hvs (setAt (setAt r11.2.2.2 (r11.1).toNat (fun w_=>{ w_ with fName:=r96.1 })) (r11.1).toNat (fun w_=>{ w_ with fAliases:=r156.1 })) (i:=(r11.1).toNat) (j:=9) b321 (fun w_=>{ w_ with fSize:=j284_1 }) (.d (.int .i64 j284_1)) (.refl _)] (.seq ?_)
 refine .e [] ?_
 cases h
 exact .ret rz
def f357_j220 (k:Nat) (a0:(List TNode)) (a1:Nat) (a2:Nat) (a3:Int):Option (Int×Nat×Int×(List TNode)):=(f362 k a0 a1 a2 a3 (9:Int)).bind fun r224=>some ((0:Int),a2,r224,a0)
def f357_j168 (k:Nat) (rc357:Y357) (a0:(List TNode)) (a1:Nat) (a2:Nat) (a3:Int) (a4:TJson) (a5:(List UInt8)) (r70:(Bool×Int×(List UInt8)×(List (RT 4))×(List (List UInt8)))) (j168_1:Bool):Option (Int×Nat×Int×(List TNode)):=cond j168_1 ((f361 rc357 k a0 a1 a2 a3 (9:Int) a4 a5).bind fun r175=>some (r175.1,r175.2.1,r175.2.2.1,r175.2.2.2)) (cond (decide (r70.2.2.1 = ([101,110,117,109]:List UInt8))) ((f361 rc357 k a0 a1 a2 a3 (10:Int) a4 a5).bind fun r190=>some (r190.1,r190.2.1,r190.2.2.1,r190.2.2.2)) (cond (decide (r70.2.2.1 = ([102,105,120,101,100]:List UInt8))) ((f361 rc357 k a0 a1 a2 a3 (14:Int) a4 a5).bind fun r205=>some (r205.1,r205.2.1,r205.2.2.1,r205.2.2.2)) ((f358 k a0 a1 a2 a3 r70.2.2.1 a5).bind fun r216=>some (r216.1,r216.2.1,r216.2.2.1,r216.2.2.2))))
def f357_j98 (k:Nat) (rc357:Y357) (a0:(List TNode)) (a1:Nat) (a2:Nat) (a3:Int) (r70:(Bool×Int×(List UInt8)×(List (RT 4))×(List (List UInt8)))) (a5:(List UInt8)) (a4:TJson) (j98_1:Bool):Option (Int×Nat×Int×(List TNode)):=cond j98_1 ((rc357 a0 a1 a2 a3 (TJson.mk r70.2.1 r70.2.2.1 r70.2.2.2.1 r70.2.2.2.2) a5).bind fun r105=>some (r105.1,r105.2.1,r105.2.2.1,r105.2.2.2)) (cond (decide (r70.2.1≠(5:Int))) (f357_j220 k a0 a1 a2 a3) (cond (decide (r70.2.2.1 = ([97,114,114,97,121]:List UInt8))) ((f360 rc357 k a0 a1 a2 a3 (11:Int) a4 ([105,116,101,109,115]:List UInt8) a5).bind fun r138=>some (r138.1,r138.2.1,r138.2.2.1,r138.2.2.2)) (cond (decide (r70.2.2.1 = ([109,97,112]:List UInt8))) ((f360 rc357 k a0 a1 a2 a3 (12:Int) a4 ([118,97,108,117,101,115]:List UInt8) a5).bind fun r153=>some (r153.1,r153.2.1,r153.2.2.1,r153.2.2.2)) (cond (decide (r70.2.2.1 = ([114,101,99,111,114,100]:List UInt8))) (f357_j168 k rc357 a0 a1 a2 a3 a4 a5 r70 (decide (r70.2.2.1 = ([114,101,99,111,114,100]:List UInt8)))) (f357_j168 k rc357 a0 a1 a2 a3 a4 a5 r70 (decide (r70.2.2.1 = ([101,114,114,111,114]:List UInt8))))))))
def f357_s (rc357:Y357) (k:Nat) (a0:(List TNode)) (a1:Nat) (a2:Nat) (a3:Int) (a4:TJson) (a5:(List UInt8)):Option (Int×Nat×Int×(List TNode)):=cond (decide (a3≠(0:Int))) (some ((0:Int),a2,a3,a0)) (cond (decide (a4.fKind = (5:Int))) ((f358 k a0 a1 a2 a3 a4.fText a5).bind fun r42=>some (r42.1,r42.2.1,r42.2.2.1,r42.2.2.2)) (cond (decide (a4.fKind = (6:Int))) ((f359 rc357 k a0 a1 a2 a3 a4 a5).bind fun r57=>some (r57.1,r57.2.1,r57.2.2.1,r57.2.2.2)) (cond (decide (a4.fKind = (7:Int))) ((f346 k a4 ([116,121,112,101]:List UInt8)).bind fun r70=>cond (!r70.1) (f357_j220 k a0 a1 a2 a3) (cond (decide (r70.2.1 = (6:Int))) (f357_j98 k rc357 a0 a1 a2 a3 r70 a5 a4 true) (f357_j98 k rc357 a0 a1 a2 a3 r70 a5 a4 (decide (r70.2.1 = (7:Int)))))) (f357_j220 k a0 a1 a2 a3))))
theorem F357_s {rc357:Y357} (hrc357:RH357 rc357) {k:Nat} {a0:(List TNode)} {a1:Nat} {a2:Nat} {a3:Int} {a4:TJson} {a5:(List UInt8)} {r:(Int×Nat×Int×(List TNode))} (h:f357_s rc357 k a0 a1 a2 a3 a4 a5 = some r) {vs:List Value} (hvs:vs.length≤a1 * 10) :
    ACalls Tryd.prog 31 [(.ptr 0 0),(.d (TJson.enc a4)),(.d (.str a5))] [(0,(.cells [(.row 1 10 a2),(.d (.int .i64 a3))])),(1,(.rowQ 3 10 vs [] (cellsD TNode.enc a0)))] (.d (.int .i64 r.1)) [(0,(.cells [(.row 2 10 r.2.1),(.d (.int .i64 r.2.2.1))])),(2,(.rowQ 3 10 vs [] (cellsD TNode.enc r.2.2.2)))]:=by
 refine acalls_ret ⟨_,Tryd.func31,by kernel_rfl,by kernel_rfl,rfl⟩ 2 3 3 [(6,(.d (.int .i64 r.1)))] [(0,(.cells [(.row 2 10 r.2.1),(.d (.int .i64 r.2.2.1))])),(2,(.rowQ 3 10 vs [] (cellsD TNode.enc r.2.2.2)))] (doneA (.inr rfl) rfl ⟨trivial,trivial⟩ (.refl _) (hasCons rfl (hasCons rfl hasNil))) ?_
 unfold f357_s at h
 refine .seq (.e [] ?_)
 refine .seq (.seq ?_)
 refine .e [] (.cB h (fun h=>?_) fun h=>?_)
 · refine .seq (.e [] ?_)
   cases h
   exact .ret (rq [(2,1)] [])
 refine .skip (.j 2 (fun (z:Unit)=>f357_j220 k a0 a1 a2 a3 = some r) (fun z=>[(0,(.ptr 0 0))]) (fun z=>[(0,(.cells [(.row 1 10 a2),(.d (.int .i64 a3))])),(1,(.rowQ 3 10 vs [] (cellsD TNode.enc a0)))]) ?_ ?_)
 · refine .seq (.e [] ?_)
   refine .block (.seq ?_)
   refine .e [] (.cB h (fun h=>?_) fun h=>?_)
   · refine .seq ?_
     obtain ⟨r42,e42,h⟩:=bind_some h
     refine .e [.call (F358 e42 hvs) [(2,3)] 3] ?_
     cases h
     exact .ret (rq [(2,3)] [])
   refine .seq (.e [] ?_)
   refine .cB h (fun h=>?_) fun h=>?_
   · refine .seq ?_
     obtain ⟨r57,e57,h⟩:=bind_some h
     refine .e [.call (F359 hrc357 e57 hvs) [(2,3)] 3] ?_
     cases h
     exact .ret (rq [(2,3)] [])
   refine .seq (.e [] ?_)
   refine .cD h (fun h=>?_) fun h=>?_
   · exact .skip ⟨(),h,inZ⟩
   refine .seq ?_
   obtain ⟨r70,e70,h⟩:=bind_some h
   refine .e [.call (F346 e70) [] 0] (.seq ?_)
   refine .seq (.e [] ?_)
   refine .cB h (fun h=>?_) fun h=>?_
   · refine .exit (inBlk_eq ?_)
     exact ⟨(),h,inZ⟩
   refine .skip (.seq ?_)
   refine .j 4 (fun z=>f357_j98 k rc357 a0 a1 a2 a3 r70 a5 a4 z = some r) (fun z=>[(0,(.ptr 0 0)),(2,(.d (.str a5))),(4,(.ptr 2 0)),(7,(.ptr 3 0)),(45,(.d (.bool z)))]) (fun z=>[(0,(.cells [(.row 1 10 a2),(.d (.int .i64 a3))])),(2,(.cells [(.d (.int .i64 a4.fKind)),(.d (.str a4.fText)),(.d (.sl (List.map (rtE (z:=4)) a4.fL))),(.d (.sl (List.map D.str a4.fKeys)))])),(3,(.cells [(.d (.int .i64 r70.2.1)),(.d (.str r70.2.2.1)),(.d (.sl (List.map (rtE (z:=4)) r70.2.2.2.1))),(.d (.sl (List.map D.str r70.2.2.2.2)))])),(1,(.rowQ 3 10 vs [] (cellsD TNode.enc a0)))]) ?_ ?_
   · rcases cc h with ⟨c93,h⟩ | ⟨c93,h⟩
     · exact .e [.br c93] ⟨_,h,inZ⟩
     exact .e [.br c93] ⟨_,h,inZ⟩
   intro j98_1 h
   unfold f357_j98 at h
   refine .cB h (fun h=>?_) fun h=>?_
   · refine .seq ?_
     obtain ⟨r105,e105,h⟩:=bind_some h
     refine .e [.call (hrc357 _ _ _ _ _ _ _ e105 hvs) [(2,4)] 3] ?_
     cases h
     exact .ret (rq [(2,4)] [])
   refine .skip (.seq ?_)
   refine .seq (.e [] ?_)
   refine .cB h (fun h=>?_) fun h=>?_
   · refine .exit (inBlk_eq ?_)
     exact ⟨(),h,inZ⟩
   refine .skip (.seq ?_)
   refine .seq (.e [] ?_)
   refine .block (.seq ?_)
   refine .e [] (.cB h (fun h=>?_) fun h=>?_)
   · refine .seq ?_
     obtain ⟨r138,e138,h⟩:=bind_some h
     refine .e [.call (F360 hrc357 e138 hvs) [(2,4)] 3] ?_
     cases h
     exact .ret (rq [(2,4)] [])
   refine .seq (.e [] ?_)
   refine .cB h (fun h=>?_) fun h=>?_
   · refine .seq ?_
     obtain ⟨r153,e153,h⟩:=bind_some h
     refine .e [.call (F360 hrc357 e153 hvs) [(2,4)] 3] ?_
     cases h
     exact .ret (rq [(2,4)] [])
   refine .j 4 (fun z=>f357_j168 k rc357 a0 a1 a2 a3 a4 a5 r70 z = some r) (fun z=>[(0,(.ptr 0 0)),(2,(.d (.str a5))),(4,(.ptr 2 0)),(7,(.ptr 3 0)),(54,(.d (.str r70.2.2.1))),(67,(.d (.bool z)))]) (fun z=>[(0,(.cells [(.row 1 10 a2),(.d (.int .i64 a3))])),(2,(.cells [(.d (.int .i64 a4.fKind)),(.d (.str a4.fText)),(.d (.sl (List.map (rtE (z:=4)) a4.fL))),(.d (.sl (List.map D.str a4.fKeys)))])),(3,(.cells [(.d (.int .i64 r70.2.1)),(.d (.str r70.2.2.1)),(.d (.sl (List.map (rtE (z:=4)) r70.2.2.2.1))),(.d (.sl (List.map D.str r70.2.2.2.2)))])),(1,(.rowQ 3 10 vs [] (cellsD TNode.enc a0)))]) ?_ ?_
   · refine .seq (.e [] ?_)
     refine .cB h (fun h=>?_) fun h=>?_
     · exact .skip ⟨_,h,inZ⟩
     exact .e [] ⟨_,h,inZ⟩
   intro j168_1 h
   unfold f357_j168 at h
   refine .cB h (fun h=>?_) fun h=>?_
   · refine .seq ?_
     obtain ⟨r175,e175,h⟩:=bind_some h
     refine .e [.call (F361 hrc357 e175 hvs) [(2,4)] 3] ?_
     cases h
     exact .ret (rq [(2,4)] [])
   refine .seq (.e [] ?_)
   refine .cB h (fun h=>?_) fun h=>?_
   · refine .seq ?_
     obtain ⟨r190,e190,h⟩:=bind_some h
     refine .e [.call (F361 hrc357 e190 hvs) [(2,4)] 3] ?_
     cases h
     exact .ret (rq [(2,4)] [])
   refine .seq (.e [] ?_)
   refine .cB h (fun h=>?_) fun h=>?_
   · refine .seq ?_
     obtain ⟨r205,e205,h⟩:=bind_some h
     refine .e [.call (F361 hrc357 e205 hvs) [(2,4)] 3] ?_
     cases h
     exact .ret (rq [(2,4)] [])
   refine .skip (.seq ?_)
   obtain ⟨r216,e216,h⟩:=bind_some h
   refine .e [.call (F358 e216 hvs) [(2,4)] 3] ?_
   cases h
   exact .ret (rq [(2,4)] [])
 rintro ⟨⟩ h
 unfold f357_j220 at h
 refine .seq ?_
 obtain ⟨r224,e224,h⟩:=bind_some h
 refine .e [.call (F362 e224 hvs) [] 2] (.seq ?_)
 refine .e [] ?_
 cases h
 exact .ret (rq [(2,1)] [])
def f357:Nat→(List TNode)→Nat→Nat→Int→TJson→(List UInt8)→Option (Int×Nat×Int×(List TNode))
  | 0,_,_,_,_,_,_=>none
  | k + 1,a0,a1,a2,a3,a4,a5=>f357_s (f357 k) k a0 a1 a2 a3 a4 a5
theorem F357 {k:Nat} {a0:(List TNode)} {a1:Nat} {a2:Nat} {a3:Int} {a4:TJson} {a5:(List UInt8)} {r:(Int×Nat×Int×(List TNode))} (h:f357 k a0 a1 a2 a3 a4 a5 = some r) {vs:List Value} (hvs:vs.length≤a1 * 10) :
    ACalls Tryd.prog 31 [(.ptr 0 0),(.d (TJson.enc a4)),(.d (.str a5))] [(0,(.cells [(.row 1 10 a2),(.d (.int .i64 a3))])),(1,(.rowQ 3 10 vs [] (cellsD TNode.enc a0)))] (.d (.int .i64 r.1)) [(0,(.cells [(.row 2 10 r.2.1),(.d (.int .i64 r.2.2.1))])),(2,(.rowQ 3 10 vs [] (cellsD TNode.enc r.2.2.2)))]:=by
  induction k generalizing a0 a1 a2 a3 a4 a5 r vs with
  | zero=>exact absurd (show (none:Option _) = some r from h) (fun h2=>by cases h2)
  | succ k ih=>exact F357_s (fun _ _ _ _ _ _ _ h=>ih h) h hvs
abbrev Y369:=(List TNode)→Int→Int→TJson→Int→Option (Bool×Int×Int×(List UInt8)×(List (RT 5))×(List (List UInt8))×Int)
def RH369 (rc369:Y369):Prop:=∀ (a0:(List TNode)) (a1:Int) (a2:Int) (a3:TJson) (a4:Int) (r:(Bool×Int×Int×(List UInt8)×(List (RT 5))×(List (List UInt8))×Int)),rc369 a0 a1 a2 a3 a4 = some r→ACalls Tryd.prog 55 [(.ptr 0 0),(.d (.int .i64 a2)),(.d (TJson.enc a3)),(.d (.int .i64 a4))] [(0,(.cells [(.d (.sl (List.map TNode.enc a0))),(.d (.int .i64 a1))]))] (.tup [(.d (.agg [(.int .i64 r.2.1),(.int .i64 r.2.2.1),(.sl (List.map byteD r.2.2.2.1)),(.sl (List.map (rtE (z:=5)) r.2.2.2.2.1)),(.sl (List.map D.str r.2.2.2.2.2.1))])),(.d (.bool r.1))]) [(0,(.cells [(.d (.sl (List.map TNode.enc a0))),(.d (.int .i64 r.2.2.2.2.2.2))]))]
def f370_j65 (k:Nat) (a0:(List UInt8)) (j65_1:Int):Option (Int×Bool):=cond (decide ((((a0.getD ((0:Int)).toNat 0).toNat:Nat):Int) = (45:Int))) (cond (decide (j65_1 > (9223372036854775808:Int))) (some ((0:Int),false)) (some ((IntKind.i64.wrap ((IntKind.i64.wrap (0 - (IntKind.i64.wrap (IntKind.u64.wrap (j65_1 - (1:Int)))))) - (1:Int))),true))) (some ((IntKind.i64.wrap j65_1),(decide (j65_1 < (9223372036854775808:Int)))))
def f370_l34 (j25_1:(List UInt8)):Nat→Int→Int→Option (LR2 Int Unit (Int×Bool))
  | 0,_,_=>none
  | k + 1,y34_1,y34_2=>cond (decide (y34_2 < ((j25_1.length:Nat):Int))) (gd (0≤y34_2∧y34_2 < ((j25_1.length:Nat):Int)) (f370_l34 j25_1 k (IntKind.u64.wrap ((IntKind.u64.wrap ((10:Int) * y34_1)) + (IntKind.u64.wrap (((u8 (IntKind.u8.wrap ((((j25_1.getD (y34_2).toNat 0).toNat:Nat):Int) - (48:Int)))).toNat:Nat):Int)))) (IntKind.i64.wrap (y34_2 + (1:Int))))) (some (.b0 y34_1))
def f370_j25 (k:Nat) (a0:(List UInt8)) (j25_1:(List UInt8)):Option (Int×Bool):=(f370_l34 j25_1 k (0:Int) (0:Int)).bind fun o34=>(match o34 with | .b0 x34_1=>f370_j65 k a0 x34_1 | _=>none)
def f370 (k:Nat) (a0:(List UInt8)):Option (Int×Bool):=gd (0≤(0:Int)∧(0:Int) < ((a0.length:Nat):Int)) (cond (decide ((((a0.getD ((0:Int)).toNat 0).toNat:Nat):Int) = (45:Int))) (gd (0≤(1:Int)∧(1:Int)≤((a0.length:Nat):Int)∧((a0.length:Nat):Int)≤((a0.length:Nat):Int)) (f370_j25 k a0 (sl a0 (1:Int) ((a0.length:Nat):Int)))) (f370_j25 k a0 a0))
theorem F370 {k:Nat} {a0:(List UInt8)} {r:(Int×Bool)} (h:f370 k a0 = some r) :
    ACalls Tryd.prog 78 [(.d (.str a0))] [] (.tup [(.d (.int .i64 r.1)),(.d (.bool r.2))]) []:=by
 refine acalls_ret ⟨_,Tryd.func78,by kernel_rfl,by kernel_rfl,rfl⟩ 0 0 0 [(2,(.d (.int .i64 r.1))),(3,(.d (.bool r.2)))] [] (doneA (.inr rfl) rfl ⟨trivial,⟨trivial,trivial⟩⟩ (.refl _) hasNil) ?_
 unfold f370 at h
 refine .seq (.e [] ?_)
 refine .seq ?_
 obtain ⟨b10,h⟩:=gd_some h
 refine .e [.sd b10] (.j 0 (fun z=>f370_j25 k a0 z = some r) (fun z=>[(0,(.d (.str z))),(4,(.d (.bool (decide ((((a0.getD ((0:Int)).toNat 0).toNat:Nat):Int) = (45:Int))))))]) (fun z=>[]) ?_ ?_)
 · refine .seq (.e [] ?_)
   refine .cD h (fun h=>?_) fun h=>?_
   · exact .skip ⟨_,h,inZ⟩
   obtain ⟨b22,h⟩:=gd_some h
   exact .e [.sd b22] ⟨_,h,inZ⟩
 intro j25_1 h
 unfold f370_j25 at h
 refine .seq (.e [] ?_)
 refine .j 0 (fun z=>f370_j65 k a0 z = some r) (fun z=>[(4,(.d (.bool (decide ((((a0.getD ((0:Int)).toNat 0).toNat:Nat):Int) = (45:Int)))))),(5,(.d (.int .u64 z)))]) (fun z=>[]) ?_ ?_
 · refine .seq (.e [] ?_)
   obtain ⟨o34,h34,h⟩:=bind_some h
   refine .block (.lp 0 (fun k (x:(Int×Int))=>f370_l34 j25_1 k x.1 x.2 = some o34) (fun x=>[(0,(.d (.str j25_1))),(4,(.d (.bool (decide ((((a0.getD ((0:Int)).toNat 0).toNat:Nat):Int) = (45:Int)))))),(5,(.d (.int .u64 x.1))),(6,(.d (.int .i64 x.2)))]) (fun x=>[]) (_,_) h34 [] [] ?_)
   rintro k ⟨y34_1,y34_2⟩ h34
   dsimp only at h34 ⊢
   rw [f370_l34] at h34
   refine .seq (.seq ?_)
   refine .e [] (.cD h34 (fun h34=>?_) fun h34=>?_)
   · cases h34
     dsimp only at h
     refine .exit (inBlk_eq ?_)
     exact ⟨_,h,inZ⟩
   refine .skip (.seq ?_)
   refine .block ?_
   obtain ⟨b55,h34⟩:=gd_some h34
   refine .e [.sd b55] (.e [] ?_)
   exact ⟨(_,_),h34,inZ⟩
 intro j65_1 h
 unfold f370_j65 at h
 refine .seq (.seq ?_)
 refine .e [] (.cD h (fun h=>?_) fun h=>?_)
 · refine .skip (.seq ?_)
   refine .e [] ?_
   cases h
   exact .ret rz
 refine .seq (.seq ?_)
 refine .e [] (.cB h (fun h=>?_) fun h=>?_)
 · refine .seq (.e [] ?_)
   cases h
   exact .ret rz
 refine .skip (.seq ?_)
 refine .e [] ?_
 cases h
 exact .ret rz
def f371_j133 (k:Nat) (j133_1:Nat) (j133_2:(List UInt8)):Option ((List UInt8)×Bool):=gd (j133_1≤j133_2.length) (some ((List.take j133_1 j133_2),true))
def f371_j99 (L:Nat→Int→(List UInt8)→Option (LR2 (Nat×(List UInt8)) Unit ((List UInt8)×Bool))) (k:Nat) (y32_2:Int) (y32_1:Nat) (y32_3:(List UInt8)) (j99_1:UInt8):Option (LR2 (Nat×(List UInt8)) Unit ((List UInt8)×Bool)):=cond (decide ((Int.tmod y32_2 (2:Int)) = (0:Int))) (gd (y32_1≤y32_3.length∧(y32_1 + ([(u8 (IntKind.u8.wrap (((j99_1.toNat:Nat):Int) * 2 ^ (min ((4:Int)).toNat IntKind.u8.bits))))]:List UInt8).length) * 2 * 1≤281474976710656) (L (y32_1 + ([(u8 (IntKind.u8.wrap (((j99_1.toNat:Nat):Int) * 2 ^ (min ((4:Int)).toNat IntKind.u8.bits))))]:List UInt8).length) (IntKind.i64.wrap (y32_2 + (1:Int))) (List.take y32_1 y32_3 ++ ([(u8 (IntKind.u8.wrap (((j99_1.toNat:Nat):Int) * 2 ^ (min ((4:Int)).toNat IntKind.u8.bits))))]:List UInt8)))) (gd (0≤(IntKind.i64.wrap (Int.tdiv y32_2 (2:Int)))∧(IntKind.i64.wrap (Int.tdiv y32_2 (2:Int))) < ((y32_1:Nat):Int)) (gd (((IntKind.i64.wrap (Int.tdiv y32_2 (2:Int)))).toNat < y32_3.length) (gd (0≤(IntKind.i64.wrap (Int.tdiv y32_2 (2:Int)))∧(IntKind.i64.wrap (Int.tdiv y32_2 (2:Int))) < ((y32_1:Nat):Int)) (gd (((IntKind.i64.wrap (Int.tdiv y32_2 (2:Int)))).toNat < y32_3.length) (L y32_1 (IntKind.i64.wrap (y32_2 + (1:Int))) (List.set y32_3 ((IntKind.i64.wrap (Int.tdiv y32_2 (2:Int)))).toNat (u8 (bitsA .or .u8 (((List.getD y32_3 ((IntKind.i64.wrap (Int.tdiv y32_2 (2:Int)))).toNat default).toNat:Nat):Int) ((j99_1.toNat:Nat):Int)))))))))
def f371_j86 (L:Nat→Int→(List UInt8)→Option (LR2 (Nat×(List UInt8)) Unit ((List UInt8)×Bool))) (k:Nat) (y32_2:Int) (y32_1:Nat) (y32_3:(List UInt8)) (a0:(List UInt8)) (j86_1:Bool):Option (LR2 (Nat×(List UInt8)) Unit ((List UInt8)×Bool)):=cond j86_1 (f371_j99 (L) k y32_2 y32_1 y32_3 (u8 (IntKind.u8.wrap ((IntKind.u8.wrap ((((a0.getD (y32_2).toNat 0).toNat:Nat):Int) - (97:Int))) + (10:Int))))) (some (.r (([]:List UInt8),false)))
def f371_j70 (L:Nat→Int→(List UInt8)→Option (LR2 (Nat×(List UInt8)) Unit ((List UInt8)×Bool))) (k:Nat) (y32_2:Int) (y32_1:Nat) (y32_3:(List UInt8)) (a0:(List UInt8)) (j70_1:Bool):Option (LR2 (Nat×(List UInt8)) Unit ((List UInt8)×Bool)):=cond j70_1 (f371_j99 (L) k y32_2 y32_1 y32_3 (u8 (IntKind.u8.wrap ((((a0.getD (y32_2).toNat 0).toNat:Nat):Int) - (48:Int))))) (cond (decide ((((a0.getD (y32_2).toNat 0).toNat:Nat):Int) ≥ (97:Int))) (f371_j86 (L) k y32_2 y32_1 y32_3 a0 (decide ((((a0.getD (y32_2).toNat 0).toNat:Nat):Int)≤(102:Int)))) (f371_j86 (L) k y32_2 y32_1 y32_3 a0 false))
def f371_l32 (a0:(List UInt8)):Nat→Nat→Int→(List UInt8)→Option (LR2 (Nat×(List UInt8)) Unit ((List UInt8)×Bool))
  | 0,_,_,_=>none
  | k + 1,y32_1,y32_2,y32_3=>cond (decide (y32_2 < ((a0.length:Nat):Int))) (gd (0≤y32_2∧y32_2 < ((a0.length:Nat):Int)) (cond (decide ((((a0.getD (y32_2).toNat 0).toNat:Nat):Int) ≥ (48:Int))) (f371_j70 (f371_l32 a0 k) k y32_2 y32_1 y32_3 a0 (decide ((((a0.getD (y32_2).toNat 0).toNat:Nat):Int)≤(57:Int)))) (f371_j70 (f371_l32 a0 k) k y32_2 y32_1 y32_3 a0 false))) (some (.b0 (y32_1,y32_3)))
def f371 (k:Nat) (a0:(List UInt8)) (a1:Int):Option ((List UInt8)×Bool):=cond (decide (((a0.length:Nat):Int)≠(IntKind.i64.wrap ((2:Int) * a1)))) (some (([]:List UInt8),false)) ((f371_l32 a0 k (0) (0:Int) ([]:List UInt8)).bind fun o32=>(match o32 with | .b0 (x32_1,x32_2)=>f371_j133 k x32_1 x32_2 | .r x=>some x | _=>none))
theorem F371 {k:Nat} {a0:(List UInt8)} {a1:Int} {r:((List UInt8)×Bool)} (h:f371 k a0 a1 = some r) :
    ACalls Tryd.prog 79 [(.d (.str a0)),(.d (.int .i64 a1))] [] (.tup [(.d (.sl (List.map byteD r.1))),(.d (.bool r.2))]) []:=by
 refine acalls_canon ⟨Tryd.f79,Tryd.func79,by kernel_rfl,by kernel_rfl,rfl⟩ 0 0 rfl ?_
 unfold f371 at h
 refine .seq (.rg hmix rfl rfl ?_)
 refine RegV.p0 rfl rfl rfl (RegV.p0 rfl rfl rfl ?_)
 refine RegV.nil0 (.seq ?_)
 refine .seq (.rg hmix rfl rfl ?_)
 refine RegV.p0 rfl rfl rfl (RegV.p0 (v:=(.d (.int .i64 ((a0.length:Nat):Int)))) rfl rfl rfl ?_)
 refine RegV.p0 rfl rfl rfl (RegV.p0 (v:=(.d (.int .i64 (IntKind.i64.wrap ((2:Int) * a1))))) rfl rfl rfl ?_)
 refine RegV.p0 (v:=(.d (.bool (decide (((a0.length:Nat):Int)≠(IntKind.i64.wrap ((2:Int) * a1))))))) rfl rfl rfl (RegV.nil0 ?_)
 refine .cond rfl (fun c15=>?_) (fun c15=>?_)
 · have h:=cond_pos c15 h
   refine .seq (.rg hmix rfl rfl ?_)
   refine RegV.p0 rfl rfl rfl (RegV.p0 rfl rfl rfl ?_)
   refine RegV.nil0 ?_
   have hr:=Option.some.inj h
   subst hr
   exact .ret (canQ (N:=63) (k:=0) (l':=[(4,(.d (.sl (List.map byteD ([]:List UInt8))))),(5,(.d (.bool false)))]) (H':=[]) rfl ⟨rfl,[],[],rfl,rfl,⟨⟨_,rfl,(.sl rfl)⟩,rfl,⟨⟨_,rfl,(.refl _)⟩,rfl,trivial⟩⟩, trivial⟩ (doneA (.inr rfl) rfl ⟨trivial,⟨trivial,trivial⟩⟩ (.refl _) hasNil))
 have h:=cond_neg c15 h
 refine .skip (.seq ?_)
 refine .rg hmix rfl rfl (RegV.p0 rfl rfl rfl ?_)
 refine RegV.nil0 (.j 1 (fun (z:(Nat×(List UInt8)))=>f371_j133 k z.1 z.2 = some r) (fun z=>[(6,(.row 0 1 z.1))]) (fun z=>[(0,(rowO byteD z.2))]) ?_ ?_)
 · refine .seq (.rg hmix rfl rfl ?_)
   refine RegV.p0 rfl rfl rfl (RegV.nil0 ?_)
   obtain ⟨o32,h32,h⟩:=bind_some h
   refine .block (.loopK (N:=63) 1 (fun (x:(Nat×Int×(List UInt8)))=>[(0,(.d (.str a0))),(6,(.row 0 1 x.1)),(7,(.d (.int .i64 x.2.1)))]) (fun x=>[(0,(rowO byteD x.2.2))]) (fun k x=>f371_l32 a0 k x.1 x.2.1 x.2.2 = some o32) k (0,(0:Int),([]:List UInt8)) rfl_le (fun x hx=>by cases hx) h32 ⟨rfl,[.rowP []],[(0,0)],rfl,rfl,⟨⟨_,rfl,(.refl _)⟩,rfl,⟨⟨_,rfl,.nilRow⟩,rfl,⟨⟨_,rfl,(.refl _)⟩,rfl,trivial⟩⟩⟩,⟨⟨_,rfl,(.refl _)⟩,rfl,rfl,trivial⟩⟩ ?_)
   rintro k ⟨y32_1,y32_2,y32_3⟩ h32
   dsimp only at h32 ⊢
   rw [f371_l32] at h32
   refine .seq (.seq ?_)
   refine .rg hmix rfl rfl (RegV.p0 rfl rfl rfl ?_)
   refine RegV.p0 rfl rfl rfl (RegV.p0 (v:=(.d (.int .i64 ((a0.length:Nat):Int)))) rfl rfl rfl ?_)
   refine RegV.p0 (v:=(.d (.bool (decide (y32_2 < ((a0.length:Nat):Int)))))) rfl rfl rfl (RegV.nil0 ?_)
   refine .cond rfl (fun c42=>?_) (fun c42=>?_)
   · have h32:=cond_pos c42 h32
     refine .skip (.seq ?_)
     refine .block (.seq ?_)
     refine .rg hmix rfl rfl (RegV.p0 rfl rfl rfl ?_)
     refine RegV.p0 rfl rfl rfl ?_
     obtain ⟨b52,h32⟩:=gd_some h32
     refine RegV.p1 (v:=(.d (.int .u8 (((a0.getD (y32_2).toNat 0).toNat:Nat):Int)))) rfl rfl b52 rfl rfl (RegV.p0 rfl rfl rfl ?_)
     refine RegV.nil0 (.seq ?_)
     refine .rg hmix rfl rfl (RegV.p0 rfl rfl rfl ?_)
     refine RegV.nil0 (.j 1 (fun z=>f371_j99 (f371_l32 a0 k) k y32_2 y32_1 y32_3 z = some o32) (fun z=>[(0,(.d (.str a0))),(6,(.row 0 1 y32_1)),(7,(.d (.int .i64 y32_2))),(9,(.d (.int .u8 ((z.toNat:Nat):Int)))),(28,.any),(29,.any)]) (fun z=>[(0,(rowO byteD y32_3))]) ?_ ?_)
     · refine .block (.j 1 (fun z=>f371_j70 (f371_l32 a0 k) k y32_2 y32_1 y32_3 a0 z = some o32) (fun z=>[(0,(.d (.str a0))),(6,(.row 0 1 y32_1)),(7,(.d (.int .i64 y32_2))),(8,(.d (.int .u8 (((a0.getD (y32_2).toNat 0).toNat:Nat):Int)))),(24,(.d (.bool z))),(28,.any),(29,.any)]) (fun z=>[(0,(rowO byteD y32_3))]) ?_ ?_)
       · refine .rg hmix rfl rfl (RegV.p0 rfl rfl rfl ?_)
         refine RegV.p0 (v:=(.d (.bool (decide ((((a0.getD (y32_2).toNat 0).toNat:Nat):Int) ≥ (48:Int)))))) rfl rfl rfl (RegV.p0 rfl rfl rfl ?_)
         refine RegV.split (fun c65=>?_) (fun c65=>?_)
         · have h32:=cond_pos c65 h32
           refine RegV.p0 rfl rfl rfl (RegV.p0 (v:=(.d (.bool (decide ((((a0.getD (y32_2).toNat 0).toNat:Nat):Int)≤(57:Int)))))) rfl rfl rfl ?_)
           refine RegV.p0 rfl rfl rfl (RegV.p0 rfl rfl rfl ?_)
           exact RegV.nil0 ⟨(decide ((((a0.getD (y32_2).toNat 0).toNat:Nat):Int)≤(57:Int))),h32,⟨rfl,[],[],rfl,rfl,⟨⟨_,rfl,(.refl _)⟩,rfl,⟨⟨_,rfl,(.refl _)⟩,rfl,⟨⟨_,rfl,(.refl _)⟩,rfl,⟨⟨_,rfl,(.refl _)⟩,rfl,⟨⟨_,rfl,(.refl _)⟩,rfl,⟨⟨_,rfl,(.any _)⟩,rfl,⟨⟨_,rfl,(.any _)⟩,rfl,trivial⟩⟩⟩⟩⟩⟩⟩,⟨⟨_,rfl,(.refl _)⟩,rfl,rfl,trivial⟩⟩⟩
         have h32:=cond_neg c65 h32
         refine RegV.noS rfl rfl (RegV.noS rfl rfl ?_)
         refine RegV.p0 rfl rfl rfl (RegV.p0 rfl rfl rfl ?_)
         exact RegV.nil0 ⟨false,h32,⟨rfl,[],[],rfl,rfl,⟨⟨_,rfl,(.refl _)⟩,rfl,⟨⟨_,rfl,(.refl _)⟩,rfl,⟨⟨_,rfl,(.refl _)⟩,rfl,⟨⟨_,rfl,(.refl _)⟩,rfl,⟨⟨_,rfl,(.refl _)⟩,rfl,⟨⟨_,rfl,(.any _)⟩,rfl,⟨⟨_,rfl,(.any _)⟩,rfl,trivial⟩⟩⟩⟩⟩⟩⟩,⟨⟨_,rfl,(.refl _)⟩,rfl,rfl,trivial⟩⟩⟩
       intro j70_1 h32
       unfold f371_j70 at h32
       refine .cond rfl (fun c70=>?_) (fun c70=>?_)
       · have h32:=cond_pos c70 h32
         refine .rg hmix rfl rfl (RegV.p0 rfl rfl rfl ?_)
         refine RegV.p0 (v:=(.d (.int .u8 (IntKind.u8.wrap ((((a0.getD (y32_2).toNat 0).toNat:Nat):Int) - (48:Int)))))) rfl rfl rfl (RegV.p0 rfl rfl rfl ?_)
         exact RegV.nil0 ⟨(u8 (IntKind.u8.wrap ((((a0.getD (y32_2).toNat 0).toNat:Nat):Int) - (48:Int)))),h32,⟨rfl,[],[],rfl,rfl,⟨⟨_,rfl,(.refl _)⟩,rfl,⟨⟨_,rfl,(.refl _)⟩,rfl,⟨⟨_,rfl,(.refl _)⟩,rfl,⟨⟨_,rfl,(.u8 (u8_wrap _))⟩,rfl,⟨⟨_,rfl,(.refl _)⟩,rfl,⟨⟨_,rfl,(.refl _)⟩,rfl,trivial⟩⟩⟩⟩⟩⟩,⟨⟨_,rfl,(.refl _)⟩,rfl,rfl,trivial⟩⟩⟩
       have h32:=cond_neg c70 h32
       refine .j 1 (fun z=>f371_j86 (f371_l32 a0 k) k y32_2 y32_1 y32_3 a0 z = some o32) (fun z=>[(0,(.d (.str a0))),(6,(.row 0 1 y32_1)),(7,(.d (.int .i64 y32_2))),(8,(.d (.int .u8 (((a0.getD (y32_2).toNat 0).toNat:Nat):Int)))),(28,.any),(29,.any),(33,(.d (.bool z))),(37,.any),(38,.any)]) (fun z=>[(0,(rowO byteD y32_3))]) ?_ ?_
       · refine .rg hmix rfl rfl (RegV.p0 rfl rfl rfl ?_)
         refine RegV.p0 (v:=(.d (.bool (decide ((((a0.getD (y32_2).toNat 0).toNat:Nat):Int) ≥ (97:Int)))))) rfl rfl rfl (RegV.p0 rfl rfl rfl ?_)
         refine RegV.split (fun c81=>?_) (fun c81=>?_)
         · have h32:=cond_pos c81 h32
           refine RegV.p0 rfl rfl rfl (RegV.p0 (v:=(.d (.bool (decide ((((a0.getD (y32_2).toNat 0).toNat:Nat):Int)≤(102:Int)))))) rfl rfl rfl ?_)
           refine RegV.p0 rfl rfl rfl (RegV.p0 rfl rfl rfl ?_)
           exact RegV.nil0 ⟨(decide ((((a0.getD (y32_2).toNat 0).toNat:Nat):Int)≤(102:Int))),h32,⟨rfl,[],[],rfl,rfl,⟨⟨_,rfl,(.refl _)⟩,rfl,⟨⟨_,rfl,(.refl _)⟩,rfl,⟨⟨_,rfl,(.refl _)⟩,rfl,⟨⟨_,rfl,(.refl _)⟩,rfl,⟨⟨_,rfl,(.refl _)⟩,rfl,⟨⟨_,rfl,(.refl _)⟩,rfl,⟨⟨_,rfl,(.refl _)⟩,rfl,⟨⟨_,rfl,(.any _)⟩,rfl,⟨⟨_,rfl,(.any _)⟩,rfl,trivial⟩⟩⟩⟩⟩⟩⟩⟩⟩,⟨⟨_,rfl,(.refl _)⟩,rfl,rfl,trivial⟩⟩⟩
         have h32:=cond_neg c81 h32
         refine RegV.noS rfl rfl (RegV.noS rfl rfl ?_)
         refine RegV.p0 rfl rfl rfl (RegV.p0 rfl rfl rfl ?_)
         exact RegV.nil0 ⟨false,h32,⟨rfl,[],[],rfl,rfl,⟨⟨_,rfl,(.refl _)⟩,rfl,⟨⟨_,rfl,(.refl _)⟩,rfl,⟨⟨_,rfl,(.refl _)⟩,rfl,⟨⟨_,rfl,(.refl _)⟩,rfl,⟨⟨_,rfl,(.refl _)⟩,rfl,⟨⟨_,rfl,(.refl _)⟩,rfl,⟨⟨_,rfl,(.refl _)⟩,rfl,⟨⟨_,rfl,(.any _)⟩,rfl,⟨⟨_,rfl,(.any _)⟩,rfl,trivial⟩⟩⟩⟩⟩⟩⟩⟩⟩,⟨⟨_,rfl,(.refl _)⟩,rfl,rfl,trivial⟩⟩⟩
       intro j86_1 h32
       unfold f371_j86 at h32
       refine .cond rfl (fun c86=>?_) (fun c86=>?_)
       · have h32:=cond_pos c86 h32
         refine .rg hmix rfl rfl (RegV.p0 rfl rfl rfl ?_)
         refine RegV.p0 (v:=(.d (.int .u8 (IntKind.u8.wrap ((((a0.getD (y32_2).toNat 0).toNat:Nat):Int) - (97:Int)))))) rfl rfl rfl (RegV.p0 (v:=(.d (.int .u8 (IntKind.u8.wrap ((IntKind.u8.wrap ((((a0.getD (y32_2).toNat 0).toNat:Nat):Int) - (97:Int))) + (10:Int)))))) rfl rfl rfl ?_)
         refine RegV.p0 rfl rfl rfl (RegV.nil0 ?_)
         exact ⟨(u8 (IntKind.u8.wrap ((IntKind.u8.wrap ((((a0.getD (y32_2).toNat 0).toNat:Nat):Int) - (97:Int))) + (10:Int)))),h32,⟨rfl,[],[],rfl,rfl,⟨⟨_,rfl,(.refl _)⟩,rfl,⟨⟨_,rfl,(.refl _)⟩,rfl,⟨⟨_,rfl,(.refl _)⟩,rfl,⟨⟨_,rfl,(.u8 (u8_wrap _))⟩,rfl,⟨⟨_,rfl,(.refl _)⟩,rfl,⟨⟨_,rfl,(.refl _)⟩,rfl,trivial⟩⟩⟩⟩⟩⟩,⟨⟨_,rfl,(.refl _)⟩,rfl,rfl,trivial⟩⟩⟩
       have h32:=cond_neg c86 h32
       refine .seq (.rg hmix rfl rfl ?_)
       refine RegV.p0 rfl rfl rfl (RegV.p0 rfl rfl rfl ?_)
       refine RegV.nil0 ?_
       cases h32
       dsimp only at h
       have hr:=Option.some.inj h
       subst hr
       exact .ret (canQ (N:=63) (k:=0) (l':=[(4,(.d (.sl (List.map byteD ([]:List UInt8))))),(5,(.d (.bool false)))]) (H':=[]) rfl ⟨rfl,[],[],rfl,rfl,⟨⟨_,rfl,(.sl rfl)⟩,rfl,⟨⟨_,rfl,(.refl _)⟩,rfl,trivial⟩⟩, trivial⟩ (doneA (.inr rfl) rfl ⟨trivial,⟨trivial,trivial⟩⟩ (.refl _) hasNil))
     intro j99_1 h32
     unfold f371_j99 at h32
     refine .seq (.rg hmix rfl rfl ?_)
     refine RegV.p0 rfl rfl rfl (RegV.p1 (v:=(.d (.int .i64 (Int.tmod y32_2 (2:Int))))) rfl rfl (by decide) rfl rfl ?_)
     refine RegV.p0 (v:=(.d (.bool (decide ((Int.tmod y32_2 (2:Int)) = (0:Int)))))) rfl rfl rfl (RegV.nil0 ?_)
     refine .cond rfl (fun c105=>?_) (fun c105=>?_)
     · have h32:=cond_pos c105 h32
       refine .rg hmix rfl rfl (RegV.p0 rfl rfl rfl ?_)
       refine RegV.p0 rfl rfl rfl (RegV.p1 (v:=(.d (.int .u8 (IntKind.u8.wrap (((j99_1.toNat:Nat):Int) * 2 ^ (min ((4:Int)).toNat IntKind.u8.bits)))))) rfl rfl (by decide) rfl rfl ?_)
       refine RegV.p1 (v:=.d (.sl [(.int .u8 (IntKind.u8.wrap (((j99_1.toNat:Nat):Int) * 2 ^ (min ((4:Int)).toNat IntKind.u8.bits))))])) (v':=(.d (.sl (List.map byteD ([(u8 (IntKind.u8.wrap (((j99_1.toNat:Nat):Int) * 2 ^ (min ((4:Int)).toNat IntKind.u8.bits))))]:List UInt8))))) (s:=([(.int .u8 0)]:List D).length = 1∧1 * 1≤16777216∧∀ d∈([(.int .u8 (IntKind.u8.wrap (((j99_1.toNat:Nat):Int) * 2 ^ (min ((4:Int)).toNat IntKind.u8.bits))))]:List D),d.cells.length = 1) rfl rfl ⟨rfl,Nat.le_of_ble_eq_true rfl,by simp [D.cells]⟩ rfl (by simp only [List.map_cons,List.map_nil,byteD,←u8_eq (u8_wrap _),←u8_eq (u8_bits _ _ _)]) ?_
       obtain ⟨b112,h32⟩:=gd_some h32
       refine RegV.appW (xs:=y32_3) (ys:=([(u8 (IntKind.u8.wrap (((j99_1.toNat:Nat):Int) * 2 ^ (min ((4:Int)).toNat IntKind.u8.bits))))]:List UInt8)) (zs:=(List.take y32_1 y32_3 ++ ([(u8 (IntKind.u8.wrap (((j99_1.toNat:Nat):Int) * 2 ^ (min ((4:Int)).toNat IntKind.u8.bits))))]:List UInt8))) (e:=byteD) (H':=[(1,(rowO byteD (List.take y32_1 y32_3 ++ ([(u8 (IntKind.u8.wrap (((j99_1.toNat:Nat):Int) * 2 ^ (min ((4:Int)).toNat IntKind.u8.bits))))]:List UInt8))))]) rfl rfl rfl byteD_ok rfl rfl rfl b112 rfl rfl rfl rfl rfl rfl (RegV.p0 rfl rfl rfl ?_)
       refine RegV.nil0 (.rg hmix rfl rfl ?_)
       refine RegV.p0 rfl rfl rfl (RegV.p0 (v:=(.d (.int .i64 (IntKind.i64.wrap (y32_2 + (1:Int)))))) rfl rfl rfl ?_)
       refine RegV.p0 rfl rfl rfl (RegV.nil0 ?_)
       exact ⟨((y32_1 + ([(u8 (IntKind.u8.wrap (((j99_1.toNat:Nat):Int) * 2 ^ (min ((4:Int)).toNat IntKind.u8.bits))))]:List UInt8).length),(IntKind.i64.wrap (y32_2 + (1:Int))),(List.take y32_1 y32_3 ++ ([(u8 (IntKind.u8.wrap (((j99_1.toNat:Nat):Int) * 2 ^ (min ((4:Int)).toNat IntKind.u8.bits))))]:List UInt8))),h32,⟨rfl,[],[(0,1)],rfl,rfl,⟨⟨_,rfl,(.refl _)⟩,rfl,⟨⟨_,rfl,(.refl _)⟩,rfl,⟨⟨_,rfl,(.refl _)⟩,rfl,trivial⟩⟩⟩,⟨⟨_,rfl,(.refl _)⟩,rfl,rfl,trivial⟩⟩⟩
     have h32:=cond_neg c105 h32
     refine .rg hmix rfl rfl (RegV.p0 rfl rfl rfl ?_)
     refine RegV.p0 rfl rfl rfl (RegV.p1 (v:=(.d (.int .i64 (IntKind.i64.wrap (Int.tdiv y32_2 (2:Int)))))) rfl rfl (by decide) rfl rfl ?_)
     refine RegV.p0 rfl rfl rfl (RegV.p0 rfl rfl rfl ?_)
     refine RegV.p1 (v:=(.d (.int .i64 (IntKind.i64.wrap (Int.tdiv y32_2 (2:Int)))))) rfl rfl (by decide) rfl rfl ?_
     obtain ⟨b122,h32⟩:=gd_some h32
     refine RegV.iaR (z:=1) rfl rfl (fun _=>rfl) b122 rfl ?_
     obtain ⟨b123,h32⟩:=gd_some h32
     refine RegV.ldR (e:=byteD) (xs:=y32_3) (i:=((IntKind.i64.wrap (Int.tdiv y32_2 (2:Int)))).toNat) (H':=[(0,(rowO byteD y32_3))]) rfl rfl rfl byteD_ok rfl b123 rfl rfl rfl rfl (RegV.p0 rfl rfl rfl ?_)
     refine RegV.p0 (v:=(.d (.int .u8 (bitsA .or .u8 (((List.getD y32_3 ((IntKind.i64.wrap (Int.tdiv y32_2 (2:Int)))).toNat default).toNat:Nat):Int) ((j99_1.toNat:Nat):Int))))) rfl rfl rfl ?_
     obtain ⟨b126,h32⟩:=gd_some h32
     refine RegV.iaR (z:=1) rfl rfl (fun _=>rfl) b126 rfl ?_
     obtain ⟨b127,h32⟩:=gd_some h32
     refine RegV.stR (e:=byteD) (xs:=y32_3) (i:=((IntKind.i64.wrap (Int.tdiv y32_2 (2:Int)))).toNat) (v:=(u8 (bitsA .or .u8 (((List.getD y32_3 ((IntKind.i64.wrap (Int.tdiv y32_2 (2:Int)))).toNat default).toNat:Nat):Int) ((j99_1.toNat:Nat):Int)))) (H':=[(0,(rowO byteD (List.set y32_3 ((IntKind.i64.wrap (Int.tdiv y32_2 (2:Int)))).toNat (u8 (bitsA .or .u8 (((List.getD y32_3 ((IntKind.i64.wrap (Int.tdiv y32_2 (2:Int)))).toNat default).toNat:Nat):Int) ((j99_1.toNat:Nat):Int))))))]) rfl rfl rfl rfl (cellsU8 (u8_bits _ _ _)) byteD_ok rfl b127 rfl rfl rfl (RegV.nil0 ?_)
     refine .rg hmix rfl rfl (RegV.p0 rfl rfl rfl ?_)
     refine RegV.p0 (v:=(.d (.int .i64 (IntKind.i64.wrap (y32_2 + (1:Int)))))) rfl rfl rfl (RegV.p0 rfl rfl rfl ?_)
     exact RegV.nil0 ⟨(y32_1,(IntKind.i64.wrap (y32_2 + (1:Int))),(List.set y32_3 ((IntKind.i64.wrap (Int.tdiv y32_2 (2:Int)))).toNat (u8 (bitsA .or .u8 (((List.getD y32_3 ((IntKind.i64.wrap (Int.tdiv y32_2 (2:Int)))).toNat default).toNat:Nat):Int) ((j99_1.toNat:Nat):Int))))),h32,⟨rfl,[],[],rfl,rfl,⟨⟨_,rfl,(.refl _)⟩,rfl,⟨⟨_,rfl,(.refl _)⟩,rfl,⟨⟨_,rfl,(.refl _)⟩,rfl,trivial⟩⟩⟩,⟨⟨_,rfl,(.refl _)⟩,rfl,rfl,trivial⟩⟩⟩
   have h32:=cond_neg c42 h32
   cases h32
   dsimp only at h
   refine .exit (inBlk_eq ?_)
   exact ⟨(y32_1,y32_3),h,⟨rfl,[],[],rfl,rfl,⟨⟨_,rfl,(.refl _)⟩,rfl,trivial⟩,⟨⟨_,rfl,(.refl _)⟩,rfl,rfl,trivial⟩⟩⟩
 rintro ⟨j133_1,j133_2⟩ h
 dsimp only at h ⊢
 unfold f371_j133 at h
 refine .seq (.rg hmix rfl rfl ?_)
 refine RegV.p0 rfl rfl rfl (RegV.p0 rfl rfl rfl ?_)
 refine RegV.p0 rfl rfl rfl (RegV.nil0 ?_)
 obtain ⟨bs0,h⟩:=gd_some h
 refine .sealB (l0:=0) (xs:=j133_2) (l':=[(4,(.d (.sl (List.map byteD (List.take j133_1 j133_2))))),(5,(.d (.bool true)))]) (H':=[(0,(.tok (j133_2.length * 1)))]) byteD_ok rfl (.inr rfl) ⟨⟨_,rfl,(.row bs0)⟩,⟨_,rfl,.same⟩,trivial⟩ rfl ?_
 have hr:=Option.some.inj h
 subst hr
 exact .ret (canQ (N:=63) (k:=0) (l':=[(4,(.d (.sl (List.map byteD (List.take j133_1 j133_2))))),(5,(.d (.bool true)))]) (H':=[]) rfl ⟨rfl,[],[],rfl,rfl,⟨⟨_,rfl,(.refl _)⟩,rfl,⟨⟨_,rfl,(.refl _)⟩,rfl,trivial⟩⟩, trivial⟩ (doneA (.inr rfl) rfl ⟨trivial,⟨trivial,trivial⟩⟩ (.refl _) hasNil))
def f372_j74 (k:Nat) (j74_1:(List UInt8)):Option ((List UInt8)×Bool):=some (j74_1,true)
def f372_l15 (a0:(List UInt8)):Nat→(List UInt8)→Int→Option (LR2 (List UInt8) Unit ((List UInt8)×Bool))
  | 0,_,_=>none
  | k + 1,y15_1,y15_2=>cond (decide (y15_2 < ((a0.length:Nat):Int))) (gd (0≤y15_2∧y15_2≤((a0.length:Nat):Int)∧((a0.length:Nat):Int)≤((a0.length:Nat):Int)) ((f336 k (sl a0 y15_2 ((a0.length:Nat):Int))).bind fun r35=>cond (decide (r35.1 > (255:Int))) (some (.r (([]:List UInt8),false))) (cond (decide (r35.1 = (65533:Int))) (some (.r (([]:List UInt8),false))) (gd ((y15_1.length + ([(u8 (IntKind.u8.wrap r35.1))]:List UInt8).length) * 2 * 1≤281474976710656) (f372_l15 a0 k (y15_1 ++ ([(u8 (IntKind.u8.wrap r35.1))]:List UInt8)) (IntKind.i64.wrap (y15_2 + r35.2))))))) (some (.b0 y15_1))
def f372 (k:Nat) (a0:(List UInt8)):Option ((List UInt8)×Bool):=(f372_l15 a0 k ([]:List UInt8) (0:Int)).bind fun o15=>(match o15 with | .b0 x15_1=>f372_j74 k x15_1 | .r x=>some x | _=>none)
theorem F372 {k:Nat} {a0:(List UInt8)} {r:((List UInt8)×Bool)} (h:f372 k a0 = some r) :
    ACalls Tryd.prog 80 [(.d (.str a0))] [] (.tup [(.ap 0 1 (List.map byteD r.1)),(.d (.bool r.2))]) [(0,(.tok ((List.map byteD r.1).length * 1)))]:=by
 refine acalls_ret ⟨_,Tryd.func80,by kernel_rfl,by kernel_rfl,rfl⟩ 0 1 1 [(2,(.ap 0 1 (List.map byteD r.1))),(3,(.d (.bool r.2)))] [(0,(.tok ((List.map byteD r.1).length * 1)))] (doneA (.inr rfl) rfl ⟨trivial,⟨trivial,trivial⟩⟩ (.refl _) (hasCons rfl hasNil)) ?_
 unfold f372 at h
 refine .seq (.e [] ?_)
 refine .seq (.e [] ?_)
 refine .j 1 (fun z=>f372_j74 k z = some r) (fun z=>[(4,(.ap 0 1 (List.map byteD z)))]) (fun z=>[(0,(.tok ((List.map byteD z).length * 1)))]) ?_ ?_
 · refine .seq (.e [] ?_)
   obtain ⟨o15,h15,h⟩:=bind_some h
   refine .block (.lp 1 (fun k (x:((List UInt8)×Int))=>f372_l15 a0 k x.1 x.2 = some o15) (fun x=>[(0,(.d (.str a0))),(4,(.ap 0 1 (List.map byteD x.1))),(5,(.d (.int .i64 x.2)))]) (fun x=>[(0,(.tok ((List.map byteD x.1).length * 1)))]) (_,_) h15 [(0,0)] [.tok 0] ?_)
   rintro k ⟨y15_1,y15_2⟩ h15
   dsimp only at h15 ⊢
   rw [f372_l15] at h15
   refine .seq (.seq ?_)
   refine .e [] (.cD h15 (fun h15=>?_) fun h15=>?_)
   · cases h15
     dsimp only at h
     refine .exit (inBlk_eq ?_)
     exact ⟨_,h,inZ⟩
   refine .skip (.block ?_)
   refine .seq ?_
   obtain ⟨b34,h15⟩:=gd_some h15
   obtain ⟨r35,e35,h15⟩:=bind_some h15
   refine .e [.sd b34,.call (F336 e35) [] 0] (.seq ?_)
   refine .seq ?_
   rcases cc h15 with ⟨c47,h15⟩ | ⟨c47,h15⟩
   · refine .e [.br c47] (.cT rfl ?_)
     refine .seq (.e [] ?_)
     cases h15
     dsimp only at h
     cases h
     exact .ret (rq [(0,1)] [.tok 0])
   refine .e [.br c47] (.cB h15 (fun h15=>?_) fun h15=>?_)
   · refine .seq (.e [] ?_)
     cases h15
     dsimp only at h
     cases h
     exact .ret (rq [(0,1)] [.tok 0])
   refine .skip (.seq ?_)
   obtain ⟨b66,h15⟩:=gd_some h15
   refine .e [.apA byteD y15_1 ([(u8 (IntKind.u8.wrap r35.1))]:List UInt8) 1 (fun _=>rfl) b66] (.e [] ?_)
   exact ⟨(_,_),h15,(inT [(0,1)] [])⟩
 intro j74_1 h
 unfold f372_j74 at h
 refine .seq (.e [] ?_)
 cases h
 exact .ret rz
def f373_j208 (k:Nat) (j208_1:Bool) (j208_2:(List (RT 5))) (j208_3:Int):Option (Bool×(List (RT 5))×Int):=some (j208_1,j208_2,j208_3)
def f373_j169 (L:Bool→Int→Int→(List (RT 5))→Option (LR2 (Bool×(List (RT 5))×Int) Unit (Bool×(List (RT 5))×Int))) (k:Nat) (rc369:Y369) (a0:(List TNode)) (y95_3:Int) (a2:TNode) (y95_2:Int) (a6:Int) (y95_4:(List (RT 5))) (j169_1:Bool) (j169_2:Int) (j169_3:(List UInt8)) (j169_4:(List (RT 4))) (j169_5:(List (List UInt8))):Option (LR2 (Bool×(List (RT 5))×Int) Unit (Bool×(List (RT 5))×Int)):=cond j169_1 ((rc369 a0 y95_3 ((rd a2.fFields y95_2).fType) (TJson.mk j169_2 j169_3 j169_4 j169_5) (IntKind.i64.wrap (a6 + (1:Int)))).bind fun r187=>gd ((y95_4.length + ([(RT.of TValue.ok (TValue.mk r187.2.1 r187.2.2.1 r187.2.2.2.1 r187.2.2.2.2.1 r187.2.2.2.2.2.1))]:List (RT 5)).length) * 2 * 88≤281474976710656) (L r187.1 (IntKind.i64.wrap (y95_2 + (1:Int))) r187.2.2.2.2.2.2 (y95_4 ++ ([(RT.of TValue.ok (TValue.mk r187.2.1 r187.2.2.1 r187.2.2.2.1 r187.2.2.2.2.1 r187.2.2.2.2.2.1))]:List (RT 5))))) (L j169_1 (IntKind.i64.wrap (y95_2 + (1:Int))) y95_3 y95_4)
def f373_l95 (a2:TNode) (a5:TJson) (rc369:Y369) (a0:(List TNode)) (a6:Int):Nat→Bool→Int→Int→(List (RT 5))→Option (LR2 (Bool×(List (RT 5))×Int) Unit (Bool×(List (RT 5))×Int))
  | 0,_,_,_,_=>none
  | k + 1,y95_1,y95_2,y95_3,y95_4=>cond (decide (y95_2 < ((a2.fFields.length:Nat):Int))) (cond y95_1 (gd (0≤y95_2∧y95_2 < ((a2.fFields.length:Nat):Int)) ((f346 k a5 ((rd a2.fFields y95_2).fName)).bind fun r130=>cond (!r130.1) ((f295 k ((rd a2.fFields y95_2).fDefault)).bind fun r153=>cond ((rd a2.fFields y95_2).fHas) (f373_j169 (f373_l95 a2 a5 rc369 a0 a6 k) k rc369 a0 y95_3 a2 y95_2 a6 y95_4 (decide (r153.1 = (0:Int))) r153.2.1 r153.2.2.1 r153.2.2.2.1 r153.2.2.2.2) (f373_j169 (f373_l95 a2 a5 rc369 a0 a6 k) k rc369 a0 y95_3 a2 y95_2 a6 y95_4 false r153.2.1 r153.2.2.1 r153.2.2.2.1 r153.2.2.2.2)) (f373_j169 (f373_l95 a2 a5 rc369 a0 a6 k) k rc369 a0 y95_3 a2 y95_2 a6 y95_4 y95_1 r130.2.1 r130.2.2.1 r130.2.2.2.1 r130.2.2.2.2))) (some (.b0 (y95_1,y95_4,y95_3)))) (some (.b0 (y95_1,y95_4,y95_3)))
def f373_j90 (k:Nat) (a2:TNode) (a5:TJson) (rc369:Y369) (a0:(List TNode)) (a6:Int) (a1:Int) (j90_1:Bool):Option (Bool×(List (RT 5))×Int):=(f373_l95 a2 a5 rc369 a0 a6 k j90_1 (0:Int) a1 ([]:List (RT 5))).bind fun o95=>(match o95 with | .b0 (x95_1,x95_2,x95_3)=>f373_j208 k x95_1 x95_2 x95_3 | _=>none)
def f373_l42 (a2:TNode) (y14_2:Int) (a5:TJson):Nat→Bool→Int→Option (LR2 Bool Unit (Bool×(List (RT 5))×Int))
  | 0,_,_=>none
  | k + 1,y42_1,y42_2=>cond (decide (y42_2 < ((a2.fFields.length:Nat):Int))) (cond y42_1 (f373_l42 a2 y14_2 a5 k true (IntKind.i64.wrap (y42_2 + (1:Int)))) (gd (0≤y42_2∧y42_2 < ((a2.fFields.length:Nat):Int)) (gd (0≤y14_2∧y14_2 < ((a5.fKeys.length:Nat):Int)) (f373_l42 a2 y14_2 a5 k (decide ((rd a2.fFields y42_2).fName = (rd a5.fKeys y14_2))) (IntKind.i64.wrap (y42_2 + (1:Int))))))) (some (.b0 y42_1))
def f373_l14 (a5:TJson) (a2:TNode):Nat→Bool→Int→Option (LR2 Bool Unit (Bool×(List (RT 5))×Int))
  | 0,_,_=>none
  | k + 1,y14_1,y14_2=>cond (decide (y14_2 < ((a5.fKeys.length:Nat):Int))) (cond y14_1 ((f373_l42 a2 y14_2 a5 k false (0:Int)).bind fun o42=>(match o42 with | .b0 x42_1=>f373_l14 a5 a2 k x42_1 (IntKind.i64.wrap (y14_2 + (1:Int))) | _=>none)) (some (.b0 y14_1))) (some (.b0 y14_1))
def f373 (rc369:Y369) (k:Nat) (a0:(List TNode)) (a1:Int) (a2:TNode) (a3:Int) (a4:Int) (a5:TJson) (a6:Int) (a7:Bool):Option (Bool×(List (RT 5))×Int):=(f373_l14 a5 a2 k a7 (0:Int)).bind fun o14=>(match o14 with | .b0 x14_1=>f373_j90 k a2 a5 rc369 a0 a6 a1 x14_1 | _=>none)
theorem F373 {rc369:Y369} (hrc369:RH369 rc369) {k:Nat} {a0:(List TNode)} {a1:Int} {a2:TNode} {a3:Int} {a4:Int} {a5:TJson} {a6:Int} {a7:Bool} {r:(Bool×(List (RT 5))×Int)} (h:f373 rc369 k a0 a1 a2 a3 a4 a5 a6 a7 = some r) :
    ACalls Tryd.prog 81 [(.ptr 0 0),(.d (TNode.enc a2)),(.agg [(.d (.int .i64 a3)),(.d (.int .i64 a4)),.nils,.nils,.nils]),(.d (TJson.enc a5)),(.d (.int .i64 a6)),(.d (.bool a7))] [(0,(.cells [(.d (.sl (List.map TNode.enc a0))),(.d (.int .i64 a1))]))] (.tup [(.d (.agg [(.int .i64 a3),(.int .i64 a4),(.sl (List.map byteD ([]:List UInt8))),(.sl (List.map (rtE (z:=5)) r.2.1)),(.sl (List.map D.str ([]:List (List UInt8))))])),(.d (.bool r.1))]) [(0,(.cells [(.d (.sl (List.map TNode.enc a0))),(.d (.int .i64 r.2.2))]))]:=by
 refine acalls_ret ⟨_,Tryd.func81,by kernel_rfl,by kernel_rfl,rfl⟩ 1 1 2 [(12,(.ptr 1 0)),(13,(.d (.bool r.1)))] [(1,(.cells [(.d (.int .i64 a3)),(.d (.int .i64 a4)),(.d (.sl (List.map byteD ([]:List UInt8)))),(.d (.sl (List.map (rtE (z:=5)) r.2.1))),(.d (.sl (List.map D.str ([]:List (List UInt8)))))])),(0,(.cells [(.d (.sl (List.map TNode.enc a0))),(.d (.int .i64 r.2.2))]))] (doneA (.inr rfl) rfl ⟨(Nat.le_of_ble_eq_true rfl),⟨trivial,trivial⟩⟩ (.refl _) (hasCons rfl hasNil)) ?_
 unfold f373 at h
 refine .seq (.e [] ?_)
 refine .j 5 (fun z=>f373_j90 k a2 a5 rc369 a0 a6 a1 z = some r) (fun z=>[(0,(.ptr 0 0)),(4,(.d (.int .i64 a6))),(5,(.d (.bool z))),(7,(.ptr 1 0)),(8,(.ptr 2 0)),(9,(.ptr 3 0)),(12,(.ptr 4 0))]) (fun z=>[(0,(.cells [(.d (.sl (List.map TNode.enc a0))),(.d (.int .i64 a1))])),(1,(.cells [(.d (.int .i64 a2.fKind)),(.d (.str a2.fName)),(.d (.sl (List.map D.str a2.fAliases))),(.d (.sl (List.map TField.enc a2.fFields))),(.d (.sl (List.map D.str a2.fSymbols))),(.d (.bool a2.fHas)),(.d (.str a2.fDefault)),(.d (.int .i64 a2.fItems)),(.d (.sl (List.map (D.int .i64) a2.fBranches))),(.d (.int .i64 a2.fSize))])),(2,(.cells [(.d (.int .i64 a3)),(.d (.int .i64 a4)),.nils,.nils,.nils])),(3,(.cells [(.d (.int .i64 a5.fKind)),(.d (.str a5.fText)),(.d (.sl (List.map (rtE (z:=4)) a5.fL))),(.d (.sl (List.map D.str a5.fKeys)))])),(4,(.cells [(.d (.int .i64 (0:Int))),(.d (.int .i64 (0:Int))),.nils,.nils,.nils]))]) ?_ ?_
 · refine .seq (.e [] ?_)
   obtain ⟨o14,h14,h⟩:=bind_some h
   refine .block (.lp 5 (fun k (x:(Bool×Int))=>f373_l14 a5 a2 k x.1 x.2 = some o14) (fun x=>[(0,(.ptr 0 0)),(4,(.d (.int .i64 a6))),(5,(.d (.bool x.1))),(7,(.ptr 1 0)),(8,(.ptr 2 0)),(9,(.ptr 3 0)),(12,(.ptr 4 0)),(14,(.d (.int .i64 x.2)))]) (fun x=>[(0,(.cells [(.d (.sl (List.map TNode.enc a0))),(.d (.int .i64 a1))])),(1,(.cells [(.d (.int .i64 a2.fKind)),(.d (.str a2.fName)),(.d (.sl (List.map D.str a2.fAliases))),(.d (.sl (List.map TField.enc a2.fFields))),(.d (.sl (List.map D.str a2.fSymbols))),(.d (.bool a2.fHas)),(.d (.str a2.fDefault)),(.d (.int .i64 a2.fItems)),(.d (.sl (List.map (D.int .i64) a2.fBranches))),(.d (.int .i64 a2.fSize))])),(2,(.cells [(.d (.int .i64 a3)),(.d (.int .i64 a4)),.nils,.nils,.nils])),(3,(.cells [(.d (.int .i64 a5.fKind)),(.d (.str a5.fText)),(.d (.sl (List.map (rtE (z:=4)) a5.fL))),(.d (.sl (List.map D.str a5.fKeys)))])),(4,(.cells [(.d (.int .i64 (0:Int))),(.d (.int .i64 (0:Int))),.nils,.nils,.nils]))]) (_,_) h14 [] [] ?_)
   rintro k ⟨y14_1,y14_2⟩ h14
   dsimp only at h14 ⊢
   rw [f373_l14] at h14
   refine .seq (.seq ?_)
   rcases cc h14 with ⟨c25,h14⟩ | ⟨c25,h14⟩
   · refine .e [.ln D.str a5.fKeys,.br c25] (.cD h14 (fun h14=>?_) fun h14=>?_)
     · cases h14
       dsimp only at h
       refine .exit (inBlk_eq ?_)
       exact ⟨_,h,inZ⟩
     refine .skip (.seq ?_)
     refine .block (.seq ?_)
     refine .e [] (.seq ?_)
     refine .seq (.e [] ?_)
     obtain ⟨o42,h42,h14⟩:=bind_some h14
     refine .block (.lp 5 (fun k (x:(Bool×Int))=>f373_l42 a2 y14_2 a5 k x.1 x.2 = some o42) (fun x=>[(0,(.ptr 0 0)),(4,(.d (.int .i64 a6))),(7,(.ptr 1 0)),(8,(.ptr 2 0)),(9,(.ptr 3 0)),(12,(.ptr 4 0)),(14,(.d (.int .i64 y14_2))),(15,(.d (.bool x.1))),(16,(.d (.int .i64 x.2))),(29,(.d (.bool y14_1)))]) (fun x=>[(0,(.cells [(.d (.sl (List.map TNode.enc a0))),(.d (.int .i64 a1))])),(1,(.cells [(.d (.int .i64 a2.fKind)),(.d (.str a2.fName)),(.d (.sl (List.map D.str a2.fAliases))),(.d (.sl (List.map TField.enc a2.fFields))),(.d (.sl (List.map D.str a2.fSymbols))),(.d (.bool a2.fHas)),(.d (.str a2.fDefault)),(.d (.int .i64 a2.fItems)),(.d (.sl (List.map (D.int .i64) a2.fBranches))),(.d (.int .i64 a2.fSize))])),(2,(.cells [(.d (.int .i64 a3)),(.d (.int .i64 a4)),.nils,.nils,.nils])),(3,(.cells [(.d (.int .i64 a5.fKind)),(.d (.str a5.fText)),(.d (.sl (List.map (rtE (z:=4)) a5.fL))),(.d (.sl (List.map D.str a5.fKeys)))])),(4,(.cells [(.d (.int .i64 (0:Int))),(.d (.int .i64 (0:Int))),.nils,.nils,.nils]))]) (_,_) h42 [] [] ?_)
     rintro k ⟨y42_1,y42_2⟩ h42
     dsimp only at h42 ⊢
     rw [f373_l42] at h42
     refine .seq (.seq ?_)
     refine .e [.ln TField.enc a2.fFields] (.cD h42 (fun h42=>?_) fun h42=>?_)
     · cases h42
       dsimp only at h14
       refine .exit (inBlk_eq ?_)
       refine .e [] (.e [] ?_)
       exact ⟨(_,_),h14,inZ⟩
     refine .skip (.seq ?_)
     refine .block ?_
     rcases cc h42 with ⟨c61,h42⟩ | ⟨c61,h42⟩
     · refine .e [.br c61] (.e [] ?_)
       exact ⟨(_,_),h42,inZ⟩
     obtain ⟨b65,h42⟩:=gd_some h42
     obtain ⟨b71,h42⟩:=gd_some h42
     refine .e [.br c61,.iad TField.enc a2.fFields 5 (fun _=>rfl) b65,.iad D.str a5.fKeys 1 (fun _=>rfl) b71] (.e [] ?_)
     exact ⟨(_,_),h42,inZ⟩
   refine .e [.ln D.str a5.fKeys,.br c25] (.cF rfl ?_)
   cases h14
   dsimp only at h
   refine .exit (inBlk_eq ?_)
   exact ⟨_,h,inZ⟩
 intro j90_1 h
 unfold f373_j90 at h
 refine .j 4 (fun (z:(Bool×(List (RT 5))×Int))=>f373_j208 k z.1 z.2.1 z.2.2 = some r) (fun z=>[(5,(.d (.bool z.1))),(8,(.ptr 1 0)),(12,(.ptr 2 0))]) (fun z=>[(1,(.cells [(.d (.int .i64 a3)),(.d (.int .i64 a4)),.nils,(.ap 3 5 (List.map (rtE (z:=5)) z.2.1)),.nils])),(2,(.cells [(.d (.int .i64 (0:Int))),(.d (.int .i64 (0:Int))),.nils,.nils,.nils])),(0,(.cells [(.d (.sl (List.map TNode.enc a0))),(.d (.int .i64 z.2.2))])),(3,(.tok ((List.map (rtE (z:=5)) z.2.1).length * 5)))]) ?_ ?_
 · refine .seq (.e [] ?_)
   obtain ⟨o95,h95,h⟩:=bind_some h
   refine .block (.lp 6 (fun k (x:(Bool×Int×Int×(List (RT 5))))=>f373_l95 a2 a5 rc369 a0 a6 k x.1 x.2.1 x.2.2.1 x.2.2.2 = some o95) (fun x=>[(0,(.ptr 0 0)),(4,(.d (.int .i64 a6))),(5,(.d (.bool x.1))),(7,(.ptr 1 0)),(8,(.ptr 2 0)),(9,(.ptr 3 0)),(12,(.ptr 4 0)),(17,(.d (.int .i64 x.2.1)))]) (fun x=>[(0,(.cells [(.d (.sl (List.map TNode.enc a0))),(.d (.int .i64 x.2.2.1))])),(1,(.cells [(.d (.int .i64 a2.fKind)),(.d (.str a2.fName)),(.d (.sl (List.map D.str a2.fAliases))),(.d (.sl (List.map TField.enc a2.fFields))),(.d (.sl (List.map D.str a2.fSymbols))),(.d (.bool a2.fHas)),(.d (.str a2.fDefault)),(.d (.int .i64 a2.fItems)),(.d (.sl (List.map (D.int .i64) a2.fBranches))),(.d (.int .i64 a2.fSize))])),(2,(.cells [(.d (.int .i64 a3)),(.d (.int .i64 a4)),.nils,(.ap 5 5 (List.map (rtE (z:=5)) x.2.2.2)),.nils])),(3,(.cells [(.d (.int .i64 a5.fKind)),(.d (.str a5.fText)),(.d (.sl (List.map (rtE (z:=4)) a5.fL))),(.d (.sl (List.map D.str a5.fKeys)))])),(4,(.cells [(.d (.int .i64 (0:Int))),(.d (.int .i64 (0:Int))),.nils,.nils,.nils])),(5,(.tok ((List.map (rtE (z:=5)) x.2.2.2).length * 5)))]) (_,_,_,_) h95 [(5,5)] [.tok 0] ?_)
   rintro k ⟨y95_1,y95_2,y95_3,y95_4⟩ h95
   dsimp only at h95 ⊢
   rw [f373_l95] at h95
   refine .seq (.seq ?_)
   rcases cc h95 with ⟨c106,h95⟩ | ⟨c106,h95⟩
   · refine .e [.ln TField.enc a2.fFields,.br c106] (.cD h95 (fun h95=>?_) fun h95=>?_)
     · cases h95
       dsimp only at h
       refine .exit (inBlk_eq ?_)
       exact ⟨(_,_,_),h,(inT [(1,2),(2,4),(3,5)] [])⟩
     refine .skip (.seq ?_)
     refine .block (.seq ?_)
     obtain ⟨b120,h95⟩:=gd_some h95
     refine .e [.iad TField.enc a2.fFields 5 (fun _=>rfl) b120] (.seq ?_)
     obtain ⟨r130,e130,h95⟩:=bind_some h95
     refine .e [.call (F346 e130) [] 0] (.j 8 (fun (z:(Bool×Int×(List UInt8)×(List (RT 4))×(List (List UInt8))))=>f373_j169 (f373_l95 a2 a5 rc369 a0 a6 k) k rc369 a0 y95_3 a2 y95_2 a6 y95_4 z.1 z.2.1 z.2.2.1 z.2.2.2.1 z.2.2.2.2 = some o95) (fun z=>[(0,(.ptr 0 0)),(4,(.d (.int .i64 a6))),(5,(.d (.bool z.1))),(7,(.ptr 1 0)),(8,(.ptr 2 0)),(9,(.ptr 3 0)),(12,(.ptr 4 0)),(17,(.d (.int .i64 y95_2))),(18,(.ptr 5 0)),(19,(.ptr 6 0)),(62,(.d (.bool y95_1)))]) (fun z=>[(0,(.cells [(.d (.sl (List.map TNode.enc a0))),(.d (.int .i64 y95_3))])),(1,(.cells [(.d (.int .i64 a2.fKind)),(.d (.str a2.fName)),(.d (.sl (List.map D.str a2.fAliases))),(.d (.sl (List.map TField.enc a2.fFields))),(.d (.sl (List.map D.str a2.fSymbols))),(.d (.bool a2.fHas)),(.d (.str a2.fDefault)),(.d (.int .i64 a2.fItems)),(.d (.sl (List.map (D.int .i64) a2.fBranches))),(.d (.int .i64 a2.fSize))])),(2,(.cells [(.d (.int .i64 a3)),(.d (.int .i64 a4)),.nils,(.ap 7 5 (List.map (rtE (z:=5)) y95_4)),.nils])),(3,(.cells [(.d (.int .i64 a5.fKind)),(.d (.str a5.fText)),(.d (.sl (List.map (rtE (z:=4)) a5.fL))),(.d (.sl (List.map D.str a5.fKeys)))])),(4,(.cells [(.d (.int .i64 (0:Int))),(.d (.int .i64 (0:Int))),.nils,.nils,.nils])),(5,(.cells [(.d (.str (rd a2.fFields y95_2).fName)),(.d (.sl (List.map D.str (rd a2.fFields y95_2).fAliases))),(.d (.int .i64 (rd a2.fFields y95_2).fType)),(.d (.bool (rd a2.fFields y95_2).fHas)),(.d (.str (rd a2.fFields y95_2).fDefault))])),(6,(.cells [(.d (.int .i64 z.2.1)),(.d (.str z.2.2.1)),(.d (.sl (List.map (rtE (z:=4)) z.2.2.2.1))),(.d (.sl (List.map D.str z.2.2.2.2)))])),(7,(.tok ((List.map (rtE (z:=5)) y95_4).length * 5)))]) ?_ ?_)
     · refine .seq (.e [] ?_)
       refine .cD h95 (fun h95=>?_) fun h95=>?_
       · exact .skip ⟨(y95_1,r130.2.1,r130.2.2.1,r130.2.2.2.1,r130.2.2.2.2),h95,(inT [(5,6),(6,7),(7,5)] [])⟩
       refine .seq (.e [] ?_)
       refine .seq ?_
       obtain ⟨r153,e153,h95⟩:=bind_some h95
       refine .e [.call (F295 e153) [] 0] ?_
       rcases cc h95 with ⟨c163,h95⟩ | ⟨c163,h95⟩
       · exact .e [.br c163] ⟨((decide (r153.1 = (0:Int))),r153.2.1,r153.2.2.1,r153.2.2.2.1,r153.2.2.2.2),h95,(inT [(5,6),(6,7),(7,5)] [])⟩
       exact .e [.br c163] ⟨(false,r153.2.1,r153.2.2.1,r153.2.2.2.1,r153.2.2.2.2),h95,(inT [(5,6),(6,7),(7,5)] [])⟩
     rintro ⟨j169_1,j169_2,j169_3,j169_4,j169_5⟩ h95
     dsimp only at h95 ⊢
     unfold f373_j169 at h95
     refine .seq (.e [] ?_)
     refine .cD h95 (fun h95=>?_) fun h95=>?_
     · refine .skip (.e [] ?_)
       exact ⟨(_,_,_,_),h95,(inT [(5,7)] [])⟩
     refine .seq (.e [] ?_)
     refine .seq ?_
     obtain ⟨r187,e187,h95⟩:=bind_some h95
     refine .e [.call (hrc369 _ _ _ _ _ _ e187) [] 1] ?_
     obtain ⟨b199,h95⟩:=gd_some h95
     refine .e [.apA (rtE (z:=5)) y95_4 ([(RT.of TValue.ok (TValue.mk r187.2.1 r187.2.2.1 r187.2.2.2.1 r187.2.2.2.2.1 r187.2.2.2.2.2.1))]:List (RT 5)) 5 rtE_ok.len b199] (.e [] ?_)
     exact ⟨(r187.1,(IntKind.i64.wrap (y95_2 + (1:Int))),r187.2.2.2.2.2.2,(y95_4 ++ ([(RT.of TValue.ok (TValue.mk r187.2.1 r187.2.2.1 r187.2.2.2.1 r187.2.2.2.2.1 r187.2.2.2.2.2.1))]:List (RT 5)))),h95,(inT [(5,9)] [])⟩
   refine .e [.ln TField.enc a2.fFields,.br c106] (.cF rfl ?_)
   cases h95
   dsimp only at h
   refine .exit (inBlk_eq ?_)
   exact ⟨(_,_,_),h,(inT [(1,2),(2,4),(3,5)] [])⟩
 rintro ⟨j208_1,j208_2,j208_3⟩ h
 dsimp only at h ⊢
 unfold f373_j208 at h
 refine .seq (.e [] ?_)
 cases h
 exact .ret (rq [(1,2)] [])
def f369_j543 (k:Nat) (j543_1:Bool) (j543_2:Int) (j543_3:Int) (j543_4:(List UInt8)) (j543_5:(List (RT 5))) (j543_6:(List (List UInt8))) (j543_7:Int):Option (Bool×Int×Int×(List UInt8)×(List (RT 5))×(List (List UInt8))×Int):=cond (!j543_1) (some (false,(0:Int),(0:Int),([]:List UInt8),([]:List (RT 5)),([]:List (List UInt8)),j543_7)) (some (true,j543_2,j543_3,j543_4,j543_5,j543_6,j543_7))
def f369_j116 (k:Nat) (a3:TJson) (a0:(List TNode)) (a2:Int) (a1:Int) (j116_1:Bool):Option (Bool×Int×Int×(List UInt8)×(List (RT 5))×(List (List UInt8))×Int):=cond (decide (a3.fKind = (3:Int))) (f369_j543 k j116_1 ((rd a0 a2).fKind) (1:Int) ([]:List UInt8) ([]:List (RT 5)) ([]:List (List UInt8)) (IntKind.i64.wrap (a1 + (1:Int)))) (f369_j543 k j116_1 ((rd a0 a2).fKind) (0:Int) ([]:List UInt8) ([]:List (RT 5)) ([]:List (List UInt8)) (IntKind.i64.wrap (a1 + (1:Int))))
def f369_j161 (k:Nat) (a0:(List TNode)) (a2:Int) (a1:Int) (j161_1:Bool) (j161_2:Int):Option (Bool×Int×Int×(List UInt8)×(List (RT 5))×(List (List UInt8))×Int):=cond j161_1 (cond (decide ((rd a0 a2).fKind = (4:Int))) (f369_j543 k true ((rd a0 a2).fKind) j161_2 ([]:List UInt8) ([]:List (RT 5)) ([]:List (List UInt8)) (IntKind.i64.wrap (a1 + (1:Int)))) (cond (decide (j161_2 ≥ (-2147483648:Int))) (f369_j543 k (decide (j161_2 < (2147483648:Int))) ((rd a0 a2).fKind) j161_2 ([]:List UInt8) ([]:List (RT 5)) ([]:List (List UInt8)) (IntKind.i64.wrap (a1 + (1:Int)))) (f369_j543 k false ((rd a0 a2).fKind) j161_2 ([]:List UInt8) ([]:List (RT 5)) ([]:List (List UInt8)) (IntKind.i64.wrap (a1 + (1:Int)))))) (f369_j543 k false ((rd a0 a2).fKind) j161_2 ([]:List UInt8) ([]:List (RT 5)) ([]:List (List UInt8)) (IntKind.i64.wrap (a1 + (1:Int))))
def f369_j263 (k:Nat) (a0:(List TNode)) (a2:Int) (a1:Int) (j263_1:Bool) (j263_2:(List UInt8)):Option (Bool×Int×Int×(List UInt8)×(List (RT 5))×(List (List UInt8))×Int):=cond j263_1 (cond (decide ((rd a0 a2).fKind = (7:Int))) (f369_j543 k true ((rd a0 a2).fKind) (0:Int) j263_2 ([]:List (RT 5)) ([]:List (List UInt8)) (IntKind.i64.wrap (a1 + (1:Int)))) (f369_j543 k (decide (((j263_2.length:Nat):Int) = (rd a0 a2).fSize)) ((rd a0 a2).fKind) (0:Int) j263_2 ([]:List (RT 5)) ([]:List (List UInt8)) (IntKind.i64.wrap (a1 + (1:Int))))) (f369_j543 k false ((rd a0 a2).fKind) (0:Int) j263_2 ([]:List (RT 5)) ([]:List (List UInt8)) (IntKind.i64.wrap (a1 + (1:Int))))
def f369_j343 (L:Bool→Int→Int→Option (LR2 (Bool×Int) Unit (Bool×Int×Int×(List UInt8)×(List (RT 5))×(List (List UInt8))×Int))) (k:Nat) (y307_2:Int) (y307_1:Bool) (y307_3:Int) (j343_1:Bool):Option (LR2 (Bool×Int) Unit (Bool×Int×Int×(List UInt8)×(List (RT 5))×(List (List UInt8))×Int)):=cond j343_1 (L true (IntKind.i64.wrap (y307_2 + (1:Int))) y307_2) (L y307_1 (IntKind.i64.wrap (y307_2 + (1:Int))) y307_3)
def f369_l307 (a0:(List TNode)) (a2:Int) (a3:TJson):Nat→Bool→Int→Int→Option (LR2 (Bool×Int) Unit (Bool×Int×Int×(List UInt8)×(List (RT 5))×(List (List UInt8))×Int))
  | 0,_,_,_=>none
  | k + 1,y307_1,y307_2,y307_3=>cond (decide (y307_2 < ((((rd a0 a2).fSymbols).length:Nat):Int))) (cond (decide (a3.fKind = (5:Int))) (gd (0≤y307_2∧y307_2 < ((((rd a0 a2).fSymbols).length:Nat):Int)) (cond (decide ((rd ((rd a0 a2).fSymbols) y307_2) = a3.fText)) (f369_j343 (f369_l307 a0 a2 a3 k) k y307_2 y307_1 y307_3 (!y307_1)) (f369_j343 (f369_l307 a0 a2 a3 k) k y307_2 y307_1 y307_3 false))) (f369_j343 (f369_l307 a0 a2 a3 k) k y307_2 y307_1 y307_3 false)) (some (.b0 (y307_1,y307_3)))
def f369_l395 (a3:TJson) (rc369:Y369) (a0:(List TNode)) (a2:Int) (a4:Int):Nat→Bool→Int→Int→(List (RT 5))→(List (List UInt8))→Option (LR2 (Bool×(List (RT 5))×(List (List UInt8))×Int) Unit (Bool×Int×Int×(List UInt8)×(List (RT 5))×(List (List UInt8))×Int))
  | 0,_,_,_,_,_=>none
  | k + 1,y395_1,y395_2,y395_3,y395_4,y395_5=>cond (decide (y395_2 < ((a3.fL.length:Nat):Int))) (cond y395_1 (gd (0≤y395_2∧y395_2 < ((a3.fL.length:Nat):Int)) ((TJson.dec (rtE (rd a3.fL y395_2))).bind fun rx427=>(rc369 a0 y395_3 ((rd a0 a2).fItems) rx427 (IntKind.i64.wrap (a4 + (1:Int)))).bind fun r431=>gd ((y395_4.length + ([(RT.of TValue.ok (TValue.mk r431.2.1 r431.2.2.1 r431.2.2.2.1 r431.2.2.2.2.1 r431.2.2.2.2.2.1))]:List (RT 5)).length) * 2 * 88≤281474976710656) (cond (decide ((rd a0 a2).fKind = (12:Int))) (gd (0≤y395_2∧y395_2 < ((a3.fKeys.length:Nat):Int)) (gd ((y395_5.length + ([(rd a3.fKeys y395_2)]:List (List UInt8)).length) * 2 * 16≤281474976710656) (f369_l395 a3 rc369 a0 a2 a4 k r431.1 (IntKind.i64.wrap (y395_2 + (1:Int))) r431.2.2.2.2.2.2 (y395_4 ++ ([(RT.of TValue.ok (TValue.mk r431.2.1 r431.2.2.1 r431.2.2.2.1 r431.2.2.2.2.1 r431.2.2.2.2.2.1))]:List (RT 5))) (y395_5 ++ ([(rd a3.fKeys y395_2)]:List (List UInt8)))))) (f369_l395 a3 rc369 a0 a2 a4 k r431.1 (IntKind.i64.wrap (y395_2 + (1:Int))) r431.2.2.2.2.2.2 (y395_4 ++ ([(RT.of TValue.ok (TValue.mk r431.2.1 r431.2.2.1 r431.2.2.2.1 r431.2.2.2.2.1 r431.2.2.2.2.2.1))]:List (RT 5))) y395_5)))) (some (.b0 (y395_1,y395_4,y395_5,y395_3)))) (some (.b0 (y395_1,y395_4,y395_5,y395_3)))
def f369_j391 (k:Nat) (a3:TJson) (rc369:Y369) (a0:(List TNode)) (a2:Int) (a4:Int) (a1:Int) (j391_1:Bool):Option (Bool×Int×Int×(List UInt8)×(List (RT 5))×(List (List UInt8))×Int):=(f369_l395 a3 rc369 a0 a2 a4 k j391_1 (0:Int) (IntKind.i64.wrap (a1 + (1:Int))) ([]:List (RT 5)) ([]:List (List UInt8))).bind fun o395=>(match o395 with | .b0 (x395_1,x395_2,x395_3,x395_4)=>f369_j543 k x395_1 ((rd a0 a2).fKind) (0:Int) ([]:List UInt8) x395_2 x395_3 x395_4 | _=>none)
def f369_j368 (k:Nat) (a0:(List TNode)) (a2:Int) (a3:TJson) (rc369:Y369) (a4:Int) (a1:Int) (j368_1:Bool):Option (Bool×Int×Int×(List UInt8)×(List (RT 5))×(List (List UInt8))×Int):=cond j368_1 (cond (decide ((rd a0 a2).fKind = (11:Int))) (cond (decide (a3.fKind = (6:Int))) (f369_j391 k a3 rc369 a0 a2 a4 a1 true) (cond (decide ((rd a0 a2).fKind = (12:Int))) (f369_j391 k a3 rc369 a0 a2 a4 a1 (decide (a3.fKind = (7:Int)))) (f369_j391 k a3 rc369 a0 a2 a4 a1 false))) (cond (decide ((rd a0 a2).fKind = (12:Int))) (f369_j391 k a3 rc369 a0 a2 a4 a1 (decide (a3.fKind = (7:Int)))) (f369_j391 k a3 rc369 a0 a2 a4 a1 false))) (cond (decide ((rd a0 a2).fKind = (9:Int))) ((f373 rc369 k a0 (IntKind.i64.wrap (a1 + (1:Int))) (rd a0 a2) ((rd a0 a2).fKind) (0:Int) a3 a4 (decide (a3.fKind = (7:Int)))).bind fun r494=>f369_j543 k r494.1 ((rd a0 a2).fKind) (0:Int) ([]:List UInt8) r494.2.1 ([]:List (List UInt8)) r494.2.2) (cond (decide ((rd a0 a2).fKind = (13:Int))) (cond (decide (((((rd a0 a2).fBranches).length:Nat):Int) > (0:Int))) (gd (0≤(0:Int)∧(0:Int) < ((((rd a0 a2).fBranches).length:Nat):Int)) ((rc369 a0 (IntKind.i64.wrap (a1 + (1:Int))) (rd ((rd a0 a2).fBranches) (0:Int)) a3 (IntKind.i64.wrap (a4 + (1:Int)))).bind fun r529=>f369_j543 k r529.1 ((rd a0 a2).fKind) (0:Int) ([]:List UInt8) ([(RT.of TValue.ok (TValue.mk r529.2.1 r529.2.2.1 r529.2.2.2.1 r529.2.2.2.2.1 r529.2.2.2.2.2.1))]:List (RT 5)) ([]:List (List UInt8)) r529.2.2.2.2.2.2)) (f369_j543 k false ((rd a0 a2).fKind) (0:Int) ([]:List UInt8) ([]:List (RT 5)) ([]:List (List UInt8)) (IntKind.i64.wrap (a1 + (1:Int))))) (f369_j543 k false ((rd a0 a2).fKind) (0:Int) ([]:List UInt8) ([]:List (RT 5)) ([]:List (List UInt8)) (IntKind.i64.wrap (a1 + (1:Int))))))
def f369_j242 (k:Nat) (a3:TJson) (a0:(List TNode)) (a2:Int) (a1:Int) (rc369:Y369) (a4:Int) (j242_1:Bool):Option (Bool×Int×Int×(List UInt8)×(List (RT 5))×(List (List UInt8))×Int):=cond j242_1 (cond (decide (a3.fKind = (5:Int))) ((f372 k a3.fText).bind fun r255=>f369_j263 k a0 a2 a1 r255.2 r255.1) (f369_j263 k a0 a2 a1 false ([]:List UInt8))) (cond (decide ((rd a0 a2).fKind = (8:Int))) (f369_j543 k (decide (a3.fKind = (5:Int))) ((rd a0 a2).fKind) (0:Int) a3.fText ([]:List (RT 5)) ([]:List (List UInt8)) (IntKind.i64.wrap (a1 + (1:Int)))) (cond (decide ((rd a0 a2).fKind = (10:Int))) ((f369_l307 a0 a2 a3 k false (0:Int) (0:Int)).bind fun o307=>(match o307 with | .b0 (x307_1,x307_2)=>f369_j543 k x307_1 ((rd a0 a2).fKind) x307_2 ([]:List UInt8) ([]:List (RT 5)) ([]:List (List UInt8)) (IntKind.i64.wrap (a1 + (1:Int))) | _=>none)) (cond (decide ((rd a0 a2).fKind = (11:Int))) (f369_j368 k a0 a2 a3 rc369 a4 a1 (decide ((rd a0 a2).fKind = (11:Int)))) (f369_j368 k a0 a2 a3 rc369 a4 a1 (decide ((rd a0 a2).fKind = (12:Int)))))))
def f369_j140 (k:Nat) (a3:TJson) (a0:(List TNode)) (a2:Int) (a1:Int) (rc369:Y369) (a4:Int) (j140_1:Bool):Option (Bool×Int×Int×(List UInt8)×(List (RT 5))×(List (List UInt8))×Int):=cond j140_1 (cond (decide (a3.fKind = (4:Int))) ((f370 k a3.fText).bind fun r153=>f369_j161 k a0 a2 a1 r153.2 r153.1) (f369_j161 k a0 a2 a1 false (0:Int))) (cond (decide ((rd a0 a2).fKind = (5:Int))) (cond (decide (a3.fKind = (5:Int))) ((f371 k a3.fText (4:Int)).bind fun r197=>f369_j543 k r197.2 ((rd a0 a2).fKind) (0:Int) r197.1 ([]:List (RT 5)) ([]:List (List UInt8)) (IntKind.i64.wrap (a1 + (1:Int)))) (f369_j543 k false ((rd a0 a2).fKind) (0:Int) ([]:List UInt8) ([]:List (RT 5)) ([]:List (List UInt8)) (IntKind.i64.wrap (a1 + (1:Int))))) (cond (decide ((rd a0 a2).fKind = (6:Int))) (cond (decide (a3.fKind = (5:Int))) ((f371 k a3.fText (8:Int)).bind fun r222=>f369_j543 k r222.2 ((rd a0 a2).fKind) (0:Int) r222.1 ([]:List (RT 5)) ([]:List (List UInt8)) (IntKind.i64.wrap (a1 + (1:Int)))) (f369_j543 k false ((rd a0 a2).fKind) (0:Int) ([]:List UInt8) ([]:List (RT 5)) ([]:List (List UInt8)) (IntKind.i64.wrap (a1 + (1:Int))))) (cond (decide ((rd a0 a2).fKind = (7:Int))) (f369_j242 k a3 a0 a2 a1 rc369 a4 (decide ((rd a0 a2).fKind = (7:Int)))) (f369_j242 k a3 a0 a2 a1 rc369 a4 (decide ((rd a0 a2).fKind = (14:Int)))))))
def f369_j45 (k:Nat) (a1:Int) (a2:Int) (a0:(List TNode)) (a3:TJson) (rc369:Y369) (a4:Int) (j45_1:Bool):Option (Bool×Int×Int×(List UInt8)×(List (RT 5))×(List (List UInt8))×Int):=cond j45_1 (some (false,(0:Int),(0:Int),([]:List UInt8),([]:List (RT 5)),([]:List (List UInt8)),(IntKind.i64.wrap (a1 + (1:Int))))) (gd (0≤a2∧a2 < ((a0.length:Nat):Int)) (cond (decide ((rd a0 a2).fKind = (1:Int))) (f369_j543 k (decide (a3.fKind = (1:Int))) ((rd a0 a2).fKind) (0:Int) ([]:List UInt8) ([]:List (RT 5)) ([]:List (List UInt8)) (IntKind.i64.wrap (a1 + (1:Int)))) (cond (decide ((rd a0 a2).fKind = (2:Int))) (cond (decide (a3.fKind = (2:Int))) (f369_j116 k a3 a0 a2 a1 true) (f369_j116 k a3 a0 a2 a1 (decide (a3.fKind = (3:Int))))) (cond (decide ((rd a0 a2).fKind = (3:Int))) (f369_j140 k a3 a0 a2 a1 rc369 a4 (decide ((rd a0 a2).fKind = (3:Int)))) (f369_j140 k a3 a0 a2 a1 rc369 a4 (decide ((rd a0 a2).fKind = (4:Int))))))))
def f369_s (rc369:Y369) (k:Nat) (a0:(List TNode)) (a1:Int) (a2:Int) (a3:TJson) (a4:Int):Option (Bool×Int×Int×(List UInt8)×(List (RT 5))×(List (List UInt8))×Int):=cond (decide (a2 < (0:Int))) (f369_j45 k a1 a2 a0 a3 rc369 a4 true) (cond (decide (a2 ≥ ((a0.length:Nat):Int))) (f369_j45 k a1 a2 a0 a3 rc369 a4 true) (cond (decide (a4 > (64:Int))) (f369_j45 k a1 a2 a0 a3 rc369 a4 true) (f369_j45 k a1 a2 a0 a3 rc369 a4 (decide ((IntKind.i64.wrap (a1 + (1:Int))) > (10000:Int))))))
theorem F369_s {rc369:Y369} (hrc369:RH369 rc369) {k:Nat} {a0:(List TNode)} {a1:Int} {a2:Int} {a3:TJson} {a4:Int} {r:(Bool×Int×Int×(List UInt8)×(List (RT 5))×(List (List UInt8))×Int)} (h:f369_s rc369 k a0 a1 a2 a3 a4 = some r) :
    ACalls Tryd.prog 55 [(.ptr 0 0),(.d (.int .i64 a2)),(.d (TJson.enc a3)),(.d (.int .i64 a4))] [(0,(.cells [(.d (.sl (List.map TNode.enc a0))),(.d (.int .i64 a1))]))] (.tup [(.d (.agg [(.int .i64 r.2.1),(.int .i64 r.2.2.1),(.sl (List.map byteD r.2.2.2.1)),(.sl (List.map (rtE (z:=5)) r.2.2.2.2.1)),(.sl (List.map D.str r.2.2.2.2.2.1))])),(.d (.bool r.1))]) [(0,(.cells [(.d (.sl (List.map TNode.enc a0))),(.d (.int .i64 r.2.2.2.2.2.2))]))]:=by
 refine acalls_ret ⟨_,Tryd.func55,by kernel_rfl,by kernel_rfl,rfl⟩ 1 1 2 [(8,(.ptr 1 0)),(9,(.d (.bool r.1)))] [(1,(.cells [(.d (.int .i64 r.2.1)),(.d (.int .i64 r.2.2.1)),(.d (.sl (List.map byteD r.2.2.2.1))),(.d (.sl (List.map (rtE (z:=5)) r.2.2.2.2.1))),(.d (.sl (List.map D.str r.2.2.2.2.2.1)))])),(0,(.cells [(.d (.sl (List.map TNode.enc a0))),(.d (.int .i64 r.2.2.2.2.2.2))]))] (doneA (.inr rfl) rfl ⟨(Nat.le_of_ble_eq_true rfl),⟨trivial,trivial⟩⟩ (.refl _) (hasCons rfl hasNil)) ?_
 unfold f369_s at h
 refine .seq (.e [] ?_)
 refine .seq (.e [] ?_)
 refine .seq (.j 3 (fun z=>f369_j45 k a1 a2 a0 a3 rc369 a4 z = some r) (fun z=>[(0,(.ptr 0 0)),(1,(.d (.int .i64 a2))),(3,(.d (.int .i64 a4))),(6,(.ptr 1 0)),(8,(.ptr 2 0)),(46,(.d (.bool z)))]) (fun z=>[(0,(.cells [(.d (.sl (List.map TNode.enc a0))),(.d (.int .i64 (IntKind.i64.wrap (a1 + (1:Int)))))])),(1,(.cells [(.d (.int .i64 a3.fKind)),(.d (.str a3.fText)),(.d (.sl (List.map (rtE (z:=4)) a3.fL))),(.d (.sl (List.map D.str a3.fKeys)))])),(2,(.cells [(.d (.int .i64 (0:Int))),(.d (.int .i64 (0:Int))),.nils,.nils,.nils]))]) ?_ ?_)
 · rcases cc h with ⟨c24,h⟩ | ⟨c24,h⟩
   · exact .e [.br c24,.br (rfl:true = true),.br (rfl:true = true)] ⟨_,h,inZ⟩
   rcases cc h with ⟨c34,h⟩ | ⟨c34,h⟩
   · exact .e [.br c24,.ln TNode.enc a0,.br c34,.br (rfl:true = true)] ⟨_,h,inZ⟩
   rcases cc h with ⟨c38,h⟩ | ⟨c38,h⟩
   · exact .e [.br c24,.ln TNode.enc a0,.br c34,.br c38] ⟨_,h,inZ⟩
   exact .e [.br c24,.ln TNode.enc a0,.br c34,.br c38] ⟨_,h,inZ⟩
 intro j45_1 h
 unfold f369_j45 at h
 refine .cB h (fun h=>?_) fun h=>?_
 · refine .seq (.e [] ?_)
   cases h
   exact .ret (rq [(1,2)] [])
 refine .skip (.seq ?_)
 obtain ⟨b63,h⟩:=gd_some h
 refine .e [.iad TNode.enc a0 10 (fun _=>rfl) b63] (.seq ?_)
 refine .e [.raw] (.seq ?_)
 refine .e [] (.j 3 (fun (z:(Bool×Int×Int×(List UInt8)×(List (RT 5))×(List (List UInt8))×Int))=>f369_j543 k z.1 z.2.1 z.2.2.1 z.2.2.2.1 z.2.2.2.2.1 z.2.2.2.2.2.1 z.2.2.2.2.2.2 = some r) (fun z=>[(8,(.ptr 1 0)),(11,(.ptr 2 0)),(12,(.d (.bool z.1)))]) (fun z=>[(1,(.cells [(.d (.int .i64 (0:Int))),(.d (.int .i64 (0:Int))),.nils,.nils,.nils])),(2,(.cells [(.d (.int .i64 z.2.1)),(.d (.int .i64 z.2.2.1)),(.d (.sl (List.map byteD z.2.2.2.1))),(.d (.sl (List.map (rtE (z:=5)) z.2.2.2.2.1))),(.d (.sl (List.map D.str z.2.2.2.2.2.1)))])),(0,(.cells [(.d (.sl (List.map TNode.enc a0))),(.d (.int .i64 z.2.2.2.2.2.2))]))]) ?_ ?_)
 · refine .seq (.e [] ?_)
   refine .block (.seq ?_)
   refine .e [] (.cB h (fun h=>?_) fun h=>?_)
   · exact .e [] ⟨(_,_,_,_,_,_,_),h,(inT [(1,2),(2,4)] [])⟩
   refine .seq (.e [] ?_)
   refine .cB h (fun h=>?_) fun h=>?_
   · refine .j 4 (fun z=>f369_j116 k a3 a0 a2 a1 z = some r) (fun z=>[(6,(.ptr 1 0)),(8,(.ptr 2 0)),(11,(.ptr 3 0)),(12,(.d (.bool z)))]) (fun z=>[(1,(.cells [(.d (.int .i64 a3.fKind)),(.d (.str a3.fText)),(.d (.sl (List.map (rtE (z:=4)) a3.fL))),(.d (.sl (List.map D.str a3.fKeys)))])),(2,(.cells [(.d (.int .i64 (0:Int))),(.d (.int .i64 (0:Int))),.nils,.nils,.nils])),(3,(.cells [(.d (.int .i64 (rd a0 a2).fKind)),(.d (.int .i64 (0:Int))),.nils,.nils,.nils])),(0,(.cells [(.d (.sl (List.map TNode.enc a0))),(.d (.int .i64 (IntKind.i64.wrap (a1 + (1:Int)))))]))]) ?_ ?_
     · rcases cc h with ⟨c110,h⟩ | ⟨c110,h⟩
       · exact .e [.br c110] ⟨_,h,(inT [(3,4)] [])⟩
       exact .e [.br c110] ⟨_,h,(inT [(3,4)] [])⟩
     intro j116_1 h
     unfold f369_j116 at h
     refine .seq (.e [] ?_)
     refine .cB h (fun h=>?_) fun h=>?_
     · exact .e [] ⟨(_,_,_,_,_,_,_),h,(inT [(1,2),(2,3)] [])⟩
     exact .skip ⟨(_,_,_,_,_,_,_),h,(inT [(1,2),(2,3)] [])⟩
   refine .j 5 (fun z=>f369_j140 k a3 a0 a2 a1 rc369 a4 z = some r) (fun z=>[(0,(.ptr 0 0)),(3,(.d (.int .i64 a4))),(6,(.ptr 1 0)),(8,(.ptr 2 0)),(10,(.ptr 3 0)),(11,(.ptr 4 0)),(12,(.d (.bool false))),(60,(.d (.int .i64 (rd a0 a2).fKind))),(80,(.d (.bool z)))]) (fun z=>[(0,(.cells [(.d (.sl (List.map TNode.enc a0))),(.d (.int .i64 (IntKind.i64.wrap (a1 + (1:Int)))))])),(1,(.cells [(.d (.int .i64 a3.fKind)),(.d (.str a3.fText)),(.d (.sl (List.map (rtE (z:=4)) a3.fL))),(.d (.sl (List.map D.str a3.fKeys)))])),(2,(.cells [(.d (.int .i64 (0:Int))),(.d (.int .i64 (0:Int))),.nils,.nils,.nils])),(3,(.cells [(.d (.int .i64 (rd a0 a2).fKind)),(.d (.str (rd a0 a2).fName)),(.d (.sl (List.map D.str (rd a0 a2).fAliases))),(.d (.sl (List.map TField.enc (rd a0 a2).fFields))),(.d (.sl (List.map D.str (rd a0 a2).fSymbols))),(.d (.bool (rd a0 a2).fHas)),(.d (.str (rd a0 a2).fDefault)),(.d (.int .i64 (rd a0 a2).fItems)),(.d (.sl (List.map (D.int .i64) (rd a0 a2).fBranches))),(.d (.int .i64 (rd a0 a2).fSize))])),(4,(.cells [(.d (.int .i64 (rd a0 a2).fKind)),(.d (.int .i64 (0:Int))),.nils,.nils,.nils]))]) ?_ ?_
   · refine .seq (.e [] ?_)
     refine .cB h (fun h=>?_) fun h=>?_
     · exact .skip ⟨_,h,inZ⟩
     exact .e [] ⟨_,h,inZ⟩
   intro j140_1 h
   unfold f369_j140 at h
   refine .cB h (fun h=>?_) fun h=>?_
   · refine .j 4 (fun (z:(Bool×Int))=>f369_j161 k a0 a2 a1 z.1 z.2 = some r) (fun z=>[(8,(.ptr 1 0)),(10,(.ptr 2 0)),(11,(.ptr 3 0)),(12,(.d (.bool z.1)))]) (fun z=>[(1,(.cells [(.d (.int .i64 (0:Int))),(.d (.int .i64 (0:Int))),.nils,.nils,.nils])),(2,(.cells [(.d (.int .i64 (rd a0 a2).fKind)),(.d (.str (rd a0 a2).fName)),(.d (.sl (List.map D.str (rd a0 a2).fAliases))),(.d (.sl (List.map TField.enc (rd a0 a2).fFields))),(.d (.sl (List.map D.str (rd a0 a2).fSymbols))),(.d (.bool (rd a0 a2).fHas)),(.d (.str (rd a0 a2).fDefault)),(.d (.int .i64 (rd a0 a2).fItems)),(.d (.sl (List.map (D.int .i64) (rd a0 a2).fBranches))),(.d (.int .i64 (rd a0 a2).fSize))])),(3,(.cells [(.d (.int .i64 (rd a0 a2).fKind)),(.d (.int .i64 z.2)),.nils,.nils,.nils])),(0,(.cells [(.d (.sl (List.map TNode.enc a0))),(.d (.int .i64 (IntKind.i64.wrap (a1 + (1:Int)))))]))]) ?_ ?_
     · refine .seq (.e [] ?_)
       refine .cD h (fun h=>?_) fun h=>?_
       · exact .skip ⟨(_,_),h,(inT [(1,2),(2,3),(3,4)] [])⟩
       obtain ⟨r153,e153,h⟩:=bind_some h
       exact .e [.call (F370 e153) [] 0] ⟨(r153.2,r153.1),h,(inT [(1,2),(2,3),(3,4)] [])⟩
     rintro ⟨j161_1,j161_2⟩ h
     dsimp only at h ⊢
     unfold f369_j161 at h
     rcases cc h with ⟨c164,h⟩ | ⟨c164,h⟩
     · rcases cc h with ⟨c168,h⟩ | ⟨c168,h⟩
       · exact .e [.br c164,.br c168] ⟨(_,_,_,_,_,_,_),h,(inT [(2,3)] [])⟩
       rcases cc h with ⟨c172,h⟩ | ⟨c172,h⟩
       · exact .e [.br c164,.br c168,.br c172] ⟨(_,_,_,_,_,_,_),h,(inT [(2,3)] [])⟩
       exact .e [.br c164,.br c168,.br c172] ⟨(_,_,_,_,_,_,_),h,(inT [(2,3)] [])⟩
     exact .e [.br c164] ⟨(_,_,_,_,_,_,_),h,(inT [(2,3)] [])⟩
   refine .seq (.e [] ?_)
   refine .cB h (fun h=>?_) fun h=>?_
   · refine .seq (.e [] ?_)
     refine .cD h (fun h=>?_) fun h=>?_
     · exact .skip ⟨(_,_,_,_,_,_,_),h,(inT [(1,2),(2,4)] [])⟩
     obtain ⟨r197,e197,h⟩:=bind_some h
     exact .e [.call (F371 e197) [] 0] ⟨(r197.2,(rd a0 a2).fKind,(0:Int),r197.1,([]:List (RT 5)),([]:List (List UInt8)),(IntKind.i64.wrap (a1 + (1:Int)))),h,(inT [(1,2),(2,4)] [])⟩
   refine .seq (.e [] ?_)
   refine .cB h (fun h=>?_) fun h=>?_
   · refine .seq (.e [] ?_)
     refine .cD h (fun h=>?_) fun h=>?_
     · exact .skip ⟨(_,_,_,_,_,_,_),h,(inT [(1,2),(2,4)] [])⟩
     obtain ⟨r222,e222,h⟩:=bind_some h
     exact .e [.call (F371 e222) [] 0] ⟨(r222.2,(rd a0 a2).fKind,(0:Int),r222.1,([]:List (RT 5)),([]:List (List UInt8)),(IntKind.i64.wrap (a1 + (1:Int)))),h,(inT [(1,2),(2,4)] [])⟩
   refine .j 5 (fun z=>f369_j242 k a3 a0 a2 a1 rc369 a4 z = some r) (fun z=>[(0,(.ptr 0 0)),(3,(.d (.int .i64 a4))),(6,(.ptr 1 0)),(8,(.ptr 2 0)),(10,(.ptr 3 0)),(11,(.ptr 4 0)),(12,(.d (.bool false))),(60,(.d (.int .i64 (rd a0 a2).fKind))),(133,(.d (.bool z)))]) (fun z=>[(0,(.cells [(.d (.sl (List.map TNode.enc a0))),(.d (.int .i64 (IntKind.i64.wrap (a1 + (1:Int)))))])),(1,(.cells [(.d (.int .i64 a3.fKind)),(.d (.str a3.fText)),(.d (.sl (List.map (rtE (z:=4)) a3.fL))),(.d (.sl (List.map D.str a3.fKeys)))])),(2,(.cells [(.d (.int .i64 (0:Int))),(.d (.int .i64 (0:Int))),.nils,.nils,.nils])),(3,(.cells [(.d (.int .i64 (rd a0 a2).fKind)),(.d (.str (rd a0 a2).fName)),(.d (.sl (List.map D.str (rd a0 a2).fAliases))),(.d (.sl (List.map TField.enc (rd a0 a2).fFields))),(.d (.sl (List.map D.str (rd a0 a2).fSymbols))),(.d (.bool (rd a0 a2).fHas)),(.d (.str (rd a0 a2).fDefault)),(.d (.int .i64 (rd a0 a2).fItems)),(.d (.sl (List.map (D.int .i64) (rd a0 a2).fBranches))),(.d (.int .i64 (rd a0 a2).fSize))])),(4,(.cells [(.d (.int .i64 (rd a0 a2).fKind)),(.d (.int .i64 (0:Int))),.nils,.nils,.nils]))]) ?_ ?_
   · refine .seq (.e [] ?_)
     refine .cB h (fun h=>?_) fun h=>?_
     · exact .skip ⟨_,h,inZ⟩
     exact .e [] ⟨_,h,inZ⟩
   intro j242_1 h
   unfold f369_j242 at h
   refine .cB h (fun h=>?_) fun h=>?_
   · refine .j 5 (fun (z:(Bool×(List UInt8)))=>f369_j263 k a0 a2 a1 z.1 z.2 = some r) (fun z=>[(8,(.ptr 1 0)),(10,(.ptr 2 0)),(11,(.ptr 3 0)),(12,(.d (.bool z.1)))]) (fun z=>[(1,(.cells [(.d (.int .i64 (0:Int))),(.d (.int .i64 (0:Int))),.nils,.nils,.nils])),(2,(.cells [(.d (.int .i64 (rd a0 a2).fKind)),(.d (.str (rd a0 a2).fName)),(.d (.sl (List.map D.str (rd a0 a2).fAliases))),(.d (.sl (List.map TField.enc (rd a0 a2).fFields))),(.d (.sl (List.map D.str (rd a0 a2).fSymbols))),(.d (.bool (rd a0 a2).fHas)),(.d (.str (rd a0 a2).fDefault)),(.d (.int .i64 (rd a0 a2).fItems)),(.d (.sl (List.map (D.int .i64) (rd a0 a2).fBranches))),(.d (.int .i64 (rd a0 a2).fSize))])),(3,(.cells [(.d (.int .i64 (rd a0 a2).fKind)),(.d (.int .i64 (0:Int))),(.ap 4 1 (List.map byteD z.2)),.nils,.nils])),(0,(.cells [(.d (.sl (List.map TNode.enc a0))),(.d (.int .i64 (IntKind.i64.wrap (a1 + (1:Int)))))])),(4,(.tok ((List.map byteD z.2).length * 1)))]) ?_ ?_
     · refine .seq (.e [] ?_)
       refine .cD h (fun h=>?_) fun h=>?_
       · exact .skip ⟨(_,_),h,(inT [(1,2),(2,3),(3,4),(4,5)] [.tok 0])⟩
       obtain ⟨r255,e255,h⟩:=bind_some h
       exact .e [.call (F372 e255) [(0,5)] 1] ⟨(r255.2,r255.1),h,(inT [(1,2),(2,3),(3,4),(4,5)] [])⟩
     rintro ⟨j263_1,j263_2⟩ h
     dsimp only at h ⊢
     unfold f369_j263 at h
     rcases cc h with ⟨c266,h⟩ | ⟨c266,h⟩
     · rcases cc h with ⟨c270,h⟩ | ⟨c270,h⟩
       · exact .e [.br c266,.br c270] ⟨(_,_,_,_,_,_,_),h,(inT [(2,3)] [])⟩
       exact .e [.br c266,.br c270,.ln byteD j263_2] ⟨(_,_,_,_,_,_,_),h,(inT [(2,3)] [])⟩
     exact .e [.br c266] ⟨(_,_,_,_,_,_,_),h,(inT [(2,3)] [])⟩
   refine .seq (.e [] ?_)
   refine .cB h (fun h=>?_) fun h=>?_
   · exact .e [] ⟨(_,_,_,_,_,_,_),h,(inT [(1,2),(2,4)] [])⟩
   refine .seq (.e [] ?_)
   refine .cB h (fun h=>?_) fun h=>?_
   · refine .seq (.e [] ?_)
     obtain ⟨o307,h307,h⟩:=bind_some h
     refine .block (.lp 5 (fun k (x:(Bool×Int×Int))=>f369_l307 a0 a2 a3 k x.1 x.2.1 x.2.2 = some o307) (fun x=>[(6,(.ptr 1 0)),(8,(.ptr 2 0)),(10,(.ptr 3 0)),(11,(.ptr 4 0)),(12,(.d (.bool x.1))),(13,(.d (.int .i64 x.2.1)))]) (fun x=>[(1,(.cells [(.d (.int .i64 a3.fKind)),(.d (.str a3.fText)),(.d (.sl (List.map (rtE (z:=4)) a3.fL))),(.d (.sl (List.map D.str a3.fKeys)))])),(2,(.cells [(.d (.int .i64 (0:Int))),(.d (.int .i64 (0:Int))),.nils,.nils,.nils])),(3,(.cells [(.d (.int .i64 (rd a0 a2).fKind)),(.d (.str (rd a0 a2).fName)),(.d (.sl (List.map D.str (rd a0 a2).fAliases))),(.d (.sl (List.map TField.enc (rd a0 a2).fFields))),(.d (.sl (List.map D.str (rd a0 a2).fSymbols))),(.d (.bool (rd a0 a2).fHas)),(.d (.str (rd a0 a2).fDefault)),(.d (.int .i64 (rd a0 a2).fItems)),(.d (.sl (List.map (D.int .i64) (rd a0 a2).fBranches))),(.d (.int .i64 (rd a0 a2).fSize))])),(4,(.cells [(.d (.int .i64 (rd a0 a2).fKind)),(.d (.int .i64 x.2.2)),.nils,.nils,.nils])),(0,(.cells [(.d (.sl (List.map TNode.enc a0))),(.d (.int .i64 (IntKind.i64.wrap (a1 + (1:Int)))))]))]) (_,_,_) h307 [] [] ?_)
     rintro k ⟨y307_1,y307_2,y307_3⟩ h307
     dsimp only at h307 ⊢
     rw [f369_l307] at h307
     refine .seq (.seq ?_)
     refine .e [.ln D.str ((rd a0 a2).fSymbols)] (.cD h307 (fun h307=>?_) fun h307=>?_)
     · cases h307
       dsimp only at h
       refine .exit (inBlk_eq ?_)
       exact ⟨(_,_,_,_,_,_,_),h,(inT [(1,2),(2,4)] [])⟩
     refine .skip (.seq ?_)
     refine .block (.j 5 (fun z=>f369_j343 (f369_l307 a0 a2 a3 k) k y307_2 y307_1 y307_3 z = some o307) (fun z=>[(6,(.ptr 1 0)),(8,(.ptr 2 0)),(10,(.ptr 3 0)),(11,(.ptr 4 0)),(12,(.d (.bool y307_1))),(13,(.d (.int .i64 y307_2))),(182,.any),(183,.any),(184,.any),(185,.any),(186,.any),(187,.any),(188,.any),(189,.any),(192,.any),(193,.any),(194,(.d (.bool z)))]) (fun z=>[(1,(.cells [(.d (.int .i64 a3.fKind)),(.d (.str a3.fText)),(.d (.sl (List.map (rtE (z:=4)) a3.fL))),(.d (.sl (List.map D.str a3.fKeys)))])),(2,(.cells [(.d (.int .i64 (0:Int))),(.d (.int .i64 (0:Int))),.nils,.nils,.nils])),(3,(.cells [(.d (.int .i64 (rd a0 a2).fKind)),(.d (.str (rd a0 a2).fName)),(.d (.sl (List.map D.str (rd a0 a2).fAliases))),(.d (.sl (List.map TField.enc (rd a0 a2).fFields))),(.d (.sl (List.map D.str (rd a0 a2).fSymbols))),(.d (.bool (rd a0 a2).fHas)),(.d (.str (rd a0 a2).fDefault)),(.d (.int .i64 (rd a0 a2).fItems)),(.d (.sl (List.map (D.int .i64) (rd a0 a2).fBranches))),(.d (.int .i64 (rd a0 a2).fSize))])),(4,(.cells [(.d (.int .i64 (rd a0 a2).fKind)),(.d (.int .i64 y307_3)),.nils,.nils,.nils])),(0,(.cells [(.d (.sl (List.map TNode.enc a0))),(.d (.int .i64 (IntKind.i64.wrap (a1 + (1:Int)))))]))]) ?_ ?_)
     · rcases cc h307 with ⟨c329,h307⟩ | ⟨c329,h307⟩
       · obtain ⟨b333,h307⟩:=gd_some h307
         rcases cc h307 with ⟨c339,h307⟩ | ⟨c339,h307⟩
         · exact .e [.br c329,.iad D.str ((rd a0 a2).fSymbols) 1 (fun _=>rfl) b333,.br c339] ⟨_,h307,inZ⟩
         exact .e [.br c329,.iad D.str ((rd a0 a2).fSymbols) 1 (fun _=>rfl) b333,.br c339] ⟨_,h307,inZ⟩
       exact .e [.br c329,.br (rfl:false = false)] ⟨_,h307,inZ⟩
     intro j343_1 h307
     unfold f369_j343 at h307
     refine .cB h307 (fun h307=>?_) fun h307=>?_
     · refine .e [] (.e [] ?_)
       exact ⟨(_,_,_),h307,inZ⟩
     refine .skip (.e [] ?_)
     exact ⟨(_,_,_),h307,inZ⟩
   refine .j 5 (fun z=>f369_j368 k a0 a2 a3 rc369 a4 a1 z = some r) (fun z=>[(0,(.ptr 0 0)),(3,(.d (.int .i64 a4))),(6,(.ptr 1 0)),(8,(.ptr 2 0)),(10,(.ptr 3 0)),(11,(.ptr 4 0)),(12,(.d (.bool false))),(60,(.d (.int .i64 (rd a0 a2).fKind))),(197,(.d (.bool z)))]) (fun z=>[(0,(.cells [(.d (.sl (List.map TNode.enc a0))),(.d (.int .i64 (IntKind.i64.wrap (a1 + (1:Int)))))])),(1,(.cells [(.d (.int .i64 a3.fKind)),(.d (.str a3.fText)),(.d (.sl (List.map (rtE (z:=4)) a3.fL))),(.d (.sl (List.map D.str a3.fKeys)))])),(2,(.cells [(.d (.int .i64 (0:Int))),(.d (.int .i64 (0:Int))),.nils,.nils,.nils])),(3,(.cells [(.d (.int .i64 (rd a0 a2).fKind)),(.d (.str (rd a0 a2).fName)),(.d (.sl (List.map D.str (rd a0 a2).fAliases))),(.d (.sl (List.map TField.enc (rd a0 a2).fFields))),(.d (.sl (List.map D.str (rd a0 a2).fSymbols))),(.d (.bool (rd a0 a2).fHas)),(.d (.str (rd a0 a2).fDefault)),(.d (.int .i64 (rd a0 a2).fItems)),(.d (.sl (List.map (D.int .i64) (rd a0 a2).fBranches))),(.d (.int .i64 (rd a0 a2).fSize))])),(4,(.cells [(.d (.int .i64 (rd a0 a2).fKind)),(.d (.int .i64 (0:Int))),.nils,.nils,.nils]))]) ?_ ?_
   · refine .seq (.e [] ?_)
     refine .cB h (fun h=>?_) fun h=>?_
     · exact .skip ⟨_,h,inZ⟩
     exact .e [] ⟨_,h,inZ⟩
   intro j368_1 h
   unfold f369_j368 at h
   refine .cD h (fun h=>?_) fun h=>?_
   · refine .seq (.e [] ?_)
     refine .cB h (fun h=>?_) fun h=>?_
     · refine .seq (.e [] ?_)
       obtain ⟨r494,e494,h⟩:=bind_some h
       exact .e [.rawL 4 5,.call (F373 hrc369 e494) [] 1] ⟨(r494.1,((rd a0 a2).fKind),(0:Int),([]:List UInt8),r494.2.1,([]:List (List UInt8)),r494.2.2),h,(inT [(1,2),(2,4)] [])⟩
     refine .seq (.e [] ?_)
     refine .cD h (fun h=>?_) fun h=>?_
     · exact .skip ⟨(_,_,_,_,_,_,_),h,(inT [(1,2),(2,4)] [])⟩
     refine .seq (.e [.ln (D.int .i64) ((rd a0 a2).fBranches)] ?_)
     refine .cD h (fun h=>?_) fun h=>?_
     · exact .skip ⟨(_,_,_,_,_,_,_),h,(inT [(1,2),(2,4)] [])⟩
     refine .seq (.e [] ?_)
     refine .seq ?_
     obtain ⟨b524,h⟩:=gd_some h
     obtain ⟨r529,e529,h⟩:=bind_some h
     refine .e [.iad (D.int .i64) ((rd a0 a2).fBranches) 1 (fun _=>rfl) b524,.call (hrc369 _ _ _ _ _ _ e529) [] 1] (.e [] ?_)
     exact ⟨(r529.1,(rd a0 a2).fKind,(0:Int),([]:List UInt8),([(RT.of TValue.ok (TValue.mk r529.2.1 r529.2.2.1 r529.2.2.2.1 r529.2.2.2.2.1 r529.2.2.2.2.2.1))]:List (RT 5)),([]:List (List UInt8)),r529.2.2.2.2.2.2),h,(inT [(1,2),(2,4)] [])⟩
   refine .j 5 (fun z=>f369_j391 k a3 rc369 a0 a2 a4 a1 z = some r) (fun z=>[(0,(.ptr 0 0)),(3,(.d (.int .i64 a4))),(6,(.ptr 1 0)),(8,(.ptr 2 0)),(10,(.ptr 3 0)),(11,(.ptr 4 0)),(12,(.d (.bool z)))]) (fun z=>[(0,(.cells [(.d (.sl (List.map TNode.enc a0))),(.d (.int .i64 (IntKind.i64.wrap (a1 + (1:Int)))))])),(1,(.cells [(.d (.int .i64 a3.fKind)),(.d (.str a3.fText)),(.d (.sl (List.map (rtE (z:=4)) a3.fL))),(.d (.sl (List.map D.str a3.fKeys)))])),(2,(.cells [(.d (.int .i64 (0:Int))),(.d (.int .i64 (0:Int))),.nils,.nils,.nils])),(3,(.cells [(.d (.int .i64 (rd a0 a2).fKind)),(.d (.str (rd a0 a2).fName)),(.d (.sl (List.map D.str (rd a0 a2).fAliases))),(.d (.sl (List.map TField.enc (rd a0 a2).fFields))),(.d (.sl (List.map D.str (rd a0 a2).fSymbols))),(.d (.bool (rd a0 a2).fHas)),(.d (.str (rd a0 a2).fDefault)),(.d (.int .i64 (rd a0 a2).fItems)),(.d (.sl (List.map (D.int .i64) (rd a0 a2).fBranches))),(.d (.int .i64 (rd a0 a2).fSize))])),(4,(.cells [(.d (.int .i64 (rd a0 a2).fKind)),(.d (.int .i64 (0:Int))),.nils,.nils,.nils]))]) ?_ ?_
   · rcases cc h with ⟨c375,h⟩ | ⟨c375,h⟩
     · rcases cc h with ⟨c380,h⟩ | ⟨c380,h⟩
       · exact .e [.br c375,.br c380] ⟨_,h,inZ⟩
       rcases cc h with ⟨c384,h⟩ | ⟨c384,h⟩
       · exact .e [.br c375,.br c380,.br c384] ⟨_,h,inZ⟩
       exact .e [.br c375,.br c380,.br c384] ⟨_,h,inZ⟩
     rcases cc h with ⟨c384,h⟩ | ⟨c384,h⟩
     · exact .e [.br c375,.br (rfl:false = false),.br c384] ⟨_,h,inZ⟩
     exact .e [.br c375,.br (rfl:false = false),.br c384] ⟨_,h,inZ⟩
   intro j391_1 h
   unfold f369_j391 at h
   refine .seq (.e [] ?_)
   obtain ⟨o395,h395,h⟩:=bind_some h
   refine .block (.lp 7 (fun k (x:(Bool×Int×Int×(List (RT 5))×(List (List UInt8))))=>f369_l395 a3 rc369 a0 a2 a4 k x.1 x.2.1 x.2.2.1 x.2.2.2.1 x.2.2.2.2 = some o395) (fun x=>[(0,(.ptr 0 0)),(3,(.d (.int .i64 a4))),(6,(.ptr 1 0)),(8,(.ptr 2 0)),(10,(.ptr 3 0)),(11,(.ptr 4 0)),(12,(.d (.bool x.1))),(14,(.d (.int .i64 x.2.1)))]) (fun x=>[(0,(.cells [(.d (.sl (List.map TNode.enc a0))),(.d (.int .i64 x.2.2.1))])),(1,(.cells [(.d (.int .i64 a3.fKind)),(.d (.str a3.fText)),(.d (.sl (List.map (rtE (z:=4)) a3.fL))),(.d (.sl (List.map D.str a3.fKeys)))])),(2,(.cells [(.d (.int .i64 (0:Int))),(.d (.int .i64 (0:Int))),.nils,.nils,.nils])),(3,(.cells [(.d (.int .i64 (rd a0 a2).fKind)),(.d (.str (rd a0 a2).fName)),(.d (.sl (List.map D.str (rd a0 a2).fAliases))),(.d (.sl (List.map TField.enc (rd a0 a2).fFields))),(.d (.sl (List.map D.str (rd a0 a2).fSymbols))),(.d (.bool (rd a0 a2).fHas)),(.d (.str (rd a0 a2).fDefault)),(.d (.int .i64 (rd a0 a2).fItems)),(.d (.sl (List.map (D.int .i64) (rd a0 a2).fBranches))),(.d (.int .i64 (rd a0 a2).fSize))])),(4,(.cells [(.d (.int .i64 (rd a0 a2).fKind)),(.d (.int .i64 (0:Int))),.nils,(.ap 5 5 (List.map (rtE (z:=5)) x.2.2.2.1)),(.ap 6 1 (List.map D.str x.2.2.2.2))])),(5,(.tok ((List.map (rtE (z:=5)) x.2.2.2.1).length * 5))),(6,(.tok ((List.map D.str x.2.2.2.2).length * 1)))]) (_,_,_,_,_) h395 [(5,5),(6,6)] [.tok 0,.tok 0] ?_)
   rintro k ⟨y395_1,y395_2,y395_3,y395_4,y395_5⟩ h395
   dsimp only at h395 ⊢
   rw [f369_l395] at h395
   refine .seq (.seq ?_)
   rcases cc h395 with ⟨c406,h395⟩ | ⟨c406,h395⟩
   · refine .e [.ln (rtE (z:=4)) a3.fL,.br c406] (.cD h395 (fun h395=>?_) fun h395=>?_)
     · cases h395
       dsimp only at h
       refine .exit (inBlk_eq ?_)
       exact ⟨(_,_,_,_,_,_,_),h,(inT [(1,2),(2,4)] [])⟩
     refine .skip (.seq ?_)
     refine .block (.seq ?_)
     refine .e [] (.seq ?_)
     obtain ⟨b427,h395⟩:=gd_some h395
     obtain ⟨rx427,ex427,h395⟩:=bind_some h395
     obtain ⟨r431,e431,h395⟩:=bind_some h395
     refine .e [.iadE (rtE (z:=4)) a3.fL 4 rtE_ok.len b427 (TJson.dec_eq ex427),.call (hrc369 _ _ _ _ _ _ e431) [] 1] (.seq ?_)
     obtain ⟨b444,h395⟩:=gd_some h395
     refine .e [.apA (rtE (z:=5)) y395_4 ([(RT.of TValue.ok (TValue.mk r431.2.1 r431.2.2.1 r431.2.2.2.1 r431.2.2.2.2.1 r431.2.2.2.2.2.1))]:List (RT 5)) 5 rtE_ok.len b444] (.seq ?_)
     refine .e [] (.cD h395 (fun h395=>?_) fun h395=>?_)
     · refine .skip (.e [] ?_)
       exact ⟨(r431.1,(IntKind.i64.wrap (y395_2 + (1:Int))),r431.2.2.2.2.2.2,(y395_4 ++ ([(RT.of TValue.ok (TValue.mk r431.2.1 r431.2.2.1 r431.2.2.2.1 r431.2.2.2.2.1 r431.2.2.2.2.2.1))]:List (RT 5))),y395_5),h395,(inT [(5,8)] [])⟩
     obtain ⟨b461,h395⟩:=gd_some h395
     obtain ⟨b464,h395⟩:=gd_some h395
     refine .e [.iad D.str a3.fKeys 1 (fun _=>rfl) b461,.apA D.str y395_5 ([(rd a3.fKeys y395_2)]:List (List UInt8)) 1 (fun _=>rfl) b464] (.e [] ?_)
     exact ⟨(r431.1,(IntKind.i64.wrap (y395_2 + (1:Int))),r431.2.2.2.2.2.2,(y395_4 ++ ([(RT.of TValue.ok (TValue.mk r431.2.1 r431.2.2.1 r431.2.2.2.1 r431.2.2.2.2.1 r431.2.2.2.2.2.1))]:List (RT 5))),(y395_5 ++ ([(rd a3.fKeys y395_2)]:List (List UInt8)))),h395,(inT [(5,8),(6,9)] [])⟩
   refine .e [.ln (rtE (z:=4)) a3.fL,.br c406] (.cF rfl ?_)
   cases h395
   dsimp only at h
   refine .exit (inBlk_eq ?_)
   exact ⟨(_,_,_,_,_,_,_),h,(inT [(1,2),(2,4)] [])⟩
 rintro ⟨j543_1,j543_2,j543_3,j543_4,j543_5,j543_6,j543_7⟩ h
 dsimp only at h ⊢
 unfold f369_j543 at h
 refine .seq (.seq ?_)
 refine .e [] (.cB h (fun h=>?_) fun h=>?_)
 · refine .seq (.e [] ?_)
   cases h
   exact .ret rz
 refine .skip (.seq ?_)
 refine .e [] ?_
 cases h
 exact .ret rz
def f369:Nat→(List TNode)→Int→Int→TJson→Int→Option (Bool×Int×Int×(List UInt8)×(List (RT 5))×(List (List UInt8))×Int)
  | 0,_,_,_,_,_=>none
  | k + 1,a0,a1,a2,a3,a4=>f369_s (f369 k) k a0 a1 a2 a3 a4
theorem F369 {k:Nat} {a0:(List TNode)} {a1:Int} {a2:Int} {a3:TJson} {a4:Int} {r:(Bool×Int×Int×(List UInt8)×(List (RT 5))×(List (List UInt8))×Int)} (h:f369 k a0 a1 a2 a3 a4 = some r) :
    ACalls Tryd.prog 55 [(.ptr 0 0),(.d (.int .i64 a2)),(.d (TJson.enc a3)),(.d (.int .i64 a4))] [(0,(.cells [(.d (.sl (List.map TNode.enc a0))),(.d (.int .i64 a1))]))] (.tup [(.d (.agg [(.int .i64 r.2.1),(.int .i64 r.2.2.1),(.sl (List.map byteD r.2.2.2.1)),(.sl (List.map (rtE (z:=5)) r.2.2.2.2.1)),(.sl (List.map D.str r.2.2.2.2.2.1))])),(.d (.bool r.1))]) [(0,(.cells [(.d (.sl (List.map TNode.enc a0))),(.d (.int .i64 r.2.2.2.2.2.2))]))]:=by
  induction k generalizing a0 a1 a2 a3 a4 r with
  | zero=>exact absurd (show (none:Option _) = some r from h) (fun h2=>by cases h2)
  | succ k ih=>exact F369_s (fun _ _ _ _ _ _ h=>ih h) h
def f368 (k:Nat) (a0:TSchema) (a1:Int) (a2:TJson):Option (Bool×Int×Int×(List UInt8)×(List (RT 5))×(List (List UInt8))):=(f347 k a2).bind fun r13=>cond (!r13) (some (false,(0:Int),(0:Int),([]:List UInt8),([]:List (RT 5)),([]:List (List UInt8)))) ((f369 k a0.fNodes (0:Int) a1 a2 (1:Int)).bind fun r37=>some (r37.1,r37.2.1,r37.2.2.1,r37.2.2.2.1,r37.2.2.2.2.1,r37.2.2.2.2.2.1))
theorem F368 {k:Nat} {a0:TSchema} {a1:Int} {a2:TJson} {r:(Bool×Int×Int×(List UInt8)×(List (RT 5))×(List (List UInt8)))} (h:f368 k a0 a1 a2 = some r) :
    ACalls Tryd.prog 32 [(.d (TSchema.enc a0)),(.d (.int .i64 a1)),(.d (TJson.enc a2))] [] (.tup [(.d (.agg [(.int .i64 r.2.1),(.int .i64 r.2.2.1),(.sl (List.map byteD r.2.2.2.1)),(.sl (List.map (rtE (z:=5)) r.2.2.2.2.1)),(.sl (List.map D.str r.2.2.2.2.2))])),(.d (.bool r.1))]) []:=by
 refine acalls_ret ⟨_,Tryd.func32,by kernel_rfl,by kernel_rfl,rfl⟩ 0 0 1 [(6,(.ptr 0 0)),(7,(.d (.bool r.1)))] [(0,(.cells [(.d (.int .i64 r.2.1)),(.d (.int .i64 r.2.2.1)),(.d (.sl (List.map byteD r.2.2.2.1))),(.d (.sl (List.map (rtE (z:=5)) r.2.2.2.2.1))),(.d (.sl (List.map D.str r.2.2.2.2.2)))]))] (doneA (.inr rfl) rfl ⟨(Nat.le_of_ble_eq_true rfl),⟨trivial,trivial⟩⟩ (.refl _) hasNil) ?_
 unfold f368 at h
 refine .seq (.e [] ?_)
 refine .seq (.seq ?_)
 obtain ⟨r13,e13,h⟩:=bind_some h
 refine .e [.call (F347 e13) [] 0] (.cB h (fun h=>?_) fun h=>?_)
 · refine .seq (.e [] ?_)
   cases h
   exact .ret (rq [(0,2)] [])
 refine .skip (.seq ?_)
 refine .e [] (.seq ?_)
 obtain ⟨r37,e37,h⟩:=bind_some h
 refine .e [.call (F369 e37) [(0,3)] 1] ?_
 cases h
 exact .ret (rq [(0,2)] [])
end Go.Proofs.Abs
