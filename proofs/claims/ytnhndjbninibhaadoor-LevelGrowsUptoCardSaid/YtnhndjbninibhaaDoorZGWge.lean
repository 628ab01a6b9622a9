import Derived.Test.YtnhndjbninibhaaDoorZGWgd
set_option linter.unusedVariables false
set_option linter.unusedSimpArgs false
set_option linter.unusedSectionVars false
set_option linter.unusedVariables false
set_option linter.unusedSimpArgs false
set_option maxRecDepth 100000
set_option maxHeartbeats 4000000
namespace Go.Proofs.Abs
open Go
def f489v2_l129 (r91:((List Tcheck_pair)×Bool)) (rc489v2:Y489v2) (a0:(List TNode)) (a1:(List TNode)) (a2:(List Bool)):Nat→Int→(List Tcheck_pair)→(PM Tcheck_pair (List Tcheck_pair))→(PM Tcheck_pair Int)→Option (LR2 ((List Tcheck_pair)×(PM Tcheck_pair (List Tcheck_pair))×(PM Tcheck_pair Int)) Unit ((List Tcheck_pair)×(PM Tcheck_pair (List Tcheck_pair))×(PM Tcheck_pair Int)))
  | 0,_,_,_,_=>none
  | k + 1,y129_1,y129_2,y129_3,y129_4=>cond (decide (y129_1 < ((r91.1.length:Nat):Int))) (gd (0≤y129_1∧y129_1 < ((r91.1.length:Nat):Int)) ((rc489v2 a0 a1 a2 y129_2 y129_3 y129_4 (rd r91.1 y129_1)).bind fun r152=>f489v2_l129 r91 rc489v2 a0 a1 a2 k (IntKind.i64.wrap (y129_1 + (1:Int))) r152.1 r152.2.1 r152.2.2)) (some (.b0 (y129_2,y129_3,y129_4)))
def f489v2_j113 (k:Nat) (r91:((List Tcheck_pair)×Bool)) (rc489v2:Y489v2) (a0:(List TNode)) (a1:(List TNode)) (a2:(List Bool)) (a3:(List Tcheck_pair)) (a6:Tcheck_pair) (a4:(PM Tcheck_pair (List Tcheck_pair))) (j113_1:(PM Tcheck_pair Int)):Option ((List Tcheck_pair)×(PM Tcheck_pair (List Tcheck_pair))×(PM Tcheck_pair Int)):=(f489v2_l129 r91 rc489v2 a0 a1 a2 k (0:Int) (a3 ++ ([a6]:List Tcheck_pair)) (pput (pput a4 a6 ([]:List Tcheck_pair)) a6 r91.1) j113_1).bind fun o129=>(match o129 with | .b0 (x129_1,x129_2,x129_3)=>some (x129_1,x129_2,x129_3) | _=>none)
def f489v2_j74 (k:Nat) (a3:(List Tcheck_pair)) (a6:Tcheck_pair) (a4:(PM Tcheck_pair (List Tcheck_pair))) (a5:(PM Tcheck_pair Int)) (a0:(List TNode)) (a1:(List TNode)) (a2:(List Bool)) (rc489v2:Y489v2) (j74_1:Bool):Option ((List Tcheck_pair)×(PM Tcheck_pair (List Tcheck_pair))×(PM Tcheck_pair Int)):=cond j74_1 (some ((a3 ++ ([a6]:List Tcheck_pair)),(pput a4 a6 ([]:List Tcheck_pair)),(pput a5 a6 (1:Int)))) ((f491 k a0 a1 a2 (a3 ++ ([a6]:List Tcheck_pair)) (pput a4 a6 ([]:List Tcheck_pair)) a5 a6).bind fun r91=>cond (!r91.2) (f489v2_j113 k r91 rc489v2 a0 a1 a2 a3 a6 a4 (pput a5 a6 (1:Int))) (f489v2_j113 k r91 rc489v2 a0 a1 a2 a3 a6 a4 a5))
def f489v2_s (rc489v2:Y489v2) (k:Nat) (a0:(List TNode)) (a1:(List TNode)) (a2:(List Bool)) (a3:(List Tcheck_pair)) (a4:(PM Tcheck_pair (List Tcheck_pair))) (a5:(PM Tcheck_pair Int)) (a6:Tcheck_pair):Option ((List Tcheck_pair)×(PM Tcheck_pair (List Tcheck_pair))×(PM Tcheck_pair Int)):=cond (phas a4 a6) (some (a3,a4,a5)) ((f490v2 k a0 a1 a2 a3 a4 a5 a6).bind fun r27=>cond (!r27) (some (a3,a4,a5)) (gd ((a3.length + ([a6]:List Tcheck_pair).length) * 2 * 16≤281474976710656) (cond (decide (a6.fk < (0:Int))) (f489v2_j74 k a3 a6 a4 a5 a0 a1 a2 rc489v2 true) (f489v2_j74 k a3 a6 a4 a5 a0 a1 a2 rc489v2 (decide (a6.fk ≥ ((a1.length:Nat):Int)))))))
theorem F489v2_s {rc489v2:Y489v2} (hrc489v2:RH489v2 rc489v2) {k:Nat} {a0:(List TNode)} {a1:(List TNode)} {a2:(List Bool)} {a3:(List Tcheck_pair)} {a4:(PM Tcheck_pair (List Tcheck_pair))} {a5:(PM Tcheck_pair Int)} {a6:Tcheck_pair} {r:((List Tcheck_pair)×(PM Tcheck_pair (List Tcheck_pair))×(PM Tcheck_pair Int))} (h:f489v2_s rc489v2 k a0 a1 a2 a3 a4 a5 a6 = some r) :
    ACalls Tryd.prog 38 [(.ptr 0 0),(.d (Tcheck_pair.enc a6))] [(0,(.cells [(.d (.sl (List.map TNode.enc a0))),(.d (.sl (List.map TNode.enc a1))),(.ap 1 1 (List.map D.bool a2)),(.ap 2 2 (List.map Tcheck_pair.enc a3)),(.mp 3),(.mp 4)])),(1,(.tok ((List.map D.bool a2).length * 1))),(2,(.tok ((List.map Tcheck_pair.enc a3).length * 2))),(3,(pmO Tcheck_pair.enc (slE Tcheck_pair.enc) a4)),(4,(pmO Tcheck_pair.enc (D.int .i64) a5))] (.tup []) [(0,(.cells [(.d (.sl (List.map TNode.enc a0))),(.d (.sl (List.map TNode.enc a1))),(.ap 1 1 (List.map D.bool a2)),(.ap 5 2 (List.map Tcheck_pair.enc r.1)),(.mp 3),(.mp 4)])),(3,(pmO Tcheck_pair.enc (slE Tcheck_pair.enc) r.2.1)),(4,(pmO Tcheck_pair.enc (D.int .i64) r.2.2)),(1,(.tok ((List.map D.bool a2).length * 1))),(5,(.tok ((List.map Tcheck_pair.enc r.1).length * 2)))]:=by
 refine acalls_ret ⟨_,Tryd.func38,by kernel_rfl,by kernel_rfl,rfl⟩ 5 6 6 [] [(0,(.cells [(.d (.sl (List.map TNode.enc a0))),(.d (.sl (List.map TNode.enc a1))),(.ap 1 1 (List.map D.bool a2)),(.ap 5 2 (List.map Tcheck_pair.enc r.1)),(.mp 3),(.mp 4)])),(3,(pmO Tcheck_pair.enc (slE Tcheck_pair.enc) r.2.1)),(4,(pmO Tcheck_pair.enc (D.int .i64) r.2.2)),(1,(.tok ((List.map D.bool a2).length * 1))),(5,(.tok ((List.map Tcheck_pair.enc r.1).length * 2)))] (doneA (.inr rfl) rfl trivial (.refl _) (hasCons rfl (hasCons rfl (hasCons rfl (hasCons rfl (hasCons rfl hasNil)))))) ?_
 unfold f489v2_s at h
 refine .seq (.e [] ?_)
 refine .seq (.seq ?_)
 refine .e [.mgP Tcheck_pair.key (slE Tcheck_pair.enc) a4 a6 ([]:List Tcheck_pair)] (.seq ?_)
 rcases cc h with ⟨c24,h⟩ | ⟨c24,h⟩
 · refine .e [.br c24] (.cT rfl ?_)
   cases h
   exact .ret (rq [(5,2)] [])
 obtain ⟨r27,e27,h⟩:=bind_some h
 refine .e [.br c24,.call (F490v2 e27) [] 5] (.cB h (fun h=>?_) fun h=>?_)
 · cases h
   exact .ret (rq [(5,2)] [])
 refine .skip (.seq ?_)
 obtain ⟨b43,h⟩:=gd_some h
 refine .e [.apA Tcheck_pair.enc a3 ([a6]:List Tcheck_pair) 2 (fun _=>rfl) b43] (.seq ?_)
 refine .e [.msP Tcheck_pair.key (slE Tcheck_pair.enc) a4 a6 ([]:List Tcheck_pair) .nils (.sl rfl)] (.seq ?_)
 refine .j 7 (fun z=>f489v2_j74 k a3 a6 a4 a5 a0 a1 a2 rc489v2 z = some r) (fun z=>[(0,(.ptr 0 0)),(3,(.ptr 5 0)),(54,(.d (.bool z)))]) (fun z=>[(0,(.cells [(.d (.sl (List.map TNode.enc a0))),(.d (.sl (List.map TNode.enc a1))),(.ap 1 1 (List.map D.bool a2)),(.ap 6 2 (List.map Tcheck_pair.enc (a3 ++ ([a6]:List Tcheck_pair)))),(.mp 3),(.mp 4)])),(5,(.cells [(.d (.int .i64 a6.fi)),(.d (.int .i64 a6.fk))])),(3,(pmO Tcheck_pair.enc (slE Tcheck_pair.enc) (pput a4 a6 ([]:List Tcheck_pair)))),(4,(pmO Tcheck_pair.enc (D.int .i64) a5)),(1,(.tok ((List.map D.bool a2).length * 1))),(6,(.tok ((List.map Tcheck_pair.enc (a3 ++ ([a6]:List Tcheck_pair))).length * 2)))]) ?_ ?_
 · rcases cc h with ⟨c63,h⟩ | ⟨c63,h⟩
   · exact .e [.br c63] ⟨_,h,inZ⟩
   exact .e [.br c63,.ln TNode.enc a1] ⟨_,h,inZ⟩
 intro j74_1 h
 unfold f489v2_j74 at h
 refine .cB h (fun h=>?_) fun h=>?_
 · refine .seq (.e [.msP Tcheck_pair.key (D.int .i64) a5 a6 (1:Int) (.d (.int .i64 (1:Int))) (.refl _)] ?_)
   cases h
   exact .ret (rq [(5,6)] [])
 refine .skip (.seq ?_)
 obtain ⟨r91,e91,h⟩:=bind_some h
 refine .e [.call (F491 e91) [(2,6)] 5] (.j 7 (fun z=>f489v2_j113 k r91 rc489v2 a0 a1 a2 a3 a6 a4 z = some r) (fun z=>[(0,(.ptr 0 0)),(3,(.ptr 5 0)),(6,(.d (.sl (List.map Tcheck_pair.enc r91.1))))]) (fun z=>[(0,(.cells [(.d (.sl (List.map TNode.enc a0))),(.d (.sl (List.map TNode.enc a1))),(.ap 1 1 (List.map D.bool a2)),(.ap 6 2 (List.map Tcheck_pair.enc (a3 ++ ([a6]:List Tcheck_pair)))),(.mp 3),(.mp 4)])),(5,(.cells [(.d (.int .i64 a6.fi)),(.d (.int .i64 a6.fk))])),(3,(pmO Tcheck_pair.enc (slE Tcheck_pair.enc) (pput a4 a6 ([]:List Tcheck_pair)))),(4,(pmO Tcheck_pair.enc (D.int .i64) z)),(1,(.tok ((List.map D.bool a2).length * 1))),(6,(.tok ((List.map Tcheck_pair.enc (a3 ++ ([a6]:List Tcheck_pair))).length * 2)))]) ?_ ?_)
 · refine .seq (.e [] ?_)
   refine .cD h (fun h=>?_) fun h=>?_
   · exact .skip ⟨_,h,inZ⟩
   exact .e [.msP Tcheck_pair.key (D.int .i64) a5 a6 (1:Int) (.d (.int .i64 (1:Int))) (.refl _)] ⟨_,h,inZ⟩
 intro j113_1 h
 unfold f489v2_j113 at h
 refine .seq (.e [.msP Tcheck_pair.key (slE Tcheck_pair.enc) (pput a4 a6 ([]:List Tcheck_pair)) a6 r91.1 (.d (.sl (List.map Tcheck_pair.enc r91.1))) (.refl _)] ?_)
 refine .seq (.e [.ln Tcheck_pair.enc r91.1] ?_)
 obtain ⟨o129,h129,h⟩:=bind_some h
 refine .block (.lp 6 (fun k (x:(Int×(List Tcheck_pair)×(PM Tcheck_pair (List Tcheck_pair))×(PM Tcheck_pair Int)))=>f489v2_l129 r91 rc489v2 a0 a1 a2 k x.1 x.2.1 x.2.2.1 x.2.2.2 = some o129) (fun x=>[(0,(.ptr 0 0)),(79,(.d (.sl (List.map Tcheck_pair.enc r91.1)))),(80,(.d (.int .i64 ((r91.1.length:Nat):Int)))),(81,(.d (.int .i64 x.1)))]) (fun x=>[(0,(.cells [(.d (.sl (List.map TNode.enc a0))),(.d (.sl (List.map TNode.enc a1))),(.ap 1 1 (List.map D.bool a2)),(.ap 5 2 (List.map Tcheck_pair.enc x.2.1)),(.mp 3),(.mp 4)])),(3,(pmO Tcheck_pair.enc (slE Tcheck_pair.enc) x.2.2.1)),(4,(pmO Tcheck_pair.enc (D.int .i64) x.2.2.2)),(1,(.tok ((List.map D.bool a2).length * 1))),(5,(.tok ((List.map Tcheck_pair.enc x.2.1).length * 2)))]) (_,_,_,_) h129 [(5,6)] [] ?_)
 rintro k ⟨y129_1,y129_2,y129_3,y129_4⟩ h129
 dsimp only at h129 ⊢
 rw [f489v2_l129] at h129
 refine .seq (.e [] ?_)
 refine .seq (.cD h129 (fun h129=>?_) fun h129=>?_)
 · cases h129
   dsimp only at h
   refine .exit (inBlk_eq ?_)
   cases h
   exact rqn [] []
 refine .skip (.seq ?_)
 refine .block (.seq ?_)
 obtain ⟨b144,h129⟩:=gd_some h129
 refine .e [.iad Tcheck_pair.enc r91.1 2 (fun _=>rfl) b144] ?_
 obtain ⟨r152,e152,h129⟩:=bind_some h129
 refine .e [.call (hrc489v2 _ _ _ _ _ _ _ _ e152) [(2,5),(5,7)] 6] (.e [] ?_)
 exact ⟨((IntKind.i64.wrap (y129_1 + (1:Int))),r152.1,r152.2.1,r152.2.2),h129,(inT [(5,7)] [])⟩
def f489v2:Nat→(List TNode)→(List TNode)→(List Bool)→(List Tcheck_pair)→(PM Tcheck_pair (List Tcheck_pair))→(PM Tcheck_pair Int)→Tcheck_pair→Option ((List Tcheck_pair)×(PM Tcheck_pair (List Tcheck_pair))×(PM Tcheck_pair Int))
  | 0,_,_,_,_,_,_,_=>none
  | k + 1,a0,a1,a2,a3,a4,a5,a6=>f489v2_s (f489v2 k) k a0 a1 a2 a3 a4 a5 a6
theorem F489v2 {k:Nat} {a0:(List TNode)} {a1:(List TNode)} {a2:(List Bool)} {a3:(List Tcheck_pair)} {a4:(PM Tcheck_pair (List Tcheck_pair))} {a5:(PM Tcheck_pair Int)} {a6:Tcheck_pair} {r:((List Tcheck_pair)×(PM Tcheck_pair (List Tcheck_pair))×(PM Tcheck_pair Int))} (h:f489v2 k a0 a1 a2 a3 a4 a5 a6 = some r) :
    ACalls Tryd.prog 38 [(.ptr 0 0),(.d (Tcheck_pair.enc a6))] [(0,(.cells [(.d (.sl (List.map TNode.enc a0))),(.d (.sl (List.map TNode.enc a1))),(.ap 1 1 (List.map D.bool a2)),(.ap 2 2 (List.map Tcheck_pair.enc a3)),(.mp 3),(.mp 4)])),(1,(.tok ((List.map D.bool a2).length * 1))),(2,(.tok ((List.map Tcheck_pair.enc a3).length * 2))),(3,(pmO Tcheck_pair.enc (slE Tcheck_pair.enc) a4)),(4,(pmO Tcheck_pair.enc (D.int .i64) a5))] (.tup []) [(0,(.cells [(.d (.sl (List.map TNode.enc a0))),(.d (.sl (List.map TNode.enc a1))),(.ap 1 1 (List.map D.bool a2)),(.ap 5 2 (List.map Tcheck_pair.enc r.1)),(.mp 3),(.mp 4)])),(3,(pmO Tcheck_pair.enc (slE Tcheck_pair.enc) r.2.1)),(4,(pmO Tcheck_pair.enc (D.int .i64) r.2.2)),(1,(.tok ((List.map D.bool a2).length * 1))),(5,(.tok ((List.map Tcheck_pair.enc r.1).length * 2)))]:=by
  induction k generalizing a0 a1 a2 a3 a4 a5 a6 r with
  | zero=>exact absurd (show (none:Option _) = some r from h) (fun h2=>by cases h2)
  | succ k ih=>exact F489v2_s (fun _ _ _ _ _ _ _ _ h=>ih h) h
def f489_l129 (r91:((List Tcheck_pair)×Bool)) (a0:(List TNode)) (a1:(List TNode)) (a2:(List Bool)):Nat→Int→(List Tcheck_pair)→(PM Tcheck_pair (List Tcheck_pair))→(PM Tcheck_pair Int)→Option (LR2 ((List Tcheck_pair)×(PM Tcheck_pair (List Tcheck_pair))×(PM Tcheck_pair Int)) Unit ((List Tcheck_pair)×(PM Tcheck_pair (List Tcheck_pair))×(PM Tcheck_pair Int)))
  | 0,_,_,_,_=>none
  | k + 1,y129_1,y129_2,y129_3,y129_4=>cond (decide (y129_1 < ((r91.1.length:Nat):Int))) (gd (0≤y129_1∧y129_1 < ((r91.1.length:Nat):Int)) ((f489v2 k a0 a1 a2 y129_2 y129_3 y129_4 (rd r91.1 y129_1)).bind fun r152=>f489_l129 r91 a0 a1 a2 k (IntKind.i64.wrap (y129_1 + (1:Int))) r152.1 r152.2.1 r152.2.2)) (some (.b0 (y129_2,y129_3,y129_4)))
def f489_j113 (k:Nat) (r91:((List Tcheck_pair)×Bool)) (a0:(List TNode)) (a1:(List TNode)) (a2:(List Bool)) (a5:Tcheck_pair) (a3:(PM Tcheck_pair (List Tcheck_pair))) (j113_1:(PM Tcheck_pair Int)):Option ((List Tcheck_pair)×(PM Tcheck_pair (List Tcheck_pair))×(PM Tcheck_pair Int)):=(f489_l129 r91 a0 a1 a2 k (0:Int) ([a5]:List Tcheck_pair) (pput (pput a3 a5 ([]:List Tcheck_pair)) a5 r91.1) j113_1).bind fun o129=>(match o129 with | .b0 (x129_1,x129_2,x129_3)=>some (x129_1,x129_2,x129_3) | _=>none)
def f489_j74 (k:Nat) (a5:Tcheck_pair) (a3:(PM Tcheck_pair (List Tcheck_pair))) (a4:(PM Tcheck_pair Int)) (a0:(List TNode)) (a1:(List TNode)) (a2:(List Bool)) (j74_1:Bool):Option ((List Tcheck_pair)×(PM Tcheck_pair (List Tcheck_pair))×(PM Tcheck_pair Int)):=cond j74_1 (some (([a5]:List Tcheck_pair),(pput a3 a5 ([]:List Tcheck_pair)),(pput a4 a5 (1:Int)))) ((f491 k a0 a1 a2 ([a5]:List Tcheck_pair) (pput a3 a5 ([]:List Tcheck_pair)) a4 a5).bind fun r91=>cond (!r91.2) (f489_j113 k r91 a0 a1 a2 a5 a3 (pput a4 a5 (1:Int))) (f489_j113 k r91 a0 a1 a2 a5 a3 a4))
def f489 (k:Nat) (a0:(List TNode)) (a1:(List TNode)) (a2:(List Bool)) (a3:(PM Tcheck_pair (List Tcheck_pair))) (a4:(PM Tcheck_pair Int)) (a5:Tcheck_pair):Option ((List Tcheck_pair)×(PM Tcheck_pair (List Tcheck_pair))×(PM Tcheck_pair Int)):=cond (phas a3 a5) (some (([]:List Tcheck_pair),a3,a4)) ((f490 k a0 a1 a2 a3 a4 a5).bind fun r27=>cond (!r27) (some (([]:List Tcheck_pair),a3,a4)) (gd (([a5]:List Tcheck_pair).length * 16≤281474976710656) (cond (decide (a5.fk < (0:Int))) (f489_j74 k a5 a3 a4 a0 a1 a2 true) (f489_j74 k a5 a3 a4 a0 a1 a2 (decide (a5.fk ≥ ((a1.length:Nat):Int)))))))
theorem F489 {k:Nat} {a0:(List TNode)} {a1:(List TNode)} {a2:(List Bool)} {a3:(PM Tcheck_pair (List Tcheck_pair))} {a4:(PM Tcheck_pair Int)} {a5:Tcheck_pair} {r:((List Tcheck_pair)×(PM Tcheck_pair (List Tcheck_pair))×(PM Tcheck_pair Int))} (h:f489 k a0 a1 a2 a3 a4 a5 = some r) :
    ACalls Tryd.prog 38 [(.ptr 0 0),(.d (Tcheck_pair.enc a5))] [(0,(.cells [(.d (.sl (List.map TNode.enc a0))),(.d (.sl (List.map TNode.enc a1))),(.ap 1 1 (List.map D.bool a2)),.nils,(.mp 2),(.mp 3)])),(1,(.tok ((List.map D.bool a2).length * 1))),(2,(pmO Tcheck_pair.enc (slE Tcheck_pair.enc) a3)),(3,(pmO Tcheck_pair.enc (D.int .i64) a4))] (.tup []) [(0,(.cells [(.d (.sl (List.map TNode.enc a0))),(.d (.sl (List.map TNode.enc a1))),(.ap 1 1 (List.map D.bool a2)),(.ap 4 2 (List.map Tcheck_pair.enc r.1)),(.mp 2),(.mp 3)])),(2,(pmO Tcheck_pair.enc (slE Tcheck_pair.enc) r.2.1)),(3,(pmO Tcheck_pair.enc (D.int .i64) r.2.2)),(1,(.tok ((List.map D.bool a2).length * 1))),(4,(.tok ((List.map Tcheck_pair.enc r.1).length * 2)))]:=by
 refine acalls_ret ⟨_,Tryd.func38,by kernel_rfl,by kernel_rfl,rfl⟩ 4 5 5 [] [(0,(.cells [(.d (.sl (List.map TNode.enc a0))),(.d (.sl (List.map TNode.enc a1))),(.ap 1 1 (List.map D.bool a2)),(.ap 4 2 (List.map Tcheck_pair.enc r.1)),(.mp 2),(.mp 3)])),(2,(pmO Tcheck_pair.enc (slE Tcheck_pair.enc) r.2.1)),(3,(pmO Tcheck_pair.enc (D.int .i64) r.2.2)),(1,(.tok ((List.map D.bool a2).length * 1))),(4,(.tok ((List.map Tcheck_pair.enc r.1).length * 2)))] (doneA (.inr rfl) rfl trivial (.refl _) (hasCons rfl (hasCons rfl (hasCons rfl (hasCons rfl (hasCons rfl hasNil)))))) ?_
 unfold f489 at h
 refine .seq (.e [] ?_)
 refine .seq (.seq ?_)
 refine .e [.mgP Tcheck_pair.key (slE Tcheck_pair.enc) a3 a5 ([]:List Tcheck_pair)] (.seq ?_)
 rcases cc h with ⟨c24,h⟩ | ⟨c24,h⟩
 · refine .e [.br c24] (.cT rfl ?_)
   cases h
   exact .ret (rq [(4,5)] [.tok 0])
 obtain ⟨r27,e27,h⟩:=bind_some h
 refine .e [.br c24,.call (F490 e27) [] 4] (.cB h (fun h=>?_) fun h=>?_)
 · cases h
   exact .ret (rq [(4,5)] [.tok 0])
 refine .skip (.seq ?_)
 obtain ⟨b43,h⟩:=gd_some h
 refine .e [.apN Tcheck_pair.enc ([a5]:List Tcheck_pair) 2 (fun _=>rfl) b43] (.seq ?_)
 refine .e [.msP Tcheck_pair.key (slE Tcheck_pair.enc) a3 a5 ([]:List Tcheck_pair) .nils (.sl rfl)] (.seq ?_)
 refine .j 6 (fun z=>f489_j74 k a5 a3 a4 a0 a1 a2 z = some r) (fun z=>[(0,(.ptr 0 0)),(3,(.ptr 4 0)),(54,(.d (.bool z)))]) (fun z=>[(0,(.cells [(.d (.sl (List.map TNode.enc a0))),(.d (.sl (List.map TNode.enc a1))),(.ap 1 1 (List.map D.bool a2)),(.ap 5 2 (List.map Tcheck_pair.enc ([a5]:List Tcheck_pair))),(.mp 2),(.mp 3)])),(4,(.cells [(.d (.int .i64 a5.fi)),(.d (.int .i64 a5.fk))])),(2,(pmO Tcheck_pair.enc (slE Tcheck_pair.enc) (pput a3 a5 ([]:List Tcheck_pair)))),(3,(pmO Tcheck_pair.enc (D.int .i64) a4)),(1,(.tok ((List.map D.bool a2).length * 1))),(5,(.tok ((List.map Tcheck_pair.enc ([a5]:List Tcheck_pair)).length * 2)))]) ?_ ?_
 · rcases cc h with ⟨c63,h⟩ | ⟨c63,h⟩
   · exact .e [.br c63] ⟨_,h,inZ⟩
   exact .e [.br c63,.ln TNode.enc a1] ⟨_,h,inZ⟩
 intro j74_1 h
 unfold f489_j74 at h
 refine .cB h (fun h=>?_) fun h=>?_
 · refine .seq (.e [.msP Tcheck_pair.key (D.int .i64) a4 a5 (1:Int) (.d (.int .i64 (1:Int))) (.refl _)] ?_)
   cases h
   exact .ret (rq [(4,5)] [])
 refine .skip (.seq ?_)
 obtain ⟨r91,e91,h⟩:=bind_some h
 refine .e [.call (F491 e91) [(2,5),(3,2),(4,3)] 5] (.j 6 (fun z=>f489_j113 k r91 a0 a1 a2 a5 a3 z = some r) (fun z=>[(0,(.ptr 0 0)),(3,(.ptr 4 0)),(6,(.d (.sl (List.map Tcheck_pair.enc r91.1))))]) (fun z=>[(0,(.cells [(.d (.sl (List.map TNode.enc a0))),(.d (.sl (List.map TNode.enc a1))),(.ap 1 1 (List.map D.bool a2)),(.ap 5 2 (List.map Tcheck_pair.enc ([a5]:List Tcheck_pair))),(.mp 2),(.mp 3)])),(4,(.cells [(.d (.int .i64 a5.fi)),(.d (.int .i64 a5.fk))])),(2,(pmO Tcheck_pair.enc (slE Tcheck_pair.enc) (pput a3 a5 ([]:List Tcheck_pair)))),(3,(pmO Tcheck_pair.enc (D.int .i64) z)),(1,(.tok ((List.map D.bool a2).length * 1))),(5,(.tok ((List.map Tcheck_pair.enc ([a5]:List Tcheck_pair)).length * 2)))]) ?_ ?_)
 · refine .seq (.e [] ?_)
   refine .cD h (fun h=>?_) fun h=>?_
   · exact .skip ⟨_,h,inZ⟩
   exact .e [.msP Tcheck_pair.key (D.int .i64) a4 a5 (1:Int) (.d (.int .i64 (1:Int))) (.refl _)] ⟨_,h,inZ⟩
 intro j113_1 h
 unfold f489_j113 at h
 refine .seq (.e [.msP Tcheck_pair.key (slE Tcheck_pair.enc) (pput a3 a5 ([]:List Tcheck_pair)) a5 r91.1 (.d (.sl (List.map Tcheck_pair.enc r91.1))) (.refl _)] ?_)
 refine .seq (.e [.ln Tcheck_pair.enc r91.1] ?_)
 obtain ⟨o129,h129,h⟩:=bind_some h
 refine .block (.lp 5 (fun k (x:(Int×(List Tcheck_pair)×(PM Tcheck_pair (List Tcheck_pair))×(PM Tcheck_pair Int)))=>f489_l129 r91 a0 a1 a2 k x.1 x.2.1 x.2.2.1 x.2.2.2 = some o129) (fun x=>[(0,(.ptr 0 0)),(79,(.d (.sl (List.map Tcheck_pair.enc r91.1)))),(80,(.d (.int .i64 ((r91.1.length:Nat):Int)))),(81,(.d (.int .i64 x.1)))]) (fun x=>[(0,(.cells [(.d (.sl (List.map TNode.enc a0))),(.d (.sl (List.map TNode.enc a1))),(.ap 1 1 (List.map D.bool a2)),(.ap 4 2 (List.map Tcheck_pair.enc x.2.1)),(.mp 2),(.mp 3)])),(2,(pmO Tcheck_pair.enc (slE Tcheck_pair.enc) x.2.2.1)),(3,(pmO Tcheck_pair.enc (D.int .i64) x.2.2.2)),(1,(.tok ((List.map D.bool a2).length * 1))),(4,(.tok ((List.map Tcheck_pair.enc x.2.1).length * 2)))]) (_,_,_,_) h129 [(4,5)] [] ?_)
 rintro k ⟨y129_1,y129_2,y129_3,y129_4⟩ h129
 dsimp only at h129 ⊢
 rw [f489_l129] at h129
 refine .seq (.e [] ?_)
 refine .seq (.cD h129 (fun h129=>?_) fun h129=>?_)
 · cases h129
   dsimp only at h
   refine .exit (inBlk_eq ?_)
   cases h
   exact rqn [] []
 refine .skip (.seq ?_)
 refine .block (.seq ?_)
 obtain ⟨b144,h129⟩:=gd_some h129
 refine .e [.iad Tcheck_pair.enc r91.1 2 (fun _=>rfl) b144] ?_
 obtain ⟨r152,e152,h129⟩:=bind_some h129
 refine .e [.call (F489v2 e152) [(2,4),(3,2),(4,3),(5,6)] 6] (.e [] ?_)
 exact ⟨((IntKind.i64.wrap (y129_1 + (1:Int))),r152.1,r152.2.1,r152.2.2),h129,(inT [(4,6)] [])⟩
def f383 (k:Nat) (a0:TSchema) (a1:TSchema):Option ((List Bool)×(List Tcheck_pair)×(PM Tcheck_pair (List Tcheck_pair))×(PM Tcheck_pair Int)):=(f307 k a0).bind fun r13=>cond (decide (((a0.fNodes.length:Nat):Int) > (0:Int))) (cond (decide (((a1.fNodes.length:Nat):Int) > (0:Int))) ((f489 k a0.fNodes a1.fNodes r13 (PM.nil:(PM Tcheck_pair (List Tcheck_pair))) (PM.nil:(PM Tcheck_pair Int)) (Tcheck_pair.mk (0:Int) (0:Int))).bind fun r38=>some (r13,r38.1,r38.2.1,r38.2.2)) (some (r13,([]:List Tcheck_pair),(PM.nil:(PM Tcheck_pair (List Tcheck_pair))),(PM.nil:(PM Tcheck_pair Int))))) (some (r13,([]:List Tcheck_pair),(PM.nil:(PM Tcheck_pair (List Tcheck_pair))),(PM.nil:(PM Tcheck_pair Int))))
theorem F383 {k:Nat} {a0:TSchema} {a1:TSchema} {r:((List Bool)×(List Tcheck_pair)×(PM Tcheck_pair (List Tcheck_pair))×(PM Tcheck_pair Int))} (h:f383 k a0 a1 = some r) :
    ACalls Tryd.prog 25 [(.d (TSchema.enc a0)),(.d (TSchema.enc a1))] [] (.ptr 0 0) [(0,(.cells [(.d (.sl (List.map TNode.enc a0.fNodes))),(.d (.sl (List.map TNode.enc a1.fNodes))),(.ap 1 1 (List.map D.bool r.1)),(.ap 2 2 (List.map Tcheck_pair.enc r.2.1)),(.mp 3),(.mp 4)])),(1,(.tok ((List.map D.bool r.1).length * 1))),(2,(.tok ((List.map Tcheck_pair.enc r.2.1).length * 2))),(3,(pmO Tcheck_pair.enc (slE Tcheck_pair.enc) r.2.2.1)),(4,(pmO Tcheck_pair.enc (D.int .i64) r.2.2.2))]:=by
 refine acalls_ret ⟨_,Tryd.func25,by kernel_rfl,by kernel_rfl,rfl⟩ 0 5 5 [(4,(.ptr 0 0))] [(0,(.cells [(.d (.sl (List.map TNode.enc a0.fNodes))),(.d (.sl (List.map TNode.enc a1.fNodes))),(.ap 1 1 (List.map D.bool r.1)),(.ap 2 2 (List.map Tcheck_pair.enc r.2.1)),(.mp 3),(.mp 4)])),(1,(.tok ((List.map D.bool r.1).length * 1))),(2,(.tok ((List.map Tcheck_pair.enc r.2.1).length * 2))),(3,(pmO Tcheck_pair.enc (slE Tcheck_pair.enc) r.2.2.1)),(4,(pmO Tcheck_pair.enc (D.int .i64) r.2.2.2))] (doneA (.inr rfl) rfl ⟨trivial,trivial⟩ (.refl _) (hasCons rfl (hasCons rfl (hasCons rfl (hasCons rfl (hasCons rfl hasNil)))))) ?_
 unfold f383 at h
 refine .seq (.e [] ?_)
 refine .seq ?_
 obtain ⟨r13,e13,h⟩:=bind_some h
 refine .e [.call (F307 e13) [(0,2)] 1,.mkP true,.mkP true] (.seq ?_)
 refine .seq ?_
 rcases cc h with ⟨c27,h⟩ | ⟨c27,h⟩
 · refine .e [.ln TNode.enc a0.fNodes,.br c27,.ln TNode.enc a1.fNodes] (.cD h (fun h=>?_) fun h=>?_)
   · refine .skip (.seq ?_)
     refine .e [] ?_
     cases h
     exact .ret (rq [(0,5),(1,2),(2,6)] [.tok 0])
   obtain ⟨r38,e38,h⟩:=bind_some h
   refine .e [.call (F489 e38) [(0,5),(1,2),(2,3),(3,4),(4,6)] 5] (.seq ?_)
   refine .e [] ?_
   cases h
   exact .ret (rq [(0,5),(1,2),(2,6)] [])
 refine .e [.ln TNode.enc a0.fNodes,.br c27] (.cF rfl ?_)
 refine .skip (.seq ?_)
 refine .e [] ?_
 cases h
 exact .ret (rq [(0,5),(1,2),(2,6)] [.tok 0])
def f382_j163 (k:Nat) (j163_1:(PM Tcheck_pair Int)):Option Bool:=some (decide ((pget j163_1 (Tcheck_pair.mk (0:Int) (0:Int)) (0:Int)) = (0:Int)))
def f382_l111 (r33:((List Bool)×(List Tcheck_pair)×(PM Tcheck_pair (List Tcheck_pair))×(PM Tcheck_pair Int))) (y67_2:Int) (y67_3:(PM Tcheck_pair Int)):Nat→Int→Option (LR2 Unit (PM Tcheck_pair Int) Bool)
  | 0,_=>none
  | k + 1,y111_1=>cond (decide (y111_1 < (((pget r33.2.2.1 (rd r33.2.1 y67_2) ([]:List Tcheck_pair)).length:Nat):Int))) (gd (0≤y111_1∧y111_1 < (((pget r33.2.2.1 (rd r33.2.1 y67_2) ([]:List Tcheck_pair)).length:Nat):Int)) (cond (decide ((pget y67_3 (rd (pget r33.2.2.1 (rd r33.2.1 y67_2) ([]:List Tcheck_pair)) y111_1) (0:Int))≠(0:Int))) ((pstore (pput y67_3 (rd r33.2.1 y67_2) (pget y67_3 (rd r33.2.1 y67_2) (0:Int))) (pstamp y67_3 (rd r33.2.1 y67_2)) (1:Int)).bind fun m151=>some (.b1 m151)) (f382_l111 r33 y67_2 y67_3 k (IntKind.i64.wrap (y111_1 + (1:Int)))))) (some (.b0 ()))
def f382_l67 (r33:((List Bool)×(List Tcheck_pair)×(PM Tcheck_pair (List Tcheck_pair))×(PM Tcheck_pair Int))):Nat→Bool→Int→(PM Tcheck_pair Int)→Option (LR2 (Bool×(PM Tcheck_pair Int)) Unit Bool)
  | 0,_,_,_=>none
  | k + 1,y67_1,y67_2,y67_3=>cond (decide (y67_2 < ((r33.2.1.length:Nat):Int))) (gd (0≤y67_2∧y67_2 < ((r33.2.1.length:Nat):Int)) (cond (decide ((pget y67_3 (rd r33.2.1 y67_2) (0:Int))≠(0:Int))) (f382_l67 r33 k y67_1 (IntKind.i64.wrap (y67_2 + (1:Int))) y67_3) ((f382_l111 r33 y67_2 y67_3 k (0:Int)).bind fun o111=>(match o111 with | .b0 ()=>f382_l67 r33 k y67_1 (IntKind.i64.wrap (y67_2 + (1:Int))) y67_3 | .b1 w111_3_1=>f382_l67 r33 k true (IntKind.i64.wrap (y67_2 + (1:Int))) w111_3_1 | _=>none)))) (some (.b0 (y67_1,y67_3)))
def f382_l40 (r33:((List Bool)×(List Tcheck_pair)×(PM Tcheck_pair (List Tcheck_pair))×(PM Tcheck_pair Int))):Nat→Bool→(PM Tcheck_pair Int)→Option (LR2 (PM Tcheck_pair Int) Unit Bool)
  | 0,_,_=>none
  | k + 1,y40_1,y40_2=>cond y40_1 ((f382_l67 r33 k false (0:Int) y40_2).bind fun o67=>(match o67 with | .b0 (x67_1,x67_2)=>f382_l40 r33 k x67_1 x67_2 | _=>none)) (some (.b0 y40_2))
def f382 (k:Nat) (a0:TSchema) (a1:TSchema):Option Bool:=cond (decide (((a0.fNodes.length:Nat):Int) = (0:Int))) (some false) (cond (decide (((a1.fNodes.length:Nat):Int) = (0:Int))) (some false) ((f383 k a0 a1).bind fun r33=>(f382_l40 r33 k true r33.2.2.2).bind fun o40=>(match o40 with | .b0 x40_1=>f382_j163 k x40_1 | _=>none)))
theorem F382 {k:Nat} {a0:TSchema} {a1:TSchema} {r:Bool} (h:f382 k a0 a1 = some r) :
    ACalls Tryd.prog 12 [(.d (TSchema.enc a0)),(.d (TSchema.enc a1))] [] (.d (.bool r)) []:=by
 refine acalls_ret ⟨_,Tryd.func12,by kernel_rfl,by kernel_rfl,rfl⟩ 0 0 0 [(4,(.d (.bool r)))] [] (doneA (.inr rfl) rfl ⟨trivial,trivial⟩ (.refl _) hasNil) ?_
 unfold f382 at h
 refine .seq (.e [] ?_)
 refine .seq (.seq ?_)
 rcases cc h with ⟨c15,h⟩ | ⟨c15,h⟩
 · refine .e [.ln TNode.enc a0.fNodes,.br c15] (.cT rfl ?_)
   refine .seq (.e [] ?_)
   cases h
   exact .ret rz
 refine .e [.ln TNode.enc a0.fNodes,.br c15,.ln TNode.enc a1.fNodes] (.cB h (fun h=>?_) fun h=>?_)
 · refine .seq (.e [] ?_)
   cases h
   exact .ret rz
 refine .skip (.seq ?_)
 obtain ⟨r33,e33,h⟩:=bind_some h
 refine .e [.call (F383 e33) [(0,2),(1,3),(2,4),(3,5),(4,6)] 5] (.j 5 (fun z=>f382_j163 k z = some r) (fun z=>[(5,(.ptr 0 0))]) (fun z=>[(0,(.cells [(.d (.sl (List.map TNode.enc a0.fNodes))),(.d (.sl (List.map TNode.enc a1.fNodes))),(.ap 1 1 (List.map D.bool r33.1)),(.ap 2 2 (List.map Tcheck_pair.enc r33.2.1)),(.mp 3),(.mp 4)])),(1,(.tok ((List.map D.bool r33.1).length * 1))),(2,(.tok ((List.map Tcheck_pair.enc r33.2.1).length * 2))),(3,(pmO Tcheck_pair.enc (slE Tcheck_pair.enc) r33.2.2.1)),(4,(pmO Tcheck_pair.enc (D.int .i64) z))]) ?_ ?_)
 · refine .seq (.e [] ?_)
   obtain ⟨o40,h40,h⟩:=bind_some h
   refine .block (.lp 5 (fun k (x:(Bool×(PM Tcheck_pair Int)))=>f382_l40 r33 k x.1 x.2 = some o40) (fun x=>[(5,(.ptr 0 0)),(6,(.d (.bool x.1)))]) (fun x=>[(0,(.cells [(.d (.sl (List.map TNode.enc a0.fNodes))),(.d (.sl (List.map TNode.enc a1.fNodes))),(.ap 1 1 (List.map D.bool r33.1)),(.ap 2 2 (List.map Tcheck_pair.enc r33.2.1)),(.mp 3),(.mp 4)])),(1,(.tok ((List.map D.bool r33.1).length * 1))),(2,(.tok ((List.map Tcheck_pair.enc r33.2.1).length * 2))),(3,(pmO Tcheck_pair.enc (slE Tcheck_pair.enc) r33.2.2.1)),(4,(pmO Tcheck_pair.enc (D.int .i64) x.2))]) (true,r33.2.2.2) h40 [(0,2),(1,3),(2,4),(3,5),(4,6)] [] ?_)
   rintro k ⟨y40_1,y40_2⟩ h40
   dsimp only at h40 ⊢
   rw [f382_l40] at h40
   refine .seq (.seq ?_)
   refine .e [] (.cD h40 (fun h40=>?_) fun h40=>?_)
   · cases h40
     dsimp only at h
     refine .exit (inBlk_eq ?_)
     exact ⟨_,h,inZ⟩
   refine .skip (.block ?_)
   refine .scope (.seq ?_)
   refine .e [] (.seq ?_)
   refine .label (.seq ?_)
   refine .e [.ln Tcheck_pair.enc r33.2.1] ?_
   obtain ⟨o67,h67,h40⟩:=bind_some h40
   refine .block (.lp 5 (fun k (x:(Bool×Int×(PM Tcheck_pair Int)))=>f382_l67 r33 k x.1 x.2.1 x.2.2 = some o67) (fun x=>[(5,(.ptr 0 0)),(6,(.d (.bool x.1))),(28,(.ap 1 2 (List.map Tcheck_pair.enc r33.2.1))),(29,(.d (.int .i64 ((r33.2.1.length:Nat):Int)))),(30,(.d (.int .i64 x.2.1)))]) (fun x=>[(0,(.cells [(.d (.sl (List.map TNode.enc a0.fNodes))),(.d (.sl (List.map TNode.enc a1.fNodes))),(.ap 2 1 (List.map D.bool r33.1)),(.ap 1 2 (List.map Tcheck_pair.enc r33.2.1)),(.mp 3),(.mp 4)])),(1,(.tok ((List.map Tcheck_pair.enc r33.2.1).length * 2))),(2,(.tok ((List.map D.bool r33.1).length * 1))),(3,(pmO Tcheck_pair.enc (slE Tcheck_pair.enc) r33.2.2.1)),(4,(pmO Tcheck_pair.enc (D.int .i64) x.2.2))]) (_,_,_) h67 [(1,2),(2,1)] [] ?_)
   rintro k ⟨y67_1,y67_2,y67_3⟩ h67
   dsimp only at h67 ⊢
   rw [f382_l67] at h67
   refine .seq (.e [] ?_)
   refine .seq (.cD h67 (fun h67=>?_) fun h67=>?_)
   · cases h67
     dsimp only at h40
     refine .exit (inBlk_eq ?_)
     exact ⟨(_,_),h40,(inT [(1,2),(2,1)] [])⟩
   refine .skip (.seq ?_)
   refine .block (.seq ?_)
   obtain ⟨b82,h67⟩:=gd_some h67
   refine .e [.iad Tcheck_pair.enc r33.2.1 2 (fun _=>rfl) b82] (.seq ?_)
   refine .seq (.e [.mgP Tcheck_pair.key (D.int .i64) y67_3 (rd r33.2.1 y67_2) (0:Int)] ?_)
   refine .cB h67 (fun h67=>?_) fun h67=>?_
   · refine .exit (inBlk_eq ?_)
     exact .e [] ⟨(_,_,_),h67,inZ⟩
   refine .skip (.seq ?_)
   refine .e [.mgP Tcheck_pair.key (slE Tcheck_pair.enc) r33.2.2.1 (rd r33.2.1 y67_2) ([]:List Tcheck_pair),.ln Tcheck_pair.enc (pget r33.2.2.1 (rd r33.2.1 y67_2) ([]:List Tcheck_pair))] ?_
   obtain ⟨o111,h111,h67⟩:=bind_some h67
   refine .block (.lp 6 (fun k (x:Int)=>f382_l111 r33 y67_2 y67_3 k x = some o111) (fun x=>[(5,(.ptr 0 0)),(6,(.d (.bool y67_1))),(8,(.ptr 1 0)),(28,(.ap 2 2 (List.map Tcheck_pair.enc r33.2.1))),(29,(.d (.int .i64 ((r33.2.1.length:Nat):Int)))),(30,(.d (.int .i64 y67_2))),(46,(.d (.sl (List.map Tcheck_pair.enc (pget r33.2.2.1 (rd r33.2.1 y67_2) ([]:List Tcheck_pair)))))),(47,(.d (.int .i64 (((pget r33.2.2.1 (rd r33.2.1 y67_2) ([]:List Tcheck_pair)).length:Nat):Int)))),(48,(.d (.int .i64 x)))]) (fun x=>[(0,(.cells [(.d (.sl (List.map TNode.enc a0.fNodes))),(.d (.sl (List.map TNode.enc a1.fNodes))),(.ap 3 1 (List.map D.bool r33.1)),(.ap 2 2 (List.map Tcheck_pair.enc r33.2.1)),(.mp 4),(.mp 5)])),(1,(.cells [(.d (.int .i64 (rd r33.2.1 y67_2).fi)),(.d (.int .i64 (rd r33.2.1 y67_2).fk))])),(2,(.tok ((List.map Tcheck_pair.enc r33.2.1).length * 2))),(3,(.tok ((List.map D.bool r33.1).length * 1))),(4,(pmO Tcheck_pair.enc (slE Tcheck_pair.enc) r33.2.2.1)),(5,(pmO Tcheck_pair.enc (D.int .i64) y67_3))]) _ h111 [(1,5),(2,1),(3,2),(4,3),(5,4)] [] ?_)
   intro k y111_1 h111
   rw [f382_l111] at h111
   refine .seq (.e [] ?_)
   refine .seq (.cD h111 (fun h111=>?_) fun h111=>?_)
   · cases h111
     dsimp only at h67
     refine .exit (inBlk_eq ?_)
     exact .e [] ⟨(_,_,_),h67,(inT [(1,2),(2,3),(3,4),(4,5)] [])⟩
   refine .skip (.seq ?_)
   refine .block (.seq ?_)
   obtain ⟨b126,h111⟩:=gd_some h111
   refine .e [.iad Tcheck_pair.enc (pget r33.2.2.1 (rd r33.2.1 y67_2) ([]:List Tcheck_pair)) 2 (fun _=>rfl) b126] (.seq ?_)
   refine .e [.mgP Tcheck_pair.key (D.int .i64) y67_3 (rd (pget r33.2.2.1 (rd r33.2.1 y67_2) ([]:List Tcheck_pair)) y111_1) (0:Int)] (.cD h111 (fun h111=>?_) fun h111=>?_)
   · refine .skip (.e [] ?_)
     exact ⟨_,h111,inZ⟩
   refine .seq ?_
   obtain ⟨m151,em151,h111⟩:=bind_some h111
   refine .e [.meP Tcheck_pair.key (D.int .i64) y67_3 (rd r33.2.1 y67_2) (0:Int),.mtP Tcheck_pair.enc (D.int .i64) (pput y67_3 (rd r33.2.1 y67_2) (pget y67_3 (rd r33.2.1 y67_2) (0:Int))) m151 (pstamp y67_3 (rd r33.2.1 y67_2)) (1:Int) em151 (.d (.int .i64 (1:Int))) (.refl _)] ?_
   cases h111
   dsimp only at h67
   refine .exit (inBlk_ne rfl ?_)
   refine inBlk_ne rfl (inBlk_eq ?_)
   exact .e [] ⟨(_,_,_),h67,(inT [(1,2),(2,3),(3,4),(4,5)] [])⟩
 intro j163_1 h
 unfold f382_j163 at h
 refine .seq (.e [.mgP Tcheck_pair.key (D.int .i64) j163_1 (Tcheck_pair.mk (0:Int) (0:Int)) (0:Int)] ?_)
 cases h
 exact .ret rz
def f486_j83 (L:Int→Option (LR2 Int Unit Int)) (k:Nat) (r25:(Bool×Bool)) (a1:(List TSchema)) (y46_1:Int) (a2:TSchema):Option (LR2 Int Unit Int):=cond r25.1 ((f382 k (rd a1 y46_1) a2).bind fun r90=>cond (!r90) (some (.b0 y46_1)) (cond r25.2 ((f382 k a2 (rd a1 y46_1)).bind fun r98=>cond (!r98) (some (.b0 y46_1)) (L (IntKind.i64.wrap (y46_1 + (1:Int))))) (L (IntKind.i64.wrap (y46_1 + (1:Int)))))) (cond r25.2 ((f382 k a2 (rd a1 y46_1)).bind fun r98=>cond (!r98) (some (.b0 y46_1)) (L (IntKind.i64.wrap (y46_1 + (1:Int))))) (L (IntKind.i64.wrap (y46_1 + (1:Int)))))
def f486_l46 (a1:(List TSchema)) (a0:Int) (r25:(Bool×Bool)) (a2:TSchema):Nat→Int→Option (LR2 Int Unit Int)
  | 0,_=>none
  | k + 1,y46_1=>cond (decide (y46_1 < ((a1.length:Nat):Int))) (gd (0≤y46_1∧y46_1 < ((a1.length:Nat):Int)) (cond (!(decide (a0 ≥ (4:Int)))) (cond (decide (y46_1 < (IntKind.i64.wrap (((a1.length:Nat):Int) - (1:Int))))) (f486_l46 a1 a0 r25 a2 k (IntKind.i64.wrap (y46_1 + (1:Int)))) (f486_j83 (f486_l46 a1 a0 r25 a2 k) k r25 a1 y46_1 a2)) (f486_j83 (f486_l46 a1 a0 r25 a2 k) k r25 a1 y46_1 a2))) (some (.b0 (-1:Int)))
def f486 (k:Nat) (a0:Int) (a1:(List TSchema)) (a2:TSchema):Option Int:=(f485 k a0).bind fun r12=>cond (!r12) (some (-1:Int)) ((f487 k a0).bind fun r25=>(f486_l46 a1 a0 r25 a2 k (0:Int)).bind fun o46=>(match o46 with | .b0 x46_1=>some x46_1 | _=>none))
theorem F486 {k:Nat} {a0:Int} {a1:(List TSchema)} {a2:TSchema} {r:Int} (h:f486 k a0 a1 a2 = some r) :
    ACalls Tryd.prog 24 [(.d (.int .i64 a0)),(.d (.sl (List.map TSchema.enc a1))),(.d (TSchema.enc a2))] [] (.d (.int .i64 r)) []:=by
 refine acalls_ret ⟨_,Tryd.func24,by kernel_rfl,by kernel_rfl,rfl⟩ 0 0 0 [(6,(.d (.int .i64 r)))] [] (doneA (.inr rfl) rfl ⟨trivial,trivial⟩ (.refl _) hasNil) ?_
 unfold f486 at h
 refine .seq (.e [] ?_)
 refine .scope (.seq ?_)
 refine .seq ?_
 obtain ⟨r12,e12,h⟩:=bind_some h
 refine .e [.call (F485 e12) [] 0] (.cB h (fun h=>?_) fun h=>?_)
 · refine .seq (.e [] ?_)
   cases h
   exact .ret rz
 refine .skip (.seq ?_)
 obtain ⟨r25,e25,h⟩:=bind_some h
 refine .e [.call (F487 e25) [] 0] (.seq ?_)
 refine .e [] (.seq ?_)
 refine .label (.seq ?_)
 refine .seq (.e [.ln TSchema.enc a1] ?_)
 obtain ⟨o46,h46,h⟩:=bind_some h
 refine .block (.lp 1 (fun k (x:Int)=>f486_l46 a1 a0 r25 a2 k x = some o46) (fun x=>[(1,(.d (.sl (List.map TSchema.enc a1)))),(5,(.ptr 0 0)),(7,(.d (.bool r25.1))),(8,(.d (.bool r25.2))),(9,(.d (.bool (decide (a0 ≥ (4:Int)))))),(10,(.d (.int .i64 (-1:Int)))),(22,(.d (.sl (List.map TSchema.enc a1)))),(23,(.d (.int .i64 ((a1.length:Nat):Int)))),(24,(.d (.int .i64 x)))]) (fun x=>[(0,(.cells [(.d (.sl (List.map TNode.enc a2.fNodes)))]))]) _ h46 [] [] ?_)
 intro k y46_1 h46
 rw [f486_l46] at h46
 refine .seq (.e [] ?_)
 refine .seq (.cD h46 (fun h46=>?_) fun h46=>?_)
 · cases h46
   dsimp only at h
   refine .exit (inBlk_eq ?_)
   refine .seq (.e [] ?_)
   cases h
   exact .ret rz
 refine .skip (.seq ?_)
 refine .block (.seq ?_)
 obtain ⟨b62,h46⟩:=gd_some h46
 refine .e [.iad TSchema.enc a1 1 (fun _=>rfl) b62] (.j 2 (fun (z:Unit)=>f486_j83 (f486_l46 a1 a0 r25 a2 k) k r25 a1 y46_1 a2 = some o46) (fun z=>[(1,(.d (.sl (List.map TSchema.enc a1)))),(5,(.ptr 0 0)),(7,(.d (.bool r25.1))),(8,(.d (.bool r25.2))),(9,(.d (.bool (decide (a0 ≥ (4:Int)))))),(10,(.d (.int .i64 (-1:Int)))),(11,(.d (.int .i64 y46_1))),(12,(.ptr 1 0)),(22,(.d (.sl (List.map TSchema.enc a1)))),(23,(.d (.int .i64 ((a1.length:Nat):Int)))),(24,(.d (.int .i64 y46_1))),(32,.any),(33,.any),(34,.any),(35,.any),(36,.any)]) (fun z=>[(0,(.cells [(.d (.sl (List.map TNode.enc a2.fNodes)))])),(1,(.cells [(.d (.sl (List.map TNode.enc (rd a1 y46_1).fNodes)))]))]) ?_ ?_)
 · refine .seq ?_
   rcases cc h46 with ⟨c73,h46⟩ | ⟨c73,h46⟩
   · refine .e [.br c73,.ln TSchema.enc a1] (.cD h46 (fun h46=>?_) fun h46=>?_)
     · exact .skip ⟨(),h46,inZ⟩
     refine .exit (inBlk_eq ?_)
     exact .e [] ⟨_,h46,inZ⟩
   refine .e [.br c73] (.cF rfl ?_)
   exact .skip ⟨(),h46,inZ⟩
 rintro ⟨⟩ h46
 unfold f486_j83 at h46
 refine .seq ?_
 rcases cc h46 with ⟨c87,h46⟩ | ⟨c87,h46⟩
 · obtain ⟨r90,e90,h46⟩:=bind_some h46
   rcases cc h46 with ⟨c93,h46⟩ | ⟨c93,h46⟩
   · refine .e [.br c87,.call (F382 e90) [] 0,.br c93] (.cT rfl ?_)
     refine .seq (.e [] ?_)
     cases h46
     dsimp only at h
     refine .exit (inBlk_ne rfl ?_)
     refine inBlk_eq (.seq ?_)
     refine .e [] ?_
     cases h
     exact .ret rz
   rcases cc h46 with ⟨c95,h46⟩ | ⟨c95,h46⟩
   · obtain ⟨r98,e98,h46⟩:=bind_some h46
     refine .e [.br c87,.call (F382 e90) [] 0,.br c93,.br c95,.call (F382 e98) [] 0] (.cD h46 (fun h46=>?_) fun h46=>?_)
     · refine .skip (.e [] ?_)
       exact ⟨_,h46,inZ⟩
     refine .seq (.e [] ?_)
     cases h46
     dsimp only at h
     refine .exit (inBlk_ne rfl ?_)
     refine inBlk_eq (.seq ?_)
     refine .e [] ?_
     cases h
     exact .ret rz
   refine .e [.br c87,.call (F382 e90) [] 0,.br c93,.br c95] (.cF rfl ?_)
   refine .skip (.e [] ?_)
   exact ⟨_,h46,inZ⟩
 rcases cc h46 with ⟨c95,h46⟩ | ⟨c95,h46⟩
 · obtain ⟨r98,e98,h46⟩:=bind_some h46
   refine .e [.br c87,.br (rfl:false = false),.br c95,.call (F382 e98) [] 0] (.cD h46 (fun h46=>?_) fun h46=>?_)
   · refine .skip (.e [] ?_)
     exact ⟨_,h46,inZ⟩
   refine .seq (.e [] ?_)
   cases h46
   dsimp only at h
   refine .exit (inBlk_ne rfl ?_)
   refine inBlk_eq (.seq ?_)
   refine .e [] ?_
   cases h
   exact .ret rz
 refine .e [.br c87,.br (rfl:false = false),.br c95] (.cF rfl ?_)
 refine .skip (.e [] ?_)
 exact ⟨_,h46,inZ⟩
def f484 (k:Nat) (a0:Int) (a1:(List TSchema)) (a2:TSchema):Option Bool:=(f485 k a0).bind fun r10=>cond r10 ((f486 k a0 a1 a2).bind fun r15=>some (decide (r15 < (0:Int)))) (some false)
theorem F484 {k:Nat} {a0:Int} {a1:(List TSchema)} {a2:TSchema} {r:Bool} (h:f484 k a0 a1 a2 = some r) :
    ACalls Tryd.prog 23 [(.d (.int .i64 a0)),(.d (.sl (List.map TSchema.enc a1))),(.d (TSchema.enc a2))] [] (.d (.bool r)) []:=by
 refine acalls_ret ⟨_,Tryd.func23,by kernel_rfl,by kernel_rfl,rfl⟩ 0 0 0 [(6,(.d (.bool r)))] [] (doneA (.inr rfl) rfl ⟨trivial,trivial⟩ (.refl _) hasNil) ?_
 unfold f484 at h
 refine .seq (.e [] ?_)
 refine .seq ?_
 obtain ⟨r10,e10,h⟩:=bind_some h
 rcases cc h with ⟨c11,h⟩ | ⟨c11,h⟩
 · obtain ⟨r15,e15,h⟩:=bind_some h
   refine .e [.call (F485 e10) [] 0,.br c11,.call (F486 e15) [] 0] ?_
   cases h
   exact .ret rz
 refine .e [.call (F485 e10) [] 0,.br c11] ?_
 cases h
 exact .ret rz
def f483 (k:Nat):Option Bool:=(f484 k (1:Int) ([(TSchema.mk ([(TNode.mk (3:Int) ([]:List UInt8) ([]:List (List UInt8)) ([]:List TField) ([]:List (List UInt8)) false ([]:List UInt8) (0:Int) ([]:List Int) (0:Int))]:List TNode))]:List TSchema) (TSchema.mk ([(TNode.mk (4:Int) ([]:List UInt8) ([]:List (List UInt8)) ([]:List TField) ([]:List (List UInt8)) false ([]:List UInt8) (0:Int) ([]:List Int) (0:Int))]:List TNode))).bind fun r24=>cond r24 ((f484 k (2:Int) ([(TSchema.mk ([(TNode.mk (3:Int) ([]:List UInt8) ([]:List (List UInt8)) ([]:List TField) ([]:List (List UInt8)) false ([]:List UInt8) (0:Int) ([]:List Int) (0:Int))]:List TNode))]:List TSchema) (TSchema.mk ([(TNode.mk (4:Int) ([]:List UInt8) ([]:List (List UInt8)) ([]:List TField) ([]:List (List UInt8)) false ([]:List UInt8) (0:Int) ([]:List Int) (0:Int))]:List TNode))).bind fun r29=>some (!r29)) (some false)
theorem F483 {k:Nat} {r:Bool} (h:f483 k = some r) :
    ACalls Tryd.prog 22 [] [] (.d (.bool r)) []:=by
 refine acalls_ret ⟨_,Tryd.func22,by kernel_rfl,by kernel_rfl,rfl⟩ 0 0 0 [(0,(.d (.bool r)))] [] (doneA (.inr rfl) rfl ⟨trivial,trivial⟩ (.refl _) hasNil) ?_
 unfold f483 at h
 refine .seq (.e [] ?_)
 refine .seq (.e [] ?_)
 refine .seq ?_
 obtain ⟨r24,e24,h⟩:=bind_some h
 rcases cc h with ⟨c25,h⟩ | ⟨c25,h⟩
 · obtain ⟨r29,e29,h⟩:=bind_some h
   refine .e [.call (F484 e24) [] 0,.br c25,.call (F484 e29) [] 0] ?_
   cases h
   exact .ret rz
 refine .e [.call (F484 e24) [] 0,.br c25] ?_
 cases h
 exact .ret rz
def f389 (k:Nat) (a0:Int) (a1:(List (List UInt8))) (a2:(List UInt8)) (a3:Int):Option Bool:=(f387 k a1).bind fun r9=>(f387 k ([a2]:List (List UInt8))).bind fun r20=>cond (!r9.2) ((f483 k).bind fun r45=>some r45) (cond (!r20.2) ((f483 k).bind fun r45=>some r45) (cond (decide (((r9.1.length:Nat):Int) = (0:Int))) ((f483 k).bind fun r45=>some r45) (gd ((IntKind.u64.wrap (IntKind.i64.wrap (((r9.1.length:Nat):Int) + (1:Int))))≠0) (cond (decide ((IntKind.i64.wrap ((1:Int) + (IntKind.i64.wrap (Int.tmod (IntKind.u64.wrap a0) (6:Int))))) ≥ (4:Int))) ((f483 k).bind fun r80=>cond r80 (gd (0≤(0:Int)∧(0:Int) < ((r20.1.length:Nat):Int)) ((f484 k (IntKind.i64.wrap ((1:Int) + (IntKind.i64.wrap (Int.tmod (IntKind.u64.wrap a0) (6:Int))))) r9.1 (rd r20.1 (0:Int))).bind fun r87=>gd (0≤(0:Int)∧(0:Int)≤(IntKind.i64.wrap (Int.tmod (IntKind.u64.wrap a3) (IntKind.u64.wrap (IntKind.i64.wrap (((r9.1.length:Nat):Int) + (1:Int))))))∧(IntKind.i64.wrap (Int.tmod (IntKind.u64.wrap a3) (IntKind.u64.wrap (IntKind.i64.wrap (((r9.1.length:Nat):Int) + (1:Int))))))≤((r9.1.length:Nat):Int)) (gd (0≤(0:Int)∧(0:Int) < ((r20.1.length:Nat):Int)) ((f484 k (IntKind.i64.wrap ((1:Int) + (IntKind.i64.wrap (Int.tmod (IntKind.u64.wrap a0) (6:Int))))) (sl r9.1 (0:Int) (IntKind.i64.wrap (Int.tmod (IntKind.u64.wrap a3) (IntKind.u64.wrap (IntKind.i64.wrap (((r9.1.length:Nat):Int) + (1:Int))))))) (rd r20.1 (0:Int))).bind fun r95=>cond r95 (gd (0≤(IntKind.i64.wrap (Int.tmod (IntKind.u64.wrap a3) (IntKind.u64.wrap (IntKind.i64.wrap (((r9.1.length:Nat):Int) + (1:Int))))))∧(IntKind.i64.wrap (Int.tmod (IntKind.u64.wrap a3) (IntKind.u64.wrap (IntKind.i64.wrap (((r9.1.length:Nat):Int) + (1:Int))))))≤((r9.1.length:Nat):Int)∧((r9.1.length:Nat):Int)≤((r9.1.length:Nat):Int)) (gd (0≤(0:Int)∧(0:Int) < ((r20.1.length:Nat):Int)) ((f484 k (IntKind.i64.wrap ((1:Int) + (IntKind.i64.wrap (Int.tmod (IntKind.u64.wrap a0) (6:Int))))) (sl r9.1 (IntKind.i64.wrap (Int.tmod (IntKind.u64.wrap a3) (IntKind.u64.wrap (IntKind.i64.wrap (((r9.1.length:Nat):Int) + (1:Int)))))) ((r9.1.length:Nat):Int)) (rd r20.1 (0:Int))).bind fun r104=>some (r87 == r104)))) (some (r87 == false)))))) (some false)) ((f483 k).bind fun r114=>cond r114 (gd (0≤(0:Int)∧(0:Int) < ((r20.1.length:Nat):Int)) ((f484 k (IntKind.i64.wrap ((1:Int) + (IntKind.i64.wrap (Int.tmod (IntKind.u64.wrap a0) (6:Int))))) r9.1 (rd r20.1 (0:Int))).bind fun r121=>gd (0≤(IntKind.i64.wrap (((r9.1.length:Nat):Int) - (1:Int)))∧(IntKind.i64.wrap (((r9.1.length:Nat):Int) - (1:Int)))≤((r9.1.length:Nat):Int)∧((r9.1.length:Nat):Int)≤((r9.1.length:Nat):Int)) (gd (0≤(0:Int)∧(0:Int) < ((r20.1.length:Nat):Int)) ((f484 k (IntKind.i64.wrap ((1:Int) + (IntKind.i64.wrap (Int.tmod (IntKind.u64.wrap a0) (6:Int))))) (sl r9.1 (IntKind.i64.wrap (((r9.1.length:Nat):Int) - (1:Int))) ((r9.1.length:Nat):Int)) (rd r20.1 (0:Int))).bind fun r131=>cond (r121 == r131) (gd (0≤(0:Int)∧(0:Int) < ((r20.1.length:Nat):Int)) ((f486 k (IntKind.i64.wrap ((1:Int) + (IntKind.i64.wrap (Int.tmod (IntKind.u64.wrap a0) (6:Int))))) r9.1 (rd r20.1 (0:Int))).bind fun r140=>cond (decide (r140 < (0:Int))) (some true) (gd (0≤(0:Int)∧(0:Int) < ((r20.1.length:Nat):Int)) ((f486 k (IntKind.i64.wrap ((1:Int) + (IntKind.i64.wrap (Int.tmod (IntKind.u64.wrap a0) (6:Int))))) r9.1 (rd r20.1 (0:Int))).bind fun r148=>some (decide (r148 = (IntKind.i64.wrap (((r9.1.length:Nat):Int) - (1:Int))))))))) (some false))))) (some false))))))
theorem F389 {k:Nat} {a0:Int} {a1:(List (List UInt8))} {a2:(List UInt8)} {a3:Int} {r:Bool} (h:f389 k a0 a1 a2 a3 = some r) :
    ACalls Tryd.prog 9 [(.d (.int .i64 a0)),(.d (.sl (List.map D.str a1))),(.d (.str a2)),(.d (.int .i64 a3))] [] (.d (.bool r)) []:=by
 refine acalls_ret ⟨_,Tryd.func9,by kernel_rfl,by kernel_rfl,rfl⟩ 0 0 0 [(8,(.d (.bool r)))] [] (doneA (.inr rfl) rfl ⟨trivial,trivial⟩ (.refl _) hasNil) ?_
 unfold f389 at h
 refine .seq (.e [] ?_)
 refine .seq ?_
 obtain ⟨r9,e9,h⟩:=bind_some h
 refine .e [.call (F387 e9) [] 1] (.seq ?_)
 obtain ⟨r20,e20,h⟩:=bind_some h
 refine .e [.call (F387 e20) [(0,1)] 1] (.seq ?_)
 refine .seq ?_
 rcases cc h with ⟨c32,h⟩ | ⟨c32,h⟩
 · refine .e [.br c32,.br (rfl:true = true)] (.cT rfl ?_)
   refine .seq ?_
   obtain ⟨r45,e45,h⟩:=bind_some h
   refine .e [.call (F483 e45) [] 0] ?_
   cases h
   exact .ret rz
 rcases cc h with ⟨c36,h⟩ | ⟨c36,h⟩
 · refine .e [.br c32,.br c36] (.cT rfl ?_)
   refine .seq ?_
   obtain ⟨r45,e45,h⟩:=bind_some h
   refine .e [.call (F483 e45) [] 0] ?_
   cases h
   exact .ret rz
 refine .e [.br c32,.br c36,.ln TSchema.enc r9.1] (.cB h (fun h=>?_) fun h=>?_)
 · refine .seq ?_
   obtain ⟨r45,e45,h⟩:=bind_some h
   refine .e [.call (F483 e45) [] 0] ?_
   cases h
   exact .ret rz
 refine .skip (.seq ?_)
 obtain ⟨b58,h⟩:=gd_some h
 refine .e [.ln TSchema.enc r9.1,.sd b58] (.seq ?_)
 refine .e [.sd (p:=(6:Int)≠0) (by decide)] (.seq ?_)
 refine .seq (.e [] ?_)
 refine .cB h (fun h=>?_) fun h=>?_
 · refine .seq ?_
   obtain ⟨r80,e80,h⟩:=bind_some h
   rcases cc h with ⟨c81,h⟩ | ⟨c81,h⟩
   · obtain ⟨b85,h⟩:=gd_some h
     obtain ⟨r87,e87,h⟩:=bind_some h
     obtain ⟨b91,h⟩:=gd_some h
     obtain ⟨b93,h⟩:=gd_some h
     obtain ⟨r95,e95,h⟩:=bind_some h
     rcases cc h with ⟨c96,h⟩ | ⟨c96,h⟩
     · obtain ⟨b100,h⟩:=gd_some h
       obtain ⟨b102,h⟩:=gd_some h
       obtain ⟨r104,e104,h⟩:=bind_some h
       refine .e [.call (F483 e80) [] 0,.br c81,.iad TSchema.enc r20.1 1 (fun _=>rfl) b85,.call (F484 e87) [] 0,.slc TSchema.enc r9.1 1 (fun _=>rfl) b91,.iad TSchema.enc r20.1 1 (fun _=>rfl) b93,.call (F484 e95) [] 0,.br c96,.slc TSchema.enc r9.1 1 (fun _=>rfl) b100,.iad TSchema.enc r20.1 1 (fun _=>rfl) b102,.call (F484 e104) [] 0] ?_
       cases h
       exact .ret rz
     refine .e [.call (F483 e80) [] 0,.br c81,.iad TSchema.enc r20.1 1 (fun _=>rfl) b85,.call (F484 e87) [] 0,.slc TSchema.enc r9.1 1 (fun _=>rfl) b91,.iad TSchema.enc r20.1 1 (fun _=>rfl) b93,.call (F484 e95) [] 0,.br c96] ?_
     cases h
     exact .ret rz
   refine .e [.call (F483 e80) [] 0,.br c81] ?_
   cases h
   exact .ret rz
 refine .skip (.seq ?_)
 obtain ⟨r114,e114,h⟩:=bind_some h
 rcases cc h with ⟨c115,h⟩ | ⟨c115,h⟩
 · obtain ⟨b119,h⟩:=gd_some h
   obtain ⟨r121,e121,h⟩:=bind_some h
   obtain ⟨b127,h⟩:=gd_some h
   obtain ⟨b129,h⟩:=gd_some h
   obtain ⟨r131,e131,h⟩:=bind_some h
   rcases cc h with ⟨c134,h⟩ | ⟨c134,h⟩
   · obtain ⟨b138,h⟩:=gd_some h
     obtain ⟨r140,e140,h⟩:=bind_some h
     rcases cc h with ⟨c142,h⟩ | ⟨c142,h⟩
     · refine .e [.call (F483 e114) [] 0,.br c115,.iad TSchema.enc r20.1 1 (fun _=>rfl) b119,.call (F484 e121) [] 0,.ln TSchema.enc r9.1,.slc TSchema.enc r9.1 1 (fun _=>rfl) b127,.iad TSchema.enc r20.1 1 (fun _=>rfl) b129,.call (F484 e131) [] 0,.br c134,.iad TSchema.enc r20.1 1 (fun _=>rfl) b138,.call (F486 e140) [] 0,.br c142] ?_
       cases h
       exact .ret rz
     obtain ⟨b146,h⟩:=gd_some h
     obtain ⟨r148,e148,h⟩:=bind_some h
     refine .e [.call (F483 e114) [] 0,.br c115,.iad TSchema.enc r20.1 1 (fun _=>rfl) b119,.call (F484 e121) [] 0,.ln TSchema.enc r9.1,.slc TSchema.enc r9.1 1 (fun _=>rfl) b127,.iad TSchema.enc r20.1 1 (fun _=>rfl) b129,.call (F484 e131) [] 0,.br c134,.iad TSchema.enc r20.1 1 (fun _=>rfl) b138,.call (F486 e140) [] 0,.br c142,.iad TSchema.enc r20.1 1 (fun _=>rfl) b146,.call (F486 e148) [] 0,.ln TSchema.enc r9.1] ?_
     cases h
     exact .ret rz
   refine .e [.call (F483 e114) [] 0,.br c115,.iad TSchema.enc r20.1 1 (fun _=>rfl) b119,.call (F484 e121) [] 0,.ln TSchema.enc r9.1,.slc TSchema.enc r9.1 1 (fun _=>rfl) b127,.iad TSchema.enc r20.1 1 (fun _=>rfl) b129,.call (F484 e131) [] 0,.br c134] ?_
   cases h
   exact .ret rz
 refine .e [.call (F483 e114) [] 0,.br c115,.br (rfl:false = false)] ?_
 cases h
 exact .ret rz
end Go.Proofs.Abs
