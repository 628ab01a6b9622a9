import Derived.Test.YtnhndjbninibhaaDoorAbsxd
import Derived.Test.YtnhndjbninibhaaDoorPU8m
set_option linter.unusedVariables false
set_option linter.unusedSimpArgs false
set_option linter.unusedSectionVars false
set_option linter.unusedVariables false
set_option linter.unusedSimpArgs false
set_option maxRecDepth 100000
set_option maxHeartbeats 4000000
namespace Go.Proofs.Abs
open Go
theorem hmix:Tryd.prog.follows .mixedOrders = true:=by kernel_rfl
theorem AWc.e {ro:Option Nat} {m N n:Nat} {l:List (Nat×AV)} {H:AHeap} {Q:Exit→AAct→AHeap→Nat→Prop} {draw:Bool} {aops:List AOper} (evs:List (Ev Tryd.prog)) (hQ:Q .normal ⟨N,rgL (rgX m N evs draw aops l H n)⟩ (rgH (rgX m N evs draw aops l H n)) (rgC (rgX m N evs draw aops l H n))) (h:lhsC (rgP (rgX m N evs draw aops l H n)) = rhsC (rgP (rgX m N evs draw aops l H n)):=by kernel_rfl):AWc Tryd.prog ro m (.region draw aops) ⟨N,l⟩ H n Q:=AWc.rE hmix evs hQ h
structure TJson where
  fKind:Int
  fText:(List UInt8)
  fL:(List (RT 4))
  fKeys:(List (List UInt8))
instance:Inhabited TJson:=⟨⟨default,default,default,default⟩⟩
def TJson.enc (x:TJson):D:=.agg [.int .i64 x.fKind,.str x.fText,.sl (List.map (rtE (z:=4)) x.fL),.sl (List.map D.str x.fKeys)]
theorem TJson.ok:EncOK TJson.enc 4 true:=⟨fun _=>rfl,fun _ c hc=>by simp only [TJson.enc,D.cells,List.mem_cons,List.not_mem_nil,or_false] at hc; rcases hc with rfl | rfl | rfl | rfl <;> rfl,fun _=>rfl⟩
def TJson.dec:D→Option TJson
  | .agg [c0,c1,c2,c3]=>((decI .i64) c0).bind fun x0=>(decS c1).bind fun x1=>((decL (decR 4)) c2).bind fun x2=>((decL decS) c3).bind fun x3=>some ⟨x0,x1,x2,x3⟩
  | _=>none
theorem TJson.dec_eq {d:D} {x:TJson} (h:TJson.dec d = some x):d = TJson.enc x:=by
  unfold TJson.dec at h
  split at h
  · obtain ⟨x0,e0,h⟩:=bind_some h
    obtain ⟨x1,e1,h⟩:=bind_some h
    obtain ⟨x2,e2,h⟩:=bind_some h
    obtain ⟨x3,e3,h⟩:=bind_some h
    cases h
    have q0:=decI_eq e0
    subst q0
    have q1:=decS_eq e1
    subst q1
    have q2:=decL_eq decR_eq e2
    subst q2
    have q3:=decL_eq (fun _ _ h=>decS_eq h) e3
    subst q3
    rfl
  · cases h
theorem TJson.dec_put (x:TJson):TJson.dec (TJson.enc x) = some x:=by
  unfold TJson.dec TJson.enc
  simp only [(decI_put .i64) x.fKind,decS_put x.fText,(decL_put (e:=(rtE (z:=4))) (decR_put (z:=4))) x.fL,(decL_put (e:=D.str) decS_put) x.fKeys,Option.bind_some]
theorem TJson.dec_of (x:TJson):TJson.dec (rtE (RT.of TJson.ok x)) = some x:=TJson.dec_put x
def TJson.wf (x:TJson):Prop:=(-9223372036854775808≤x.fKind∧x.fKind≤9223372036854775807)∧True∧True∧(∀ e0∈x.fKeys,True)∧True
def TJson.sz (x:TJson):Nat:=(1 + ((x.fText.length + 1) + ((x.fL.length + 1) + (((x.fKeys.map (fun x=>(x.length + 1))).sum + 1) + 0)))) + 1
structure TField where
  fName:(List UInt8)
  fAliases:(List (List UInt8))
  fType:Int
  fHas:Bool
  fDefault:(List UInt8)
instance:Inhabited TField:=⟨⟨default,default,default,default,default⟩⟩
instance:DecidableEq TField:=fun a b=>decidable_of_iff (a.fName = b.fName∧a.fAliases = b.fAliases∧a.fType = b.fType∧a.fHas = b.fHas∧a.fDefault = b.fDefault∧True) ⟨fun h=>by cases a; cases b; simp_all,fun h=>by subst h; simp⟩
def TField.enc (x:TField):D:=.agg [.str x.fName,.sl (List.map D.str x.fAliases),.int .i64 x.fType,.bool x.fHas,.str x.fDefault]
theorem TField.ok:EncOK TField.enc 5 true:=⟨fun _=>rfl,fun _ c hc=>by simp only [TField.enc,D.cells,List.mem_cons,List.not_mem_nil,or_false] at hc; rcases hc with rfl | rfl | rfl | rfl | rfl <;> rfl,fun _=>rfl⟩
def TField.wf (x:TField):Prop:=True∧(∀ e0∈x.fAliases,True)∧(-9223372036854775808≤x.fType∧x.fType≤9223372036854775807)∧True∧True∧True
def TField.sz (x:TField):Nat:=((x.fName.length + 1) + (((x.fAliases.map (fun x=>(x.length + 1))).sum + 1) + (1 + (1 + ((x.fDefault.length + 1) + 0))))) + 1
structure TNode where
  fKind:Int
  fName:(List UInt8)
  fAliases:(List (List UInt8))
  fFields:(List TField)
  fSymbols:(List (List UInt8))
  fHas:Bool
  fDefault:(List UInt8)
  fItems:Int
  fBranches:(List Int)
  fSize:Int
instance:Inhabited TNode:=⟨⟨default,default,default,default,default,default,default,default,default,default⟩⟩
instance:DecidableEq TNode:=fun a b=>decidable_of_iff (a.fKind = b.fKind∧a.fName = b.fName∧a.fAliases = b.fAliases∧a.fFields = b.fFields∧a.fSymbols = b.fSymbols∧a.fHas = b.fHas∧a.fDefault = b.fDefault∧a.fItems = b.fItems∧a.fBranches = b.fBranches∧a.fSize = b.fSize∧True) ⟨fun h=>by cases a; cases b; simp_all,fun h=>by subst h; simp⟩
def TNode.enc (x:TNode):D:=.agg [.int .i64 x.fKind,.str x.fName,.sl (List.map D.str x.fAliases),.sl (List.map TField.enc x.fFields),.sl (List.map D.str x.fSymbols),.bool x.fHas,.str x.fDefault,.int .i64 x.fItems,.sl (List.map (D.int .i64) x.fBranches),.int .i64 x.fSize]
theorem TNode.ok:EncOK TNode.enc 10 true:=⟨fun _=>rfl,fun _ c hc=>by simp only [TNode.enc,D.cells,List.mem_cons,List.not_mem_nil,or_false] at hc; rcases hc with rfl | rfl | rfl | rfl | rfl | rfl | rfl | rfl | rfl | rfl <;> rfl,fun _=>rfl⟩
def TNode.wf (x:TNode):Prop:=(-9223372036854775808≤x.fKind∧x.fKind≤9223372036854775807)∧True∧(∀ e0∈x.fAliases,True)∧(∀ e0∈x.fFields,TField.wf e0)∧(∀ e0∈x.fSymbols,True)∧True∧True∧(-9223372036854775808≤x.fItems∧x.fItems≤9223372036854775807)∧(∀ e0∈x.fBranches,(-9223372036854775808≤e0∧e0≤9223372036854775807))∧(-9223372036854775808≤x.fSize∧x.fSize≤9223372036854775807)∧True
def TNode.sz (x:TNode):Nat:=(1 + ((x.fName.length + 1) + (((x.fAliases.map (fun x=>(x.length + 1))).sum + 1) + (((x.fFields.map TField.sz).sum + 1) + (((x.fSymbols.map (fun x=>(x.length + 1))).sum + 1) + (1 + ((x.fDefault.length + 1) + (1 + (((x.fBranches.map (fun _=>1)).sum + 1) + (1 + 0)))))))))) + 1
structure TSchema where
  fNodes:(List TNode)
instance:Inhabited TSchema:=⟨⟨default⟩⟩
instance:DecidableEq TSchema:=fun a b=>decidable_of_iff (a.fNodes = b.fNodes∧True) ⟨fun h=>by cases a; cases b; simp_all,fun h=>by subst h; simp⟩
def TSchema.enc (x:TSchema):D:=.agg [.sl (List.map TNode.enc x.fNodes)]
theorem TSchema.ok:EncOK TSchema.enc 1 true:=⟨fun _=>rfl,fun _ c hc=>by simp only [TSchema.enc,D.cells,List.mem_cons,List.not_mem_nil,or_false] at hc; rcases hc with rfl <;> rfl,fun _=>rfl⟩
def TSchema.wf (x:TSchema):Prop:=(∀ e0∈x.fNodes,TNode.wf e0)∧True
def TSchema.sz (x:TSchema):Nat:=(((x.fNodes.map TNode.sz).sum + 1) + 0) + 1
structure TValue where
  fKind:Int
  fN:Int
  fB:(List UInt8)
  fL:(List (RT 5))
  fKeys:(List (List UInt8))
instance:Inhabited TValue:=⟨⟨default,default,default,default,default⟩⟩
def TValue.enc (x:TValue):D:=.agg [.int .i64 x.fKind,.int .i64 x.fN,.sl (List.map byteD x.fB),.sl (List.map (rtE (z:=5)) x.fL),.sl (List.map D.str x.fKeys)]
theorem TValue.ok:EncOK TValue.enc 5 true:=⟨fun _=>rfl,fun _ c hc=>by simp only [TValue.enc,D.cells,List.mem_cons,List.not_mem_nil,or_false] at hc; rcases hc with rfl | rfl | rfl | rfl | rfl <;> rfl,fun _=>rfl⟩
def TValue.dec:D→Option TValue
  | .agg [c0,c1,c2,c3,c4]=>((decI .i64) c0).bind fun x0=>((decI .i64) c1).bind fun x1=>((decL decY) c2).bind fun x2=>((decL (decR 5)) c3).bind fun x3=>((decL decS) c4).bind fun x4=>some ⟨x0,x1,x2,x3,x4⟩
  | _=>none
theorem TValue.dec_eq {d:D} {x:TValue} (h:TValue.dec d = some x):d = TValue.enc x:=by
  unfold TValue.dec at h
  split at h
  · obtain ⟨x0,e0,h⟩:=bind_some h
    obtain ⟨x1,e1,h⟩:=bind_some h
    obtain ⟨x2,e2,h⟩:=bind_some h
    obtain ⟨x3,e3,h⟩:=bind_some h
    obtain ⟨x4,e4,h⟩:=bind_some h
    cases h
    have q0:=decI_eq e0
    subst q0
    have q1:=decI_eq e1
    subst q1
    have q2:=decL_eq (fun _ _ h=>decY_eq h) e2
    subst q2
    have q3:=decL_eq decR_eq e3
    subst q3
    have q4:=decL_eq (fun _ _ h=>decS_eq h) e4
    subst q4
    rfl
  · cases h
theorem TValue.dec_put (x:TValue):TValue.dec (TValue.enc x) = some x:=by
  unfold TValue.dec TValue.enc
  simp only [(decI_put .i64) x.fKind,(decI_put .i64) x.fN,(decL_put (e:=byteD) decY_put) x.fB,(decL_put (e:=(rtE (z:=5))) (decR_put (z:=5))) x.fL,(decL_put (e:=D.str) decS_put) x.fKeys,Option.bind_some]
theorem TValue.dec_of (x:TValue):TValue.dec (rtE (RT.of TValue.ok x)) = some x:=TValue.dec_put x
def TValue.wf (x:TValue):Prop:=(-9223372036854775808≤x.fKind∧x.fKind≤9223372036854775807)∧(-9223372036854775808≤x.fN∧x.fN≤9223372036854775807)∧(∀ e0∈x.fB,True)∧True∧(∀ e0∈x.fKeys,True)∧True
def TValue.sz (x:TValue):Nat:=(1 + (1 + (((x.fB.map (fun _=>1)).sum + 1) + ((x.fL.length + 1) + (((x.fKeys.map (fun x=>(x.length + 1))).sum + 1) + 0))))) + 1
structure Tcheck_pair where
  fi:Int
  fk:Int
instance:Inhabited Tcheck_pair:=⟨⟨default,default⟩⟩
instance:DecidableEq Tcheck_pair:=fun a b=>decidable_of_iff (a.fi = b.fi∧a.fk = b.fk∧True) ⟨fun h=>by cases a; cases b; simp_all,fun h=>by subst h; simp⟩
def Tcheck_pair.enc (x:Tcheck_pair):D:=.agg [.int .i64 x.fi,.int .i64 x.fk]
theorem Tcheck_pair.ok:EncOK Tcheck_pair.enc 2 true:=⟨fun _=>rfl,fun _ c hc=>by simp only [Tcheck_pair.enc,D.cells,List.mem_cons,List.not_mem_nil,or_false] at hc; rcases hc with rfl | rfl <;> rfl,fun _=>rfl⟩
theorem Tcheck_pair.key:KeyOK [0,0] Tcheck_pair.enc:=⟨fun _=>rfl,fun _=>rfl,fun a b=>by cases a; cases b; simp [Tcheck_pair.enc,D.cells,eqDs]⟩
def Tcheck_pair.wf (x:Tcheck_pair):Prop:=(-9223372036854775808≤x.fi∧x.fi≤9223372036854775807)∧(-9223372036854775808≤x.fk∧x.fk≤9223372036854775807)∧True
def Tcheck_pair.sz (x:Tcheck_pair):Nat:=(1 + (1 + 0)) + 1
abbrev Y296:=(List UInt8)→Int→Int→Int→Option (Int×(List UInt8)×(List (RT 4))×(List (List UInt8))×Int×Int)
def RH296 (rc296:Y296):Prop:=∀ (a0:(List UInt8)) (a1:Int) (a2:Int) (a3:Int) (r:(Int×(List UInt8)×(List (RT 4))×(List (List UInt8))×Int×Int)),rc296 a0 a1 a2 a3 = some r→ACalls Tryd.prog 45 [(.ptr 0 0),(.d (.int .i64 a3))] [(0,(.cells [(.d (.str a0)),(.d (.int .i64 a1)),(.d (.int .i64 a2))]))] (.d (.agg [(.int .i64 r.1),(.str r.2.1),(.sl (List.map (rtE (z:=4)) r.2.2.1)),(.sl (List.map D.str r.2.2.2.1))])) [(0,(.cells [(.d (.str a0)),(.d (.int .i64 r.2.2.2.2.1)),(.d (.int .i64 r.2.2.2.2.2))]))]
def f297_j68 (L:Int→Option (LR2 Int Unit Int)) (k:Nat) (y1_1:Int) (j68_1:Bool) (j68_2:Bool) (j68_3:Bool) (j68_4:Bool) (j68_5:Bool) (j68_6:Bool):Option (LR2 Int Unit Int):=L (IntKind.i64.wrap (y1_1 + (1:Int)))
def f297_l1 (a0:(List UInt8)):Nat→Int→Option (LR2 Int Unit Int)
  | 0,_=>none
  | k + 1,y1_1=>cond (decide (y1_1 < ((a0.length:Nat):Int))) (gd (0≤y1_1∧y1_1 < ((a0.length:Nat):Int)) (cond (decide ((((a0.getD (y1_1).toNat 0).toNat:Nat):Int) = (32:Int))) (f297_j68 (f297_l1 a0 k) k y1_1 true true true true true true) (gd (0≤y1_1∧y1_1 < ((a0.length:Nat):Int)) (cond (decide ((((a0.getD (y1_1).toNat 0).toNat:Nat):Int) = (9:Int))) (f297_j68 (f297_l1 a0 k) k y1_1 false (decide ((((a0.getD (y1_1).toNat 0).toNat:Nat):Int) = (9:Int))) true true true true) (gd (0≤y1_1∧y1_1 < ((a0.length:Nat):Int)) (cond (decide ((((a0.getD (y1_1).toNat 0).toNat:Nat):Int) = (10:Int))) (f297_j68 (f297_l1 a0 k) k y1_1 false (decide ((((a0.getD (y1_1).toNat 0).toNat:Nat):Int) = (9:Int))) false (decide ((((a0.getD (y1_1).toNat 0).toNat:Nat):Int) = (10:Int))) true true) (gd (0≤y1_1∧y1_1 < ((a0.length:Nat):Int)) (cond (decide ((((a0.getD (y1_1).toNat 0).toNat:Nat):Int) = (13:Int))) (f297_j68 (f297_l1 a0 k) k y1_1 false (decide ((((a0.getD (y1_1).toNat 0).toNat:Nat):Int) = (9:Int))) false (decide ((((a0.getD (y1_1).toNat 0).toNat:Nat):Int) = (10:Int))) false (decide ((((a0.getD (y1_1).toNat 0).toNat:Nat):Int) = (13:Int)))) (some (.b0 y1_1)))))))))) (some (.b0 y1_1))
def f297 (k:Nat) (a0:(List UInt8)) (a1:Int) (a2:Int):Option Int:=(f297_l1 a0 k a1).bind fun o1=>(match o1 with | .b0 x1_1=>some x1_1 | _=>none)
theorem F297 {k:Nat} {a0:(List UInt8)} {a1:Int} {a2:Int} {r:Int} (h:f297 k a0 a1 a2 = some r) :
    ACalls Tryd.prog 46 [(.ptr 0 0)] [(0,(.cells [(.d (.str a0)),(.d (.int .i64 a1)),(.d (.int .i64 a2))]))] (.tup []) [(0,(.cells [(.d (.str a0)),(.d (.int .i64 r)),(.d (.int .i64 a2))]))]:=by
 refine acalls_ret ⟨_,Tryd.func46,by kernel_rfl,by kernel_rfl,rfl⟩ 1 1 1 [] [(0,(.cells [(.d (.str a0)),(.d (.int .i64 r)),(.d (.int .i64 a2))]))] (doneA (.inr rfl) rfl trivial (.refl _) (hasCons rfl hasNil)) ?_
 unfold f297 at h
 obtain ⟨o1,h1,h⟩:=bind_some h
 refine .block (.lp 1 (fun k (x:Int)=>f297_l1 a0 k x = some o1) (fun x=>[(0,(.ptr 0 0))]) (fun x=>[(0,(.cells [(.d (.str a0)),(.d (.int .i64 x)),(.d (.int .i64 a2))]))]) _ h1 [] [] ?_)
 intro k y1_1 h1
 rw [f297_l1] at h1
 refine .j 1 (fun (z:(Bool×Bool×Bool×Bool×Bool×Bool))=>f297_j68 (f297_l1 a0 k) k y1_1 z.1 z.2.1 z.2.2.1 z.2.2.2.1 z.2.2.2.2.1 z.2.2.2.2.2 = some o1) (fun z=>[(0,(.ptr 0 0)),(13,(.ptr 0 0)),(14,(.ptr 0 0)),(15,(.ptr 0 0)),(16,(.d (.str a0))),(17,(.ptr 0 0)),(18,(.ptr 0 0)),(19,(.ptr 0 1)),(20,(.d (.int .i64 y1_1))),(21,(.d (.int .u8 (((a0.getD (y1_1).toNat 0).toNat:Nat):Int)))),(22,(.d (.bool (decide ((((a0.getD (y1_1).toNat 0).toNat:Nat):Int) = (32:Int)))))),(23,(.d (.bool z.1))),(24,.any),(25,.any),(26,.any),(27,.any),(28,.any),(29,.any),(30,.any),(31,.any),(32,.any),(33,.any),(34,(.d (.bool z.2.1))),(35,(.d (.bool z.2.2.1))),(36,.any),(37,.any),(38,.any),(39,.any),(40,.any),(41,.any),(42,.any),(43,.any),(44,.any),(45,.any),(46,(.d (.bool z.2.2.2.1))),(47,(.d (.bool z.2.2.2.2.1))),(48,.any),(49,.any),(50,.any),(51,.any),(52,.any),(53,.any),(54,.any),(55,.any),(56,.any),(57,.any),(58,(.d (.bool z.2.2.2.2.2)))]) (fun z=>[(0,(.cells [(.d (.str a0)),(.d (.int .i64 y1_1)),(.d (.int .i64 a2))]))]) ?_ ?_
 · refine .seq ?_
   rcases cc h1 with ⟨c17,h1⟩ | ⟨c17,h1⟩
   · obtain ⟨b26,h1⟩:=gd_some h1
     rcases cc h1 with ⟨c28,h1⟩ | ⟨c28,h1⟩
     · refine .e [.br c17,.sd b26,.br c28,.br (rfl:true = true),.br (rfl:true = true)] (.cT rfl ?_)
       exact .skip ⟨(_,_,_,_,_,_),h1,inZ⟩
     obtain ⟨b37,h1⟩:=gd_some h1
     rcases cc h1 with ⟨c40,h1⟩ | ⟨c40,h1⟩
     · refine .e [.br c17,.sd b26,.br c28,.sd b37,.br c40,.br (rfl:true = true)] (.cT rfl ?_)
       exact .skip ⟨(_,_,_,_,_,_),h1,inZ⟩
     obtain ⟨b49,h1⟩:=gd_some h1
     rcases cc h1 with ⟨c52,h1⟩ | ⟨c52,h1⟩
     · refine .e [.br c17,.sd b26,.br c28,.sd b37,.br c40,.sd b49,.br c52] (.cT rfl ?_)
       exact .skip ⟨(_,_,_,_,_,_),h1,inZ⟩
     obtain ⟨b61,h1⟩:=gd_some h1
     refine .e [.br c17,.sd b26,.br c28,.sd b37,.br c40,.sd b49,.br c52,.sd b61] (.cB h1 (fun h1=>?_) fun h1=>?_)
     · exact .skip ⟨(_,_,_,_,_,_),h1,inZ⟩
     cases h1
     dsimp only at h
     refine .exit (inBlk_eq ?_)
     cases h
     exact rqn [] []
   refine .e [.br c17] (.cF rfl ?_)
   cases h1
   dsimp only at h
   refine .exit (inBlk_eq ?_)
   cases h
   exact rqn [] []
 rintro ⟨j68_1,j68_2,j68_3,j68_4,j68_5,j68_6⟩ h1
 dsimp only at h1 ⊢
 unfold f297_j68 at h1
 refine .block (.e [] ?_)
 exact ⟨_,h1,inZ⟩
def f298 (k:Nat) (a0:(List UInt8)) (a1:Int) (a2:Int) (a3:Int):Option Int:=cond (decide (a2 = (0:Int))) (some a3) (some a2)
theorem F298 {k:Nat} {a0:(List UInt8)} {a1:Int} {a2:Int} {a3:Int} {r:Int} (h:f298 k a0 a1 a2 a3 = some r) :
    ACalls Tryd.prog 47 [(.ptr 0 0),(.d (.int .i64 a3))] [(0,(.cells [(.d (.str a0)),(.d (.int .i64 a1)),(.d (.int .i64 a2))]))] (.tup []) [(0,(.cells [(.d (.str a0)),(.d (.int .i64 a1)),(.d (.int .i64 r))]))]:=by
 refine acalls_ret ⟨_,Tryd.func47,by kernel_rfl,by kernel_rfl,rfl⟩ 1 1 1 [] [(0,(.cells [(.d (.str a0)),(.d (.int .i64 a1)),(.d (.int .i64 r))]))] (doneA (.inr rfl) rfl trivial (.refl _) (hasCons rfl hasNil)) ?_
 unfold f298 at h
 refine .seq (.e [] ?_)
 refine .cB h (fun h=>?_) fun h=>?_
 · refine .e [] ?_
   cases h
   exact rqn [] []
 refine .skip ?_
 cases h
 exact rqn [] []
def f299_j42 (k:Nat) (a1:Int) (a3:(List UInt8)) (j42_1:Bool):Option (Bool×Int):=cond j42_1 (some (true,(IntKind.i64.wrap (a1 + ((a3.length:Nat):Int))))) (some (false,a1))
def f299 (k:Nat) (a0:(List UInt8)) (a1:Int) (a2:Int) (a3:(List UInt8)):Option (Bool×Int):=cond (decide ((IntKind.i64.wrap (((a0.length:Nat):Int) - a1)) ≥ ((a3.length:Nat):Int))) (gd (0≤a1∧a1≤(IntKind.i64.wrap (a1 + ((a3.length:Nat):Int)))∧(IntKind.i64.wrap (a1 + ((a3.length:Nat):Int)))≤((a0.length:Nat):Int)) (f299_j42 k a1 a3 (decide ((sl a0 a1 (IntKind.i64.wrap (a1 + ((a3.length:Nat):Int)))) = a3)))) (f299_j42 k a1 a3 false)
theorem F299 {k:Nat} {a0:(List UInt8)} {a1:Int} {a2:Int} {a3:(List UInt8)} {r:(Bool×Int)} (h:f299 k a0 a1 a2 a3 = some r) :
    ACalls Tryd.prog 64 [(.ptr 0 0),(.d (.str a3))] [(0,(.cells [(.d (.str a0)),(.d (.int .i64 a1)),(.d (.int .i64 a2))]))] (.d (.bool r.1)) [(0,(.cells [(.d (.str a0)),(.d (.int .i64 r.2)),(.d (.int .i64 a2))]))]:=by
 refine acalls_ret ⟨_,Tryd.func64,by kernel_rfl,by kernel_rfl,rfl⟩ 1 1 1 [(4,(.d (.bool r.1)))] [(0,(.cells [(.d (.str a0)),(.d (.int .i64 r.2)),(.d (.int .i64 a2))]))] (doneA (.inr rfl) rfl ⟨trivial,trivial⟩ (.refl _) (hasCons rfl hasNil)) ?_
 unfold f299 at h
 refine .seq (.e [] ?_)
 refine .seq (.j 1 (fun z=>f299_j42 k a1 a3 z = some r) (fun z=>[(0,(.ptr 0 0)),(1,(.d (.str a3))),(37,(.d (.bool z)))]) (fun z=>[(0,(.cells [(.d (.str a0)),(.d (.int .i64 a1)),(.d (.int .i64 a2))]))]) ?_ ?_)
 · rcases cc h with ⟨c22,h⟩ | ⟨c22,h⟩
   · obtain ⟨b38,h⟩:=gd_some h
     exact .e [.br c22,.sd b38] ⟨_,h,inZ⟩
   exact .e [.br c22] ⟨_,h,inZ⟩
 intro j42_1 h
 unfold f299_j42 at h
 refine .cD h (fun h=>?_) fun h=>?_
 · refine .skip (.seq ?_)
   refine .e [] ?_
   cases h
   exact .ret rz
 refine .seq (.e [] ?_)
 refine .seq (.e [] ?_)
 cases h
 exact .ret rz
def f303_j56 (k:Nat) (a0:UInt8) (j56_1:Bool):Option Int:=cond j56_1 (some (IntKind.i64.wrap ((IntKind.i64.wrap (((u8 (IntKind.u8.wrap (((a0.toNat:Nat):Int) - (65:Int)))).toNat:Nat):Int)) + (10:Int)))) (some (-1:Int))
def f303_j36 (k:Nat) (a0:UInt8) (j36_1:Bool):Option Int:=cond j36_1 (some (IntKind.i64.wrap ((IntKind.i64.wrap (((u8 (IntKind.u8.wrap (((a0.toNat:Nat):Int) - (97:Int)))).toNat:Nat):Int)) + (10:Int)))) (cond (decide (((a0.toNat:Nat):Int) ≥ (65:Int))) (f303_j56 k a0 (decide (((a0.toNat:Nat):Int)≤(70:Int)))) (f303_j56 k a0 false))
def f303_j17 (k:Nat) (a0:UInt8) (j17_1:Bool):Option Int:=cond j17_1 (some (IntKind.i64.wrap (((u8 (IntKind.u8.wrap (((a0.toNat:Nat):Int) - (48:Int)))).toNat:Nat):Int))) (cond (decide (((a0.toNat:Nat):Int) ≥ (97:Int))) (f303_j36 k a0 (decide (((a0.toNat:Nat):Int)≤(102:Int)))) (f303_j36 k a0 false))
def f303 (k:Nat) (a0:UInt8):Option Int:=cond (decide (((a0.toNat:Nat):Int) ≥ (48:Int))) (f303_j17 k a0 (decide (((a0.toNat:Nat):Int)≤(57:Int)))) (f303_j17 k a0 false)
theorem F303 {k:Nat} {a0:UInt8} {r:Int} (h:f303 k a0 = some r) :
    ACalls Tryd.prog 122 [(.d (.int .u8 ((a0.toNat:Nat):Int)))] [] (.d (.int .i64 r)) []:=by
 refine acalls_ret ⟨_,Tryd.func122,by kernel_rfl,by kernel_rfl,rfl⟩ 0 0 0 [(2,(.d (.int .i64 r)))] [] (doneA (.inr rfl) rfl ⟨trivial,trivial⟩ (.refl _) hasNil) ?_
 unfold f303 at h
 refine .seq (.e [] ?_)
 refine .seq (.block ?_)
 refine .j 0 (fun z=>f303_j17 k a0 z = some r) (fun z=>[(0,(.d (.int .u8 ((a0.toNat:Nat):Int)))),(3,(.d (.bool z)))]) (fun z=>[]) ?_ ?_
 · rcases cc h with ⟨c12,h⟩ | ⟨c12,h⟩
   · exact .e [.br c12] ⟨_,h,inZ⟩
   exact .e [.br c12] ⟨_,h,inZ⟩
 intro j17_1 h
 unfold f303_j17 at h
 refine .cB h (fun h=>?_) fun h=>?_
 · refine .seq (.e [] ?_)
   cases h
   exact .ret rz
 refine .j 0 (fun z=>f303_j36 k a0 z = some r) (fun z=>[(0,(.d (.int .u8 ((a0.toNat:Nat):Int)))),(13,(.d (.bool z)))]) (fun z=>[]) ?_ ?_
 · rcases cc h with ⟨c31,h⟩ | ⟨c31,h⟩
   · exact .e [.br c31] ⟨_,h,inZ⟩
   exact .e [.br c31] ⟨_,h,inZ⟩
 intro j36_1 h
 unfold f303_j36 at h
 refine .cB h (fun h=>?_) fun h=>?_
 · refine .seq (.e [] ?_)
   cases h
   exact .ret rz
 refine .j 0 (fun z=>f303_j56 k a0 z = some r) (fun z=>[(0,(.d (.int .u8 ((a0.toNat:Nat):Int)))),(24,(.d (.bool z)))]) (fun z=>[]) ?_ ?_
 · rcases cc h with ⟨c51,h⟩ | ⟨c51,h⟩
   · exact .e [.br c51] ⟨_,h,inZ⟩
   exact .e [.br c51] ⟨_,h,inZ⟩
 intro j56_1 h
 unfold f303_j56 at h
 refine .cB h (fun h=>?_) fun h=>?_
 · refine .seq (.e [] ?_)
   cases h
   exact .ret rz
 refine .skip (.seq ?_)
 refine .e [] ?_
 cases h
 exact .ret rz
def f302_l14 (a0:(List UInt8)):Nat→Int→Int→Int→Option (LR2 (Int×Int) Unit (Int×Int))
  | 0,_,_,_=>none
  | k + 1,y14_1,y14_2,y14_3=>cond (decide (y14_2 < (4:Int))) (cond (decide (y14_3 ≥ ((a0.length:Nat):Int))) (some (.r ((-1:Int),y14_3))) (gd (0≤y14_3∧y14_3 < ((a0.length:Nat):Int)) ((f303 k (a0.getD (y14_3).toNat 0)).bind fun r51=>cond (decide (r51 < (0:Int))) (some (.r ((-1:Int),y14_3))) (gd (0≤y14_3∧y14_3 < ((a0.length:Nat):Int)) ((f303 k (a0.getD (y14_3).toNat 0)).bind fun r75=>f302_l14 a0 k (IntKind.i64.wrap ((IntKind.i64.wrap ((16:Int) * y14_1)) + r75)) (IntKind.i64.wrap (y14_2 + (1:Int))) (IntKind.i64.wrap (y14_3 + (1:Int)))))))) (some (.b0 (y14_1,y14_3)))
def f302 (k:Nat) (a0:(List UInt8)) (a1:Int) (a2:Int):Option (Int×Int):=(f302_l14 a0 k (0:Int) (0:Int) a1).bind fun o14=>(match o14 with | .b0 (x14_1,x14_2)=>some (x14_1,x14_2) | .r x=>some x | _=>none)
theorem F302 {k:Nat} {a0:(List UInt8)} {a1:Int} {a2:Int} {r:(Int×Int)} (h:f302 k a0 a1 a2 = some r) :
    ACalls Tryd.prog 111 [(.ptr 0 0)] [(0,(.cells [(.d (.str a0)),(.d (.int .i64 a1)),(.d (.int .i64 a2))]))] (.d (.int .i64 r.1)) [(0,(.cells [(.d (.str a0)),(.d (.int .i64 r.2)),(.d (.int .i64 a2))]))]:=by
 refine acalls_ret ⟨_,Tryd.func111,by kernel_rfl,by kernel_rfl,rfl⟩ 1 1 1 [(2,(.d (.int .i64 r.1)))] [(0,(.cells [(.d (.str a0)),(.d (.int .i64 r.2)),(.d (.int .i64 a2))]))] (doneA (.inr rfl) rfl ⟨trivial,trivial⟩ (.refl _) (hasCons rfl hasNil)) ?_
 unfold f302 at h
 refine .seq (.e [] ?_)
 refine .seq (.e [] ?_)
 refine .seq (.seq ?_)
 refine .e [] ?_
 obtain ⟨o14,h14,h⟩:=bind_some h
 refine .block (.lp 1 (fun k (x:(Int×Int×Int))=>f302_l14 a0 k x.1 x.2.1 x.2.2 = some o14) (fun x=>[(0,(.ptr 0 0)),(3,(.d (.int .i64 x.1))),(4,(.d (.int .i64 x.2.1)))]) (fun x=>[(0,(.cells [(.d (.str a0)),(.d (.int .i64 x.2.2)),(.d (.int .i64 a2))]))]) (_,_,_) h14 [] [] ?_)
 rintro k ⟨y14_1,y14_2,y14_3⟩ h14
 dsimp only at h14 ⊢
 rw [f302_l14] at h14
 refine .seq (.seq ?_)
 refine .e [] (.cD h14 (fun h14=>?_) fun h14=>?_)
 · cases h14
   dsimp only at h
   refine .exit (inBlk_eq ?_)
   refine .seq (.e [] ?_)
   cases h
   exact .ret rz
 refine .skip (.seq ?_)
 refine .block (.seq ?_)
 refine .seq ?_
 rcases cc h14 with ⟨c41,h14⟩ | ⟨c41,h14⟩
 · refine .e [.br c41] (.cT rfl ?_)
   refine .seq (.e [] ?_)
   cases h14
   dsimp only at h
   cases h
   exact .ret rz
 obtain ⟨b50,h14⟩:=gd_some h14
 obtain ⟨r51,e51,h14⟩:=bind_some h14
 refine .e [.br c41,.sd b50,.call (F303 e51) [] 0] (.cB h14 (fun h14=>?_) fun h14=>?_)
 · refine .seq (.e [] ?_)
   cases h14
   dsimp only at h
   cases h
   exact .ret rz
 refine .skip (.seq ?_)
 obtain ⟨b74,h14⟩:=gd_some h14
 obtain ⟨r75,e75,h14⟩:=bind_some h14
 refine .e [.sd b74,.call (F303 e75) [] 0] (.e [] ?_)
 exact .e [] ⟨(_,_,_),h14,inZ⟩
def f301_j231 (k:Nat) (a0:(List UInt8)) (a2:Int) (j231_1:Int):Option ((List UInt8)×Int×Int):=(f298 k a0 j231_1 a2 (4:Int)).bind fun r235=>some (([]:List UInt8),j231_1,r235)
def f301_j220 (k:Nat) (j207_1:Int) (j207_2:Int) (a2:Int) (a0:(List UInt8)) (j220_1:Bool):Option ((List UInt8)×Int×Int):=cond j220_1 (some ((encL (IntKind.i32.wrap j207_1)),j207_2,a2)) (f301_j231 k a0 a2 j207_2)
def f301_j207 (k:Nat) (a2:Int) (a0:(List UInt8)) (j207_1:Int) (j207_2:Int):Option ((List UInt8)×Int×Int):=cond (decide (j207_1 ≥ (0:Int))) (cond (decide (j207_1 < (55296:Int))) (f301_j220 k j207_1 j207_2 a2 a0 true) (f301_j220 k j207_1 j207_2 a2 a0 (decide (j207_1 ≥ (57344:Int))))) (f301_j220 k j207_1 j207_2 a2 a0 false)
def f301_j187 (k:Nat) (r154:(Int×Int)) (r175:(Int×Int)) (a2:Int) (a0:(List UInt8)) (j187_1:Bool):Option ((List UInt8)×Int×Int):=cond j187_1 (some ((encL (IntKind.i32.wrap (IntKind.i64.wrap ((IntKind.i64.wrap ((IntKind.i64.wrap ((65536:Int) + (IntKind.i64.wrap ((IntKind.i64.wrap (r154.1 - (55296:Int))) * (1024:Int))))) + r175.1)) - (56320:Int))))),r175.2,a2)) (f301_j207 k a2 a0 (-1:Int) r175.2)
def f301_j170 (k:Nat) (a0:(List UInt8)) (a2:Int) (r154:(Int×Int)) (j170_1:Bool) (j170_2:Int):Option ((List UInt8)×Int×Int):=cond j170_1 ((f302 k a0 j170_2 a2).bind fun r175=>cond (decide (r175.1 ≥ (56320:Int))) (f301_j187 k r154 r175 a2 a0 (decide (r175.1 < (57344:Int)))) (f301_j187 k r154 r175 a2 a0 false)) (f301_j207 k a2 a0 r154.1 j170_2)
def f301_j80 (k:Nat) (a0:(List UInt8)) (a1:Int) (a2:Int) (j80_1:Bool):Option ((List UInt8)×Int×Int):=cond j80_1 (some (([(a0.getD (a1).toNat 0)]:List UInt8),(IntKind.i64.wrap (a1 + (1:Int))),a2)) (cond (decide ((((a0.getD (a1).toNat 0).toNat:Nat):Int) = (98:Int))) (some (([8]:List UInt8),(IntKind.i64.wrap (a1 + (1:Int))),a2)) (cond (decide ((((a0.getD (a1).toNat 0).toNat:Nat):Int) = (102:Int))) (some (([12]:List UInt8),(IntKind.i64.wrap (a1 + (1:Int))),a2)) (cond (decide ((((a0.getD (a1).toNat 0).toNat:Nat):Int) = (110:Int))) (some (([10]:List UInt8),(IntKind.i64.wrap (a1 + (1:Int))),a2)) (cond (decide ((((a0.getD (a1).toNat 0).toNat:Nat):Int) = (114:Int))) (some (([13]:List UInt8),(IntKind.i64.wrap (a1 + (1:Int))),a2)) (cond (decide ((((a0.getD (a1).toNat 0).toNat:Nat):Int) = (116:Int))) (some (([9]:List UInt8),(IntKind.i64.wrap (a1 + (1:Int))),a2)) (cond (decide ((((a0.getD (a1).toNat 0).toNat:Nat):Int) = (117:Int))) ((f302 k a0 (IntKind.i64.wrap (a1 + (1:Int))) a2).bind fun r154=>cond (decide (r154.1 ≥ (55296:Int))) (cond (decide (r154.1 < (56320:Int))) ((f299 k a0 r154.2 a2 ([92,117]:List UInt8)).bind fun r168=>f301_j170 k a0 a2 r154 r168.1 r168.2) (f301_j170 k a0 a2 r154 false r154.2)) (f301_j170 k a0 a2 r154 false r154.2)) (f301_j231 k a0 a2 (IntKind.i64.wrap (a1 + (1:Int))))))))))
def f301 (k:Nat) (a0:(List UInt8)) (a1:Int) (a2:Int):Option ((List UInt8)×Int×Int):=cond (decide (a1 ≥ ((a0.length:Nat):Int))) ((f298 k a0 a1 a2 (4:Int)).bind fun r24=>some (([]:List UInt8),a1,r24)) (gd (0≤a1∧a1 < ((a0.length:Nat):Int)) (cond (decide ((((a0.getD (a1).toNat 0).toNat:Nat):Int) = (34:Int))) (f301_j80 k a0 a1 a2 (decide ((((a0.getD (a1).toNat 0).toNat:Nat):Int) = (34:Int)))) (cond (decide ((((a0.getD (a1).toNat 0).toNat:Nat):Int) = (92:Int))) (f301_j80 k a0 a1 a2 (decide ((((a0.getD (a1).toNat 0).toNat:Nat):Int) = (92:Int)))) (f301_j80 k a0 a1 a2 (decide ((((a0.getD (a1).toNat 0).toNat:Nat):Int) = (47:Int)))))))
theorem F301 {k:Nat} {a0:(List UInt8)} {a1:Int} {a2:Int} {r:((List UInt8)×Int×Int)} (h:f301 k a0 a1 a2 = some r) :
    ACalls Tryd.prog 92 [(.ptr 0 0)] [(0,(.cells [(.d (.str a0)),(.d (.int .i64 a1)),(.d (.int .i64 a2))]))] (.d (.str r.1)) [(0,(.cells [(.d (.str a0)),(.d (.int .i64 r.2.1)),(.d (.int .i64 r.2.2))]))]:=by
 refine acalls_ret ⟨_,Tryd.func92,by kernel_rfl,by kernel_rfl,rfl⟩ 1 1 1 [(2,(.d (.str r.1)))] [(0,(.cells [(.d (.str a0)),(.d (.int .i64 r.2.1)),(.d (.int .i64 r.2.2))]))] (doneA (.inr rfl) rfl ⟨trivial,trivial⟩ (.refl _) (hasCons rfl hasNil)) ?_
 unfold f301 at h
 refine .seq (.e [] ?_)
 refine .seq (.seq ?_)
 refine .e [] (.cB h (fun h=>?_) fun h=>?_)
 · refine .seq ?_
   obtain ⟨r24,e24,h⟩:=bind_some h
   refine .e [.call (F298 e24) [] 1] (.seq ?_)
   refine .e [] ?_
   cases h
   exact .ret rz
 refine .skip (.seq ?_)
 obtain ⟨b42,h⟩:=gd_some h
 refine .e [.sd b42] (.seq ?_)
 refine .e [] (.j 1 (fun z=>f301_j231 k a0 a2 z = some r) (fun z=>[(0,(.ptr 0 0))]) (fun z=>[(0,(.cells [(.d (.str a0)),(.d (.int .i64 z)),(.d (.int .i64 a2))]))]) ?_ ?_)
 · refine .seq (.e [] ?_)
   refine .block (.j 1 (fun z=>f301_j80 k a0 a1 a2 z = some r) (fun z=>[(0,(.ptr 0 0)),(3,(.d (.int .u8 (((a0.getD (a1).toNat 0).toNat:Nat):Int)))),(34,(.d (.int .u8 (((a0.getD (a1).toNat 0).toNat:Nat):Int)))),(35,(.d (.bool z)))]) (fun z=>[(0,(.cells [(.d (.str a0)),(.d (.int .i64 (IntKind.i64.wrap (a1 + (1:Int))))),(.d (.int .i64 a2))]))]) ?_ ?_)
   · refine .seq (.e [] ?_)
     refine .cB h (fun h=>?_) fun h=>?_
     · exact .skip ⟨_,h,inZ⟩
     refine .seq (.e [] ?_)
     refine .cB h (fun h=>?_) fun h=>?_
     · exact .skip ⟨_,h,inZ⟩
     exact .e [] ⟨_,h,inZ⟩
   intro j80_1 h
   unfold f301_j80 at h
   refine .cB h (fun h=>?_) fun h=>?_
   · refine .seq (.e [.bs ([(a0.getD (a1).toNat 0)]:List UInt8)] ?_)
     cases h
     exact .ret rz
   refine .seq (.e [] ?_)
   refine .cB h (fun h=>?_) fun h=>?_
   · refine .seq (.e [] ?_)
     cases h
     exact .ret rz
   refine .seq (.e [] ?_)
   refine .cB h (fun h=>?_) fun h=>?_
   · refine .seq (.e [] ?_)
     cases h
     exact .ret rz
   refine .seq (.e [] ?_)
   refine .cB h (fun h=>?_) fun h=>?_
   · refine .seq (.e [] ?_)
     cases h
     exact .ret rz
   refine .seq (.e [] ?_)
   refine .cB h (fun h=>?_) fun h=>?_
   · refine .seq (.e [] ?_)
     cases h
     exact .ret rz
   refine .seq (.e [] ?_)
   refine .cB h (fun h=>?_) fun h=>?_
   · refine .seq (.e [] ?_)
     cases h
     exact .ret rz
   refine .seq (.e [] ?_)
   refine .cD h (fun h=>?_) fun h=>?_
   · exact .skip ⟨_,h,inZ⟩
   refine .seq ?_
   obtain ⟨r154,e154,h⟩:=bind_some h
   refine .e [.call (F302 e154) [] 1] (.j 1 (fun (z:(Int×Int))=>f301_j207 k a2 a0 z.1 z.2 = some r) (fun z=>[(0,(.ptr 0 0)),(4,(.d (.int .i64 z.1)))]) (fun z=>[(0,(.cells [(.d (.str a0)),(.d (.int .i64 z.2)),(.d (.int .i64 a2))]))]) ?_ ?_)
   · refine .j 1 (fun (z:(Bool×Int))=>f301_j170 k a0 a2 r154 z.1 z.2 = some r) (fun z=>[(0,(.ptr 0 0)),(4,(.d (.int .i64 r154.1))),(65,(.d (.bool z.1)))]) (fun z=>[(0,(.cells [(.d (.str a0)),(.d (.int .i64 z.2)),(.d (.int .i64 a2))]))]) ?_ ?_
     · rcases cc h with ⟨c162,h⟩ | ⟨c162,h⟩
       · rcases cc h with ⟨c166,h⟩ | ⟨c166,h⟩
         · obtain ⟨r168,e168,h⟩:=bind_some h
           exact .e [.br c162,.br c166,.call (F299 e168) [] 1] ⟨(r168.1,r168.2),h,inZ⟩
         exact .e [.br c162,.br c166] ⟨(false,r154.2),h,inZ⟩
       exact .e [.br c162,.br (rfl:false = false)] ⟨(false,r154.2),h,inZ⟩
     rintro ⟨j170_1,j170_2⟩ h
     dsimp only at h ⊢
     unfold f301_j170 at h
     refine .cD h (fun h=>?_) fun h=>?_
     · exact .skip ⟨(r154.1,j170_2),h,inZ⟩
     refine .seq ?_
     obtain ⟨r175,e175,h⟩:=bind_some h
     refine .e [.call (F302 e175) [] 1] (.seq ?_)
     refine .j 1 (fun z=>f301_j187 k r154 r175 a2 a0 z = some r) (fun z=>[(0,(.ptr 0 0)),(4,(.d (.int .i64 r154.1))),(5,(.d (.int .i64 r175.1))),(73,(.d (.bool z)))]) (fun z=>[(0,(.cells [(.d (.str a0)),(.d (.int .i64 r175.2)),(.d (.int .i64 a2))]))]) ?_ ?_
     · rcases cc h with ⟨c183,h⟩ | ⟨c183,h⟩
       · exact .e [.br c183] ⟨_,h,inZ⟩
       exact .e [.br c183] ⟨_,h,inZ⟩
     intro j187_1 h
     unfold f301_j187 at h
     refine .cB h (fun h=>?_) fun h=>?_
     · refine .seq (.e [] ?_)
       cases h
       exact .ret rz
     refine .skip (.e [] ?_)
     exact ⟨((-1:Int),r175.2),h,inZ⟩
   rintro ⟨j207_1,j207_2⟩ h
   dsimp only at h ⊢
   unfold f301_j207 at h
   refine .j 1 (fun z=>f301_j220 k j207_1 j207_2 a2 a0 z = some r) (fun z=>[(0,(.ptr 0 0)),(4,(.d (.int .i64 j207_1))),(92,(.d (.bool z)))]) (fun z=>[(0,(.cells [(.d (.str a0)),(.d (.int .i64 j207_2)),(.d (.int .i64 a2))]))]) ?_ ?_
   · rcases cc h with ⟨c212,h⟩ | ⟨c212,h⟩
     · rcases cc h with ⟨c215,h⟩ | ⟨c215,h⟩
       · exact .e [.br c212,.br c215] ⟨_,h,inZ⟩
       exact .e [.br c212,.br c215] ⟨_,h,inZ⟩
     exact .e [.br c212] ⟨_,h,inZ⟩
   intro j220_1 h
   unfold f301_j220 at h
   refine .cD h (fun h=>?_) fun h=>?_
   · exact .skip ⟨_,h,inZ⟩
   refine .seq (.e [] ?_)
   cases h
   exact .ret rz
 intro j231_1 h
 unfold f301_j231 at h
 refine .seq ?_
 obtain ⟨r235,e235,h⟩:=bind_some h
 refine .e [.call (F298 e235) [] 1] (.seq ?_)
 refine .e [] ?_
 cases h
 exact .ret rz
def f336 (k:Nat) (a0:List UInt8):Option (Int×Int):=some (u8I a0)
theorem F336 {k:Nat} {a0:List UInt8} {r:Int×Int} (h:f336 k a0 = some r) :
    ACalls Tryd.prog 93 [(.d (.str a0))] [] (.tup [(.d (.int .i32 r.1)),(.d (.int .i64 r.2))]) []:=by
  have hc:=decJ
  cases h
  exact decB_calls hc a0
def f300_j161 (L:(List UInt8)→Int→Int→Option (LR2 (Int×Int) Unit ((List UInt8)×Int×Int))) (k:Nat) (y10_2:Int) (r137:(Int×Int)) (a0:(List UInt8)) (y10_1:(List UInt8)) (y10_3:Int):Option (LR2 (Int×Int) Unit ((List UInt8)×Int×Int)):=gd (0≤y10_2∧y10_2≤(IntKind.i64.wrap (y10_2 + r137.2))∧(IntKind.i64.wrap (y10_2 + r137.2))≤((a0.length:Nat):Int)) (gd (y10_1.length + (sl a0 y10_2 (IntKind.i64.wrap (y10_2 + r137.2))).length≤9223372036854775807) (L (y10_1 ++ (sl a0 y10_2 (IntKind.i64.wrap (y10_2 + r137.2)))) (IntKind.i64.wrap (y10_2 + r137.2)) y10_3))
def f300_l10 (a0:(List UInt8)):Nat→(List UInt8)→Int→Int→Option (LR2 (Int×Int) Unit ((List UInt8)×Int×Int))
  | 0,_,_,_=>none
  | k + 1,y10_1,y10_2,y10_3=>cond (decide (y10_3 = (0:Int))) (cond (decide (y10_2 ≥ ((a0.length:Nat):Int))) ((f298 k a0 y10_2 y10_3 (4:Int)).bind fun r56=>some (.b0 (y10_2,r56))) (gd (0≤y10_2∧y10_2 < ((a0.length:Nat):Int)) (cond (decide ((((a0.getD (y10_2).toNat 0).toNat:Nat):Int) < (32:Int))) ((f298 k a0 y10_2 y10_3 (4:Int)).bind fun r56=>some (.b0 (y10_2,r56))) (gd (0≤y10_2∧y10_2 < ((a0.length:Nat):Int)) (cond (decide ((((a0.getD (y10_2).toNat 0).toNat:Nat):Int) = (34:Int))) (some (.r (y10_1,(IntKind.i64.wrap (y10_2 + (1:Int))),y10_3))) (cond (decide ((((a0.getD (y10_2).toNat 0).toNat:Nat):Int) = (92:Int))) ((f301 k a0 (IntKind.i64.wrap (y10_2 + (1:Int))) y10_3).bind fun r120=>gd (y10_1.length + r120.1.length≤9223372036854775807) (f300_l10 a0 k (y10_1 ++ r120.1) r120.2.1 r120.2.2)) (gd (0≤y10_2∧y10_2≤((a0.length:Nat):Int)∧((a0.length:Nat):Int)≤((a0.length:Nat):Int)) ((f336 k (sl a0 y10_2 ((a0.length:Nat):Int))).bind fun r137=>cond (decide (r137.1 = (65533:Int))) (cond (decide (r137.2 < (2:Int))) ((f298 k a0 y10_2 y10_3 (4:Int)).bind fun r158=>some (.b0 (y10_2,r158))) (f300_j161 (f300_l10 a0 k) k y10_2 r137 a0 y10_1 y10_3)) (f300_j161 (f300_l10 a0 k) k y10_2 r137 a0 y10_1 y10_3))))))))) (some (.b0 (y10_2,y10_3)))
def f300 (k:Nat) (a0:(List UInt8)) (a1:Int) (a2:Int):Option ((List UInt8)×Int×Int):=(f300_l10 a0 k ([]:List UInt8) a1 a2).bind fun o10=>(match o10 with | .b0 (x10_1,x10_2)=>some (([]:List UInt8),x10_1,x10_2) | .r x=>some x | _=>none)
theorem F300 {k:Nat} {a0:(List UInt8)} {a1:Int} {a2:Int} {r:((List UInt8)×Int×Int)} (h:f300 k a0 a1 a2 = some r) :
    ACalls Tryd.prog 65 [(.ptr 0 0)] [(0,(.cells [(.d (.str a0)),(.d (.int .i64 a1)),(.d (.int .i64 a2))]))] (.d (.str r.1)) [(0,(.cells [(.d (.str a0)),(.d (.int .i64 r.2.1)),(.d (.int .i64 r.2.2))]))]:=by
 refine acalls_ret ⟨_,Tryd.func65,by kernel_rfl,by kernel_rfl,rfl⟩ 1 1 1 [(2,(.d (.str r.1)))] [(0,(.cells [(.d (.str a0)),(.d (.int .i64 r.2.1)),(.d (.int .i64 r.2.2))]))] (doneA (.inr rfl) rfl ⟨trivial,trivial⟩ (.refl _) (hasCons rfl hasNil)) ?_
 unfold f300 at h
 refine .seq (.e [] ?_)
 refine .seq (.e [] ?_)
 obtain ⟨o10,h10,h⟩:=bind_some h
 refine .j 1 (fun (z:(Int×Int))=>o10 = .b0 z) (fun z=>[]) (fun z=>[(0,(.cells [(.d (.str a0)),(.d (.int .i64 z.1)),(.d (.int .i64 z.2))]))]) ?_ ?_
 · refine .block (.lp 1 (fun k (x:((List UInt8)×Int×Int))=>f300_l10 a0 k x.1 x.2.1 x.2.2 = some o10) (fun x=>[(0,(.ptr 0 0)),(3,(.d (.str x.1)))]) (fun x=>[(0,(.cells [(.d (.str a0)),(.d (.int .i64 x.2.1)),(.d (.int .i64 x.2.2))]))]) (_,_,_) h10 [] [] ?_)
   rintro k ⟨y10_1,y10_2,y10_3⟩ h10
   dsimp only at h10 ⊢
   rw [f300_l10] at h10
   refine .seq (.seq ?_)
   refine .e [] (.cD h10 (fun h10=>?_) fun h10=>?_)
   · cases h10
     dsimp only at h
     refine .exit (inBlk_eq ?_)
     exact ⟨(y10_2,y10_3),rfl,inZ⟩
   refine .skip (.block ?_)
   refine .seq (.seq ?_)
   rcases cc h10 with ⟨c39,h10⟩ | ⟨c39,h10⟩
   · refine .e [.br c39] (.cT rfl ?_)
     refine .seq ?_
     obtain ⟨r56,e56,h10⟩:=bind_some h10
     refine .e [.call (F298 e56) [] 1] ?_
     cases h10
     dsimp only at h
     refine .exit (inBlk_ne rfl ?_)
     exact inBlk_eq ⟨(y10_2,r56),rfl,inZ⟩
   obtain ⟨b48,h10⟩:=gd_some h10
   refine .e [.br c39,.sd b48] (.cB h10 (fun h10=>?_) fun h10=>?_)
   · refine .seq ?_
     obtain ⟨r56,e56,h10⟩:=bind_some h10
     refine .e [.call (F298 e56) [] 1] ?_
     cases h10
     dsimp only at h
     refine .exit (inBlk_ne rfl ?_)
     exact inBlk_eq ⟨(y10_2,r56),rfl,inZ⟩
   refine .skip (.seq ?_)
   obtain ⟨b70,h10⟩:=gd_some h10
   refine .e [.sd b70] (.seq ?_)
   refine .seq (.e [] ?_)
   refine .cB h10 (fun h10=>?_) fun h10=>?_
   · refine .seq (.e [] ?_)
     refine .seq (.e [] ?_)
     cases h10
     dsimp only at h
     cases h
     exact .ret rz
   refine .skip (.seq ?_)
   refine .seq (.e [] ?_)
   refine .cB h10 (fun h10=>?_) fun h10=>?_
   · refine .seq (.e [] ?_)
     refine .seq ?_
     obtain ⟨r120,e120,h10⟩:=bind_some h10
     obtain ⟨b121,h10⟩:=gd_some h10
     refine .e [.call (F301 e120) [] 1,.sd b121] (.exit ?_)
     exact inBlk_eq ⟨((y10_1 ++ r120.1),r120.2.1,r120.2.2),h10,inZ⟩
   refine .skip (.seq ?_)
   obtain ⟨b136,h10⟩:=gd_some h10
   obtain ⟨r137,e137,h10⟩:=bind_some h10
   refine .e [.sd b136,.call (F336 e137) [] 0] (.j 1 (fun (z:Unit)=>f300_j161 (f300_l10 a0 k) k y10_2 r137 a0 y10_1 y10_3 = some o10) (fun z=>[(0,(.ptr 0 0)),(3,(.d (.str y10_1))),(6,(.d (.int .i64 r137.2))),(23,(.ptr 0 0)),(24,(.ptr 0 0)),(25,(.ptr 0 0)),(26,(.d (.str a0))),(27,(.ptr 0 0)),(28,(.ptr 0 0)),(29,(.ptr 0 1)),(30,(.d (.int .i64 y10_2))),(31,(.d (.int .u8 (((a0.getD (y10_2).toNat 0).toNat:Nat):Int)))),(32,(.d (.bool (decide ((((a0.getD (y10_2).toNat 0).toNat:Nat):Int) < (32:Int)))))),(84,.any),(85,.any)]) (fun z=>[(0,(.cells [(.d (.str a0)),(.d (.int .i64 y10_2)),(.d (.int .i64 y10_3))]))]) ?_ ?_)
   · refine .seq ?_
     rcases cc h10 with ⟨c149,h10⟩ | ⟨c149,h10⟩
     · refine .e [.br c149] (.cD h10 (fun h10=>?_) fun h10=>?_)
       · exact .skip ⟨(),h10,inZ⟩
       refine .seq ?_
       obtain ⟨r158,e158,h10⟩:=bind_some h10
       refine .e [.call (F298 e158) [] 1] ?_
       cases h10
       dsimp only at h
       refine .exit (inBlk_ne rfl ?_)
       exact inBlk_eq ⟨(y10_2,r158),rfl,inZ⟩
     refine .e [.br c149] (.cF rfl ?_)
     exact .skip ⟨(),h10,inZ⟩
   rintro ⟨⟩ h10
   unfold f300_j161 at h10
   refine .seq ?_
   obtain ⟨b179,h10⟩:=gd_some h10
   obtain ⟨b180,h10⟩:=gd_some h10
   refine .e [.sd b179,.sd b180] (.e [] ?_)
   exact ⟨(_,_,_),h10,inZ⟩
 rintro ⟨x10_1,x10_2⟩ ho
 subst ho
 dsimp only at h ⊢
 refine .seq (.e [] ?_)
 cases h
 exact .ret rz
def f77_l10 (a0:(List (List UInt8))) (a1:(List UInt8)):Nat→Int→Option (LR2 Unit Unit Bool)
  | 0,_=>none
  | k + 1,y10_1=>cond (decide (y10_1 < ((a0.length:Nat):Int))) (gd (0≤y10_1∧y10_1 < ((a0.length:Nat):Int)) (cond (decide ((rd a0 y10_1) = a1)) (some (.r true)) (f77_l10 a0 a1 k (IntKind.i64.wrap (y10_1 + (1:Int)))))) (some (.b0 ()))
def f77 (k:Nat) (a0:(List (List UInt8))) (a1:(List UInt8)):Option Bool:=(f77_l10 a0 a1 k (0:Int)).bind fun o10=>(match o10 with | .b0 ()=>some false | .r x=>some x | _=>none)
theorem F77 {k:Nat} {a0:(List (List UInt8))} {a1:(List UInt8)} {r:Bool} (h:f77 k a0 a1 = some r) :
    ACalls Tryd.prog 43 [(.d (.sl (List.map D.str a0))),(.d (.str a1))] [] (.d (.bool r)) []:=by
 refine acalls_ret ⟨_,Tryd.func43,by kernel_rfl,by kernel_rfl,rfl⟩ 0 0 0 [(4,(.d (.bool r)))] [] (doneA (.inr rfl) rfl ⟨trivial,trivial⟩ (.refl _) hasNil) ?_
 unfold f77 at h
 refine .seq (.e [] ?_)
 refine .seq (.seq ?_)
 refine .e [] ?_
 obtain ⟨o10,h10,h⟩:=bind_some h
 refine .block (.lp 0 (fun k (x:Int)=>f77_l10 a0 a1 k x = some o10) (fun x=>[(0,(.d (.sl (List.map D.str a0)))),(1,(.d (.str a1))),(5,(.d (.int .i64 x)))]) (fun x=>[]) _ h10 [] [] ?_)
 intro k y10_1 h10
 rw [f77_l10] at h10
 refine .seq (.seq ?_)
 refine .e [.ln D.str a0] (.cD h10 (fun h10=>?_) fun h10=>?_)
 · cases h10
   dsimp only at h
   refine .exit (inBlk_eq ?_)
   refine .seq (.e [] ?_)
   cases h
   exact .ret rz
 refine .skip (.seq ?_)
 refine .block (.seq ?_)
 obtain ⟨b30,h10⟩:=gd_some h10
 refine .e [.iad D.str a0 1 (fun _=>rfl) b30] (.cD h10 (fun h10=>?_) fun h10=>?_)
 · refine .skip (.e [] ?_)
   exact ⟨_,h10,inZ⟩
 refine .seq (.e [] ?_)
 cases h10
 dsimp only at h
 cases h
 exact .ret rz
def f353_j170 (L:Int→Int→(List (RT 4))→(List (List UInt8))→Option (LR2 (Int×Int) Unit (Int×(List (RT 4))×(List (List UInt8))×Int×Int))) (k:Nat) (rc296:Y296) (a0:(List UInt8)) (a3:Int) (y68_3:(List (RT 4))) (j36_1:(List UInt8)) (j36_2:Int) (j170_1:Int) (j170_2:Int) (j170_3:(List (List UInt8))):Option (LR2 (Int×Int) Unit (Int×(List (RT 4))×(List (List UInt8))×Int×Int)):=(rc296 a0 j170_1 j170_2 (IntKind.i64.wrap (a3 + (1:Int)))).bind fun r178=>gd ((y68_3.length + ([(RT.of TJson.ok (TJson.mk r178.1 r178.2.1 r178.2.2.1 r178.2.2.2.1))]:List (RT 4)).length) * 2 * 72≤281474976710656) ((f297 k a0 r178.2.2.2.2.1 r178.2.2.2.2.2).bind fun r187=>(f299 k a0 r187 r178.2.2.2.2.2 j36_1).bind fun r194=>cond r194.1 (some (.r (j36_2,(y68_3 ++ ([(RT.of TJson.ok (TJson.mk r178.1 r178.2.1 r178.2.2.1 r178.2.2.2.1))]:List (RT 4))),j170_3,r194.2,r178.2.2.2.2.2))) ((f299 k a0 r194.2 r178.2.2.2.2.2 ([44]:List UInt8)).bind fun r207=>cond (!r207.1) ((f298 k a0 r207.2 r178.2.2.2.2.2 (4:Int)).bind fun r213=>L r207.2 r213 (y68_3 ++ ([(RT.of TJson.ok (TJson.mk r178.1 r178.2.1 r178.2.2.1 r178.2.2.2.1))]:List (RT 4))) j170_3) (L r207.2 r178.2.2.2.2.2 (y68_3 ++ ([(RT.of TJson.ok (TJson.mk r178.1 r178.2.1 r178.2.2.1 r178.2.2.2.1))]:List (RT 4))) j170_3)))
def f353_j140 (L:Int→Int→(List (RT 4))→(List (List UInt8))→Option (LR2 (Int×Int) Unit (Int×(List (RT 4))×(List (List UInt8))×Int×Int))) (k:Nat) (y68_4:(List (List UInt8))) (r115:((List UInt8)×Int×Int)) (a0:(List UInt8)) (rc296:Y296) (a3:Int) (y68_3:(List (RT 4))) (j36_1:(List UInt8)) (j36_2:Int):Option (LR2 (Int×Int) Unit (Int×(List (RT 4))×(List (List UInt8))×Int×Int)):=gd ((y68_4.length + ([r115.1]:List (List UInt8)).length) * 2 * 16≤281474976710656) ((f297 k a0 r115.2.1 r115.2.2).bind fun r154=>(f299 k a0 r154 r115.2.2 ([58]:List UInt8)).bind fun r159=>cond (!r159.1) ((f298 k a0 r159.2 r115.2.2 (4:Int)).bind fun r166=>some (.b0 (r159.2,r166))) (f353_j170 (L) k rc296 a0 a3 y68_3 j36_1 j36_2 r159.2 r115.2.2 (y68_4 ++ ([r115.1]:List (List UInt8)))))
def f353_l68 (j36_2:Int) (a0:(List UInt8)) (rc296:Y296) (a3:Int) (j36_1:(List UInt8)):Nat→Int→Int→(List (RT 4))→(List (List UInt8))→Option (LR2 (Int×Int) Unit (Int×(List (RT 4))×(List (List UInt8))×Int×Int))
  | 0,_,_,_,_=>none
  | k + 1,y68_1,y68_2,y68_3,y68_4=>cond (decide (y68_2 = (0:Int))) (cond (decide (j36_2 = (7:Int))) ((f297 k a0 y68_1 y68_2).bind fun r95=>(f299 k a0 r95 y68_2 ([34]:List UInt8)).bind fun r101=>cond (!r101.1) ((f298 k a0 r101.2 y68_2 (4:Int)).bind fun r108=>some (.b0 (r101.2,r108))) ((f300 k a0 r101.2 y68_2).bind fun r115=>cond (decide (r115.2.2 = (0:Int))) ((f77 k y68_4 r115.1).bind fun r130=>cond r130 ((f298 k a0 r115.2.1 r115.2.2 (7:Int)).bind fun r137=>some (.b0 (r115.2.1,r137))) (f353_j140 (f353_l68 j36_2 a0 rc296 a3 j36_1 k) k y68_4 r115 a0 rc296 a3 y68_3 j36_1 j36_2)) (f353_j140 (f353_l68 j36_2 a0 rc296 a3 j36_1 k) k y68_4 r115 a0 rc296 a3 y68_3 j36_1 j36_2))) (f353_j170 (f353_l68 j36_2 a0 rc296 a3 j36_1 k) k rc296 a0 a3 y68_3 j36_1 j36_2 y68_1 y68_2 y68_4)) (some (.b0 (y68_1,y68_2)))
def f353_j36 (k:Nat) (a0:(List UInt8)) (a1:Int) (a2:Int) (rc296:Y296) (a3:Int) (j36_1:(List UInt8)) (j36_2:Int):Option (Int×(List (RT 4))×(List (List UInt8))×Int×Int):=(f297 k a0 (IntKind.i64.wrap (a1 + (1:Int))) a2).bind fun r51=>(f299 k a0 r51 a2 j36_1).bind fun r58=>cond r58.1 (some (j36_2,([]:List (RT 4)),([]:List (List UInt8)),r58.2,a2)) ((f353_l68 j36_2 a0 rc296 a3 j36_1 k r58.2 a2 ([]:List (RT 4)) ([]:List (List UInt8))).bind fun o68=>(match o68 with | .b0 (x68_1,x68_2)=>some ((0:Int),([]:List (RT 4)),([]:List (List UInt8)),x68_1,x68_2) | .r x=>some x | _=>none))
def f353 (rc296:Y296) (k:Nat) (a0:(List UInt8)) (a1:Int) (a2:Int) (a3:Int):Option (Int×(List (RT 4))×(List (List UInt8))×Int×Int):=gd (0≤a1∧a1 < ((a0.length:Nat):Int)) (cond (decide ((((a0.getD (a1).toNat 0).toNat:Nat):Int) = (123:Int))) (f353_j36 k a0 a1 a2 rc296 a3 ([125]:List UInt8) (7:Int)) (f353_j36 k a0 a1 a2 rc296 a3 ([93]:List UInt8) (6:Int)))
theorem F353 {rc296:Y296} (hrc296:RH296 rc296) {k:Nat} {a0:(List UInt8)} {a1:Int} {a2:Int} {a3:Int} {r:(Int×(List (RT 4))×(List (List UInt8))×Int×Int)} (h:f353 rc296 k a0 a1 a2 a3 = some r) :
    ACalls Tryd.prog 66 [(.ptr 0 0),(.d (.int .i64 a3))] [(0,(.cells [(.d (.str a0)),(.d (.int .i64 a1)),(.d (.int .i64 a2))]))] (.d (.agg [(.int .i64 r.1),(.str ([]:List UInt8)),(.sl (List.map (rtE (z:=4)) r.2.1)),(.sl (List.map D.str r.2.2.1))])) [(0,(.cells [(.d (.str a0)),(.d (.int .i64 r.2.2.2.1)),(.d (.int .i64 r.2.2.2.2))]))]:=by
 refine acalls_ret ⟨_,Tryd.func66,by kernel_rfl,by kernel_rfl,rfl⟩ 1 1 2 [(4,(.ptr 1 0))] [(1,(.cells [(.d (.int .i64 r.1)),(.d (.str ([]:List UInt8))),(.d (.sl (List.map (rtE (z:=4)) r.2.1))),(.d (.sl (List.map D.str r.2.2.1)))])),(0,(.cells [(.d (.str a0)),(.d (.int .i64 r.2.2.2.1)),(.d (.int .i64 r.2.2.2.2))]))] (doneA (.inr rfl) rfl ⟨(Nat.le_of_ble_eq_true rfl),trivial⟩ (.refl _) (hasCons rfl hasNil)) ?_
 unfold f353 at h
 refine .seq (.e [] ?_)
 refine .seq (.e [.raw] ?_)
 refine .seq (.e [] ?_)
 refine .j 3 (fun (z:((List UInt8)×Int))=>f353_j36 k a0 a1 a2 rc296 a3 z.1 z.2 = some r) (fun z=>[(0,(.ptr 0 0)),(1,(.d (.int .i64 a3))),(4,(.ptr 1 0)),(5,(.ptr 2 0)),(6,(.d (.str z.1)))]) (fun z=>[(0,(.cells [(.d (.str a0)),(.d (.int .i64 a1)),(.d (.int .i64 a2))])),(1,(.cells [(.d (.int .i64 (0:Int))),(.d (.str ([]:List UInt8))),.nils,.nils])),(2,(.cells [(.d (.int .i64 z.2)),(.d (.str ([]:List UInt8))),.nils,.nils]))]) ?_ ?_
 · refine .seq ?_
   obtain ⟨b27,h⟩:=gd_some h
   refine .e [.sd b27] (.cB h (fun h=>?_) fun h=>?_)
   · exact .e [] ⟨(_,_),h,inZ⟩
   exact .skip ⟨(_,_),h,inZ⟩
 rintro ⟨j36_1,j36_2⟩ h
 dsimp only at h ⊢
 unfold f353_j36 at h
 refine .seq (.e [] ?_)
 refine .seq ?_
 obtain ⟨r51,e51,h⟩:=bind_some h
 refine .e [.call (F297 e51) [] 1] (.seq ?_)
 refine .seq ?_
 obtain ⟨r58,e58,h⟩:=bind_some h
 refine .e [.call (F299 e58) [] 1] (.cB h (fun h=>?_) fun h=>?_)
 · refine .seq (.e [] ?_)
   cases h
   exact .ret rz
 refine .skip ?_
 obtain ⟨o68,h68,h⟩:=bind_some h
 refine .j 2 (fun (z:(Int×Int))=>o68 = .b0 z) (fun z=>[(4,(.ptr 1 0))]) (fun z=>[(1,(.cells [(.d (.int .i64 (0:Int))),(.d (.str ([]:List UInt8))),.nils,.nils])),(0,(.cells [(.d (.str a0)),(.d (.int .i64 z.1)),(.d (.int .i64 z.2))]))]) ?_ ?_
 · refine .block (.lp 5 (fun k (x:(Int×Int×(List (RT 4))×(List (List UInt8))))=>f353_l68 j36_2 a0 rc296 a3 j36_1 k x.1 x.2.1 x.2.2.1 x.2.2.2 = some o68) (fun x=>[(0,(.ptr 0 0)),(1,(.d (.int .i64 a3))),(4,(.ptr 1 0)),(5,(.ptr 2 0)),(6,(.d (.str j36_1)))]) (fun x=>[(0,(.cells [(.d (.str a0)),(.d (.int .i64 x.1)),(.d (.int .i64 x.2.1))])),(1,(.cells [(.d (.int .i64 (0:Int))),(.d (.str ([]:List UInt8))),.nils,.nils])),(2,(.cells [(.d (.int .i64 j36_2)),(.d (.str ([]:List UInt8))),(.ap 3 4 (List.map (rtE (z:=4)) x.2.2.1)),(.ap 4 1 (List.map D.str x.2.2.2))])),(3,(.tok ((List.map (rtE (z:=4)) x.2.2.1).length * 4))),(4,(.tok ((List.map D.str x.2.2.2).length * 1)))]) (r58.2,a2,([]:List (RT 4)),([]:List (List UInt8))) h68 [(3,3),(4,4)] [.tok 0,.tok 0] ?_)
   rintro k ⟨y68_1,y68_2,y68_3,y68_4⟩ h68
   dsimp only at h68 ⊢
   rw [f353_l68] at h68
   refine .seq (.seq ?_)
   refine .e [] (.cD h68 (fun h68=>?_) fun h68=>?_)
   · cases h68
     dsimp only at h
     refine .exit (inBlk_eq ?_)
     exact ⟨(y68_1,y68_2),rfl,inZ⟩
   refine .skip (.block ?_)
   refine .j 5 (fun (z:(Int×Int×(List (List UInt8))))=>f353_j170 (f353_l68 j36_2 a0 rc296 a3 j36_1 k) k rc296 a0 a3 y68_3 j36_1 j36_2 z.1 z.2.1 z.2.2 = some o68) (fun z=>[(0,(.ptr 0 0)),(1,(.d (.int .i64 a3))),(4,(.ptr 1 0)),(5,(.ptr 2 0)),(6,(.d (.str j36_1)))]) (fun z=>[(0,(.cells [(.d (.str a0)),(.d (.int .i64 z.1)),(.d (.int .i64 z.2.1))])),(1,(.cells [(.d (.int .i64 (0:Int))),(.d (.str ([]:List UInt8))),.nils,.nils])),(2,(.cells [(.d (.int .i64 j36_2)),(.d (.str ([]:List UInt8))),(.ap 3 4 (List.map (rtE (z:=4)) y68_3)),(.ap 4 1 (List.map D.str z.2.2))])),(3,(.tok ((List.map (rtE (z:=4)) y68_3).length * 4))),(4,(.tok ((List.map D.str z.2.2).length * 1)))]) ?_ ?_
   · refine .seq (.e [] ?_)
     refine .cD h68 (fun h68=>?_) fun h68=>?_
     · exact .skip ⟨(_,_,_),h68,inZ⟩
     refine .seq ?_
     obtain ⟨r95,e95,h68⟩:=bind_some h68
     refine .e [.call (F297 e95) [] 1] (.seq ?_)
     refine .seq ?_
     obtain ⟨r101,e101,h68⟩:=bind_some h68
     refine .e [.call (F299 e101) [] 1] (.cB h68 (fun h68=>?_) fun h68=>?_)
     · refine .seq ?_
       obtain ⟨r108,e108,h68⟩:=bind_some h68
       refine .e [.call (F298 e108) [] 1] ?_
       cases h68
       dsimp only at h
       refine .exit (inBlk_ne rfl ?_)
       exact inBlk_eq ⟨(r101.2,r108),rfl,inZ⟩
     refine .skip (.seq ?_)
     obtain ⟨r115,e115,h68⟩:=bind_some h68
     refine .e [.call (F300 e115) [] 1] (.j 5 (fun (z:Unit)=>f353_j140 (f353_l68 j36_2 a0 rc296 a3 j36_1 k) k y68_4 r115 a0 rc296 a3 y68_3 j36_1 j36_2 = some o68) (fun z=>[(0,(.ptr 0 0)),(1,(.d (.int .i64 a3))),(4,(.ptr 1 0)),(5,(.ptr 2 0)),(6,(.d (.str j36_1))),(7,(.d (.str r115.1))),(56,.any),(57,.any),(58,.any),(59,.any)]) (fun z=>[(0,(.cells [(.d (.str a0)),(.d (.int .i64 r115.2.1)),(.d (.int .i64 r115.2.2))])),(1,(.cells [(.d (.int .i64 (0:Int))),(.d (.str ([]:List UInt8))),.nils,.nils])),(2,(.cells [(.d (.int .i64 j36_2)),(.d (.str ([]:List UInt8))),(.ap 3 4 (List.map (rtE (z:=4)) y68_3)),(.ap 4 1 (List.map D.str y68_4))])),(3,(.tok ((List.map (rtE (z:=4)) y68_3).length * 4))),(4,(.tok ((List.map D.str y68_4).length * 1)))]) ?_ ?_)
     · refine .seq ?_
       rcases cc h68 with ⟨c126,h68⟩ | ⟨c126,h68⟩
       · obtain ⟨r130,e130,h68⟩:=bind_some h68
         refine .e [.br c126,.call (F77 e130) [] 0] (.cD h68 (fun h68=>?_) fun h68=>?_)
         · exact .skip ⟨(),h68,inZ⟩
         refine .seq ?_
         obtain ⟨r137,e137,h68⟩:=bind_some h68
         refine .e [.call (F298 e137) [] 1] ?_
         cases h68
         dsimp only at h
         refine .exit (inBlk_ne rfl ?_)
         exact inBlk_eq ⟨(r115.2.1,r137),rfl,inZ⟩
       refine .e [.br c126] (.cF rfl ?_)
       exact .skip ⟨(),h68,inZ⟩
     rintro ⟨⟩ h68
     unfold f353_j140 at h68
     refine .seq ?_
     obtain ⟨b147,h68⟩:=gd_some h68
     refine .e [.apA D.str y68_4 ([r115.1]:List (List UInt8)) 1 (fun _=>rfl) b147] (.seq ?_)
     obtain ⟨r154,e154,h68⟩:=bind_some h68
     refine .e [.call (F297 e154) [] 1] (.seq ?_)
     obtain ⟨r159,e159,h68⟩:=bind_some h68
     refine .e [.call (F299 e159) [] 1] (.cD h68 (fun h68=>?_) fun h68=>?_)
     · exact .skip ⟨(r159.2,r115.2.2,(y68_4 ++ ([r115.1]:List (List UInt8)))),h68,(inT [(4,5)] [])⟩
     refine .seq ?_
     obtain ⟨r166,e166,h68⟩:=bind_some h68
     refine .e [.call (F298 e166) [] 1] ?_
     cases h68
     dsimp only at h
     refine .exit (inBlk_ne rfl ?_)
     exact inBlk_eq ⟨(r159.2,r166),rfl,inZ⟩
   rintro ⟨j170_1,j170_2,j170_3⟩ h68
   dsimp only at h68 ⊢
   unfold f353_j170 at h68
   refine .seq ?_
   obtain ⟨r178,e178,h68⟩:=bind_some h68
   obtain ⟨b180,h68⟩:=gd_some h68
   refine .e [.call (hrc296 _ _ _ _ _ e178) [] 1,.apA (rtE (z:=4)) y68_3 ([(RT.of TJson.ok (TJson.mk r178.1 r178.2.1 r178.2.2.1 r178.2.2.2.1))]:List (RT 4)) 4 rtE_ok.len b180] (.seq ?_)
   obtain ⟨r187,e187,h68⟩:=bind_some h68
   refine .e [.call (F297 e187) [] 1] (.seq ?_)
   refine .seq ?_
   obtain ⟨r194,e194,h68⟩:=bind_some h68
   refine .e [.call (F299 e194) [] 1] (.cB h68 (fun h68=>?_) fun h68=>?_)
   · refine .seq (.e [] ?_)
     cases h68
     dsimp only at h
     cases h
     exact .ret rz
   refine .skip (.seq ?_)
   obtain ⟨r207,e207,h68⟩:=bind_some h68
   refine .e [.call (F299 e207) [] 1] (.cD h68 (fun h68=>?_) fun h68=>?_)
   · exact .skip ⟨(r207.2,r178.2.2.2.2.2,(y68_3 ++ ([(RT.of TJson.ok (TJson.mk r178.1 r178.2.1 r178.2.2.1 r178.2.2.2.1))]:List (RT 4))),j170_3),h68,(inT [(3,5)] [])⟩
   obtain ⟨r213,e213,h68⟩:=bind_some h68
   exact .e [.call (F298 e213) [] 1] ⟨(r207.2,r213,(y68_3 ++ ([(RT.of TJson.ok (TJson.mk r178.1 r178.2.1 r178.2.2.1 r178.2.2.2.1))]:List (RT 4))),j170_3),h68,(inT [(3,5)] [])⟩
 rintro ⟨x68_1,x68_2⟩ ho
 subst ho
 dsimp only at h ⊢
 refine .seq (.e [] ?_)
 cases h
 exact .ret rz
def f350_l27 (a0:(List UInt8)):Nat→Int→Option (LR2 Int Unit ((List UInt8)×Int×Int))
  | 0,_=>none
  | k + 1,y27_1=>cond (decide (y27_1 < ((a0.length:Nat):Int))) (gd (0≤y27_1∧y27_1 < ((a0.length:Nat):Int)) (cond (decide ((((a0.getD (y27_1).toNat 0).toNat:Nat):Int) ≥ (48:Int))) (gd (0≤y27_1∧y27_1 < ((a0.length:Nat):Int)) (cond (decide ((((a0.getD (y27_1).toNat 0).toNat:Nat):Int)≤(57:Int))) (f350_l27 a0 k (IntKind.i64.wrap (y27_1 + (1:Int)))) (some (.b0 y27_1)))) (some (.b0 y27_1)))) (some (.b0 y27_1))
def f350_j114 (k:Nat) (a0:(List UInt8)) (x27_1:Int) (a2:Int) (a1:Int) (j114_1:Bool):Option ((List UInt8)×Int×Int):=cond j114_1 ((f298 k a0 x27_1 a2 (4:Int)).bind fun r119=>some (([]:List UInt8),x27_1,r119)) (gd (0≤a1∧a1≤x27_1∧x27_1≤((a0.length:Nat):Int)) (cond (decide ((sl a0 a1 x27_1) = ([45,48]:List UInt8))) (some (([48]:List UInt8),x27_1,a2)) (gd (0≤a1∧a1≤x27_1∧x27_1≤((a0.length:Nat):Int)) (some ((sl a0 a1 x27_1),x27_1,a2)))))
def f350 (k:Nat) (a0:(List UInt8)) (a1:Int) (a2:Int):Option ((List UInt8)×Int×Int):=(f299 k a0 a1 a2 ([45]:List UInt8)).bind fun r17=>(f350_l27 a0 k r17.2).bind fun o27=>(match o27 with | .b0 x27_1=>cond (decide ((IntKind.i64.wrap (x27_1 - r17.2)) < (1:Int))) (f350_j114 k a0 x27_1 a2 a1 true) (cond (decide ((IntKind.i64.wrap (x27_1 - r17.2)) > (19:Int))) (f350_j114 k a0 x27_1 a2 a1 true) (cond (decide ((IntKind.i64.wrap (x27_1 - r17.2)) > (1:Int))) (gd (0≤r17.2∧r17.2 < ((a0.length:Nat):Int)) (f350_j114 k a0 x27_1 a2 a1 (decide ((((a0.getD (r17.2).toNat 0).toNat:Nat):Int) = (48:Int))))) (f350_j114 k a0 x27_1 a2 a1 false))) | _=>none)
theorem F350 {k:Nat} {a0:(List UInt8)} {a1:Int} {a2:Int} {r:((List UInt8)×Int×Int)} (h:f350 k a0 a1 a2 = some r) :
    ACalls Tryd.prog 67 [(.ptr 0 0)] [(0,(.cells [(.d (.str a0)),(.d (.int .i64 a1)),(.d (.int .i64 a2))]))] (.d (.str r.1)) [(0,(.cells [(.d (.str a0)),(.d (.int .i64 r.2.1)),(.d (.int .i64 r.2.2))]))]:=by
 refine acalls_ret ⟨_,Tryd.func67,by kernel_rfl,by kernel_rfl,rfl⟩ 1 1 1 [(2,(.d (.str r.1)))] [(0,(.cells [(.d (.str a0)),(.d (.int .i64 r.2.1)),(.d (.int .i64 r.2.2))]))] (doneA (.inr rfl) rfl ⟨trivial,trivial⟩ (.refl _) (hasCons rfl hasNil)) ?_
 unfold f350 at h
 refine .seq (.e [] ?_)
 refine .seq (.e [] ?_)
 refine .seq ?_
 obtain ⟨r17,e17,h⟩:=bind_some h
 refine .e [.call (F299 e17) [] 1] (.seq ?_)
 refine .e [] ?_
 obtain ⟨o27,h27,h⟩:=bind_some h
 refine .j 1 (fun z=>o27 = .b0 z) (fun z=>[(0,(.ptr 0 0)),(3,(.d (.int .i64 a1))),(4,(.d (.int .i64 r17.2)))]) (fun z=>[(0,(.cells [(.d (.str a0)),(.d (.int .i64 z)),(.d (.int .i64 a2))]))]) ?_ ?_
 · refine .block (.lp 1 (fun k (x:Int)=>f350_l27 a0 k x = some o27) (fun x=>[(0,(.ptr 0 0)),(3,(.d (.int .i64 a1))),(4,(.d (.int .i64 r17.2)))]) (fun x=>[(0,(.cells [(.d (.str a0)),(.d (.int .i64 x)),(.d (.int .i64 a2))]))]) _ h27 [] [] ?_)
   intro k y27_1 h27
   rw [f350_l27] at h27
   refine .seq (.seq ?_)
   rcases cc h27 with ⟨c43,h27⟩ | ⟨c43,h27⟩
   · obtain ⟨b52,h27⟩:=gd_some h27
     rcases cc h27 with ⟨c55,h27⟩ | ⟨c55,h27⟩
     · obtain ⟨b64,h27⟩:=gd_some h27
       refine .e [.br c43,.sd b52,.br c55,.sd b64] (.cB h27 (fun h27=>?_) fun h27=>?_)
       · refine .skip (.block ?_)
         exact .e [] ⟨_,h27,inZ⟩
       cases h27
       dsimp only at h
       refine .exit (inBlk_eq ?_)
       exact ⟨y27_1,rfl,inZ⟩
     refine .e [.br c43,.sd b52,.br c55] (.cF rfl ?_)
     cases h27
     dsimp only at h
     refine .exit (inBlk_eq ?_)
     exact ⟨y27_1,rfl,inZ⟩
   refine .e [.br c43,.br (rfl:false = false)] (.cF rfl ?_)
   cases h27
   dsimp only at h
   refine .exit (inBlk_eq ?_)
   exact ⟨y27_1,rfl,inZ⟩
 intro x27_1 ho
 subst ho
 dsimp only at h
 refine .seq (.e [] ?_)
 refine .seq (.j 1 (fun z=>f350_j114 k a0 x27_1 a2 a1 z = some r) (fun z=>[(0,(.ptr 0 0)),(3,(.d (.int .i64 a1))),(81,(.d (.bool z)))]) (fun z=>[(0,(.cells [(.d (.str a0)),(.d (.int .i64 x27_1)),(.d (.int .i64 a2))]))]) ?_ ?_)
 · rcases cc h with ⟨c97,h⟩ | ⟨c97,h⟩
   · exact .e [.br c97,.br (rfl:true = true)] ⟨_,h,inZ⟩
   rcases cc h with ⟨c101,h⟩ | ⟨c101,h⟩
   · exact .e [.br c97,.br c101] ⟨_,h,inZ⟩
   rcases cc h with ⟨c104,h⟩ | ⟨c104,h⟩
   · obtain ⟨b110,h⟩:=gd_some h
     exact .e [.br c97,.br c101,.br c104,.sd b110] ⟨_,h,inZ⟩
   exact .e [.br c97,.br c101,.br c104] ⟨_,h,inZ⟩
 intro j114_1 h
 unfold f350_j114 at h
 refine .cB h (fun h=>?_) fun h=>?_
 · refine .seq ?_
   obtain ⟨r119,e119,h⟩:=bind_some h
   refine .e [.call (F298 e119) [] 1] (.seq ?_)
   refine .e [] ?_
   cases h
   exact .ret rz
 refine .skip (.seq ?_)
 refine .seq ?_
 obtain ⟨b139,h⟩:=gd_some h
 refine .e [.sd b139] (.cB h (fun h=>?_) fun h=>?_)
 · refine .seq (.e [] ?_)
   cases h
   exact .ret rz
 refine .skip (.seq ?_)
 obtain ⟨b160,h⟩:=gd_some h
 refine .e [.sd b160] ?_
 cases h
 exact .ret rz
def f296_j111 (k:Nat) (a3:Int) (a0:(List UInt8)) (r74:(Bool×Int)) (a2:Int) (rc296:Y296) (j111_1:Bool):Option (Int×(List UInt8)×(List (RT 4))×(List (List UInt8))×Int×Int):=cond j111_1 (cond (decide (a3 ≥ (64:Int))) ((f298 k a0 r74.2 a2 (5:Int)).bind fun r123=>some ((0:Int),([]:List UInt8),([]:List (RT 4)),([]:List (List UInt8)),r74.2,r123)) ((f353 rc296 k a0 r74.2 a2 a3).bind fun r131=>some (r131.1,([]:List UInt8),r131.2.1,r131.2.2.1,r131.2.2.2.1,r131.2.2.2.2))) ((f350 k a0 r74.2 a2).bind fun r138=>some ((4:Int),r138.1,([]:List (RT 4)),([]:List (List UInt8)),r138.2.1,r138.2.2))
def f296_s (rc296:Y296) (k:Nat) (a0:(List UInt8)) (a1:Int) (a2:Int) (a3:Int):Option (Int×(List UInt8)×(List (RT 4))×(List (List UInt8))×Int×Int):=(f297 k a0 a1 a2).bind fun r9=>cond (decide (r9 ≥ ((a0.length:Nat):Int))) ((f298 k a0 r9 a2 (4:Int)).bind fun r30=>some ((0:Int),([]:List UInt8),([]:List (RT 4)),([]:List (List UInt8)),r9,r30)) ((f299 k a0 r9 a2 ([110,117,108,108]:List UInt8)).bind fun r35=>cond r35.1 (some ((1:Int),([]:List UInt8),([]:List (RT 4)),([]:List (List UInt8)),r35.2,a2)) ((f299 k a0 r35.2 a2 ([102,97,108,115,101]:List UInt8)).bind fun r48=>cond r48.1 (some ((2:Int),([]:List UInt8),([]:List (RT 4)),([]:List (List UInt8)),r48.2,a2)) ((f299 k a0 r48.2 a2 ([116,114,117,101]:List UInt8)).bind fun r61=>cond r61.1 (some ((3:Int),([]:List UInt8),([]:List (RT 4)),([]:List (List UInt8)),r61.2,a2)) ((f299 k a0 r61.2 a2 ([34]:List UInt8)).bind fun r74=>cond r74.1 ((f300 k a0 r74.2 a2).bind fun r81=>some ((5:Int),r81.1,([]:List (RT 4)),([]:List (List UInt8)),r81.2.1,r81.2.2)) (gd (0≤r74.2∧r74.2 < ((a0.length:Nat):Int)) (cond (decide ((((a0.getD (r74.2).toNat 0).toNat:Nat):Int) = (91:Int))) (f296_j111 k a3 a0 r74 a2 rc296 true) (gd (0≤r74.2∧r74.2 < ((a0.length:Nat):Int)) (f296_j111 k a3 a0 r74 a2 rc296 (decide ((((a0.getD (r74.2).toNat 0).toNat:Nat):Int) = (123:Int)))))))))))
theorem F296_s {rc296:Y296} (hrc296:RH296 rc296) {k:Nat} {a0:(List UInt8)} {a1:Int} {a2:Int} {a3:Int} {r:(Int×(List UInt8)×(List (RT 4))×(List (List UInt8))×Int×Int)} (h:f296_s rc296 k a0 a1 a2 a3 = some r) :
    ACalls Tryd.prog 45 [(.ptr 0 0),(.d (.int .i64 a3))] [(0,(.cells [(.d (.str a0)),(.d (.int .i64 a1)),(.d (.int .i64 a2))]))] (.d (.agg [(.int .i64 r.1),(.str r.2.1),(.sl (List.map (rtE (z:=4)) r.2.2.1)),(.sl (List.map D.str r.2.2.2.1))])) [(0,(.cells [(.d (.str a0)),(.d (.int .i64 r.2.2.2.2.1)),(.d (.int .i64 r.2.2.2.2.2))]))]:=by
 refine acalls_ret ⟨_,Tryd.func45,by kernel_rfl,by kernel_rfl,rfl⟩ 1 1 2 [(4,(.ptr 1 0))] [(1,(.cells [(.d (.int .i64 r.1)),(.d (.str r.2.1)),(.d (.sl (List.map (rtE (z:=4)) r.2.2.1))),(.d (.sl (List.map D.str r.2.2.2.1)))])),(0,(.cells [(.d (.str a0)),(.d (.int .i64 r.2.2.2.2.1)),(.d (.int .i64 r.2.2.2.2.2))]))] (doneA (.inr rfl) rfl ⟨(Nat.le_of_ble_eq_true rfl),trivial⟩ (.refl _) (hasCons rfl hasNil)) ?_
 unfold f296_s at h
 refine .seq (.e [] ?_)
 refine .seq ?_
 obtain ⟨r9,e9,h⟩:=bind_some h
 refine .e [.call (F297 e9) [] 1] (.seq ?_)
 refine .block (.seq ?_)
 refine .e [] (.cB h (fun h=>?_) fun h=>?_)
 · obtain ⟨r30,e30,h⟩:=bind_some h
   refine .e [.call (F298 e30) [] 1] (.seq ?_)
   refine .e [] ?_
   cases h
   exact .ret rz
 refine .seq ?_
 obtain ⟨r35,e35,h⟩:=bind_some h
 refine .e [.call (F299 e35) [] 1] (.cB h (fun h=>?_) fun h=>?_)
 · refine .seq (.e [] ?_)
   cases h
   exact .ret rz
 refine .seq ?_
 obtain ⟨r48,e48,h⟩:=bind_some h
 refine .e [.call (F299 e48) [] 1] (.cB h (fun h=>?_) fun h=>?_)
 · refine .seq (.e [] ?_)
   cases h
   exact .ret rz
 refine .seq ?_
 obtain ⟨r61,e61,h⟩:=bind_some h
 refine .e [.call (F299 e61) [] 1] (.cB h (fun h=>?_) fun h=>?_)
 · refine .seq (.e [] ?_)
   cases h
   exact .ret rz
 refine .seq ?_
 obtain ⟨r74,e74,h⟩:=bind_some h
 refine .e [.call (F299 e74) [] 1] (.cB h (fun h=>?_) fun h=>?_)
 · refine .seq ?_
   obtain ⟨r81,e81,h⟩:=bind_some h
   refine .e [.call (F300 e81) [] 1] ?_
   cases h
   exact .ret rz
 refine .j 2 (fun z=>f296_j111 k a3 a0 r74 a2 rc296 z = some r) (fun z=>[(0,(.ptr 0 0)),(1,(.d (.int .i64 a3))),(4,(.ptr 1 0)),(41,(.d (.bool z)))]) (fun z=>[(0,(.cells [(.d (.str a0)),(.d (.int .i64 r74.2)),(.d (.int .i64 a2))])),(1,(.cells [(.d (.int .i64 (0:Int))),(.d (.str ([]:List UInt8))),.nils,.nils]))]) ?_ ?_
 · obtain ⟨b96,h⟩:=gd_some h
   rcases cc h with ⟨c98,h⟩ | ⟨c98,h⟩
   · exact .e [.sd b96,.br c98] ⟨_,h,inZ⟩
   obtain ⟨b107,h⟩:=gd_some h
   exact .e [.sd b96,.br c98,.sd b107] ⟨_,h,inZ⟩
 intro j111_1 h
 unfold f296_j111 at h
 refine .cD h (fun h=>?_) fun h=>?_
 · refine .seq ?_
   obtain ⟨r138,e138,h⟩:=bind_some h
   refine .e [.call (F350 e138) [] 1] ?_
   cases h
   exact .ret rz
 refine .seq (.seq ?_)
 refine .e [] (.cD h (fun h=>?_) fun h=>?_)
 · refine .skip (.seq ?_)
   obtain ⟨r131,e131,h⟩:=bind_some h
   refine .e [.call (F353 hrc296 e131) [] 1] ?_
   cases h
   exact .ret rz
 refine .seq ?_
 obtain ⟨r123,e123,h⟩:=bind_some h
 refine .e [.call (F298 e123) [] 1] (.exit ?_)
 refine inBlk_eq (.seq ?_)
 refine .e [] ?_
 cases h
 exact .ret rz
def f296:Nat→(List UInt8)→Int→Int→Int→Option (Int×(List UInt8)×(List (RT 4))×(List (List UInt8))×Int×Int)
  | 0,_,_,_,_=>none
  | k + 1,a0,a1,a2,a3=>f296_s (f296 k) k a0 a1 a2 a3
theorem F296 {k:Nat} {a0:(List UInt8)} {a1:Int} {a2:Int} {a3:Int} {r:(Int×(List UInt8)×(List (RT 4))×(List (List UInt8))×Int×Int)} (h:f296 k a0 a1 a2 a3 = some r) :
    ACalls Tryd.prog 45 [(.ptr 0 0),(.d (.int .i64 a3))] [(0,(.cells [(.d (.str a0)),(.d (.int .i64 a1)),(.d (.int .i64 a2))]))] (.d (.agg [(.int .i64 r.1),(.str r.2.1),(.sl (List.map (rtE (z:=4)) r.2.2.1)),(.sl (List.map D.str r.2.2.2.1))])) [(0,(.cells [(.d (.str a0)),(.d (.int .i64 r.2.2.2.2.1)),(.d (.int .i64 r.2.2.2.2.2))]))]:=by
  induction k generalizing a0 a1 a2 a3 r with
  | zero=>exact absurd (show (none:Option _) = some r from h) (fun h2=>by cases h2)
  | succ k ih=>exact F296_s (fun _ _ _ _ _ h=>ih h) h
def f295_j61 (k:Nat) (r33:(Int×(List UInt8)×(List (RT 4))×(List (List UInt8))×Int×Int)) (j61_1:Int):Option (Int×Int×(List UInt8)×(List (RT 4))×(List (List UInt8))):=cond (decide (j61_1≠(0:Int))) (some (j61_1,(0:Int),([]:List UInt8),([]:List (RT 4)),([]:List (List UInt8)))) (some ((0:Int),r33.1,r33.2.1,r33.2.2.1,r33.2.2.2.1))
def f295 (k:Nat) (a0:(List UInt8)):Option (Int×Int×(List UInt8)×(List (RT 4))×(List (List UInt8))):=cond (decide (((a0.length:Nat):Int) > (20000:Int))) (some ((5:Int),(0:Int),([]:List UInt8),([]:List (RT 4)),([]:List (List UInt8)))) ((f296 k a0 (0:Int) (0:Int) (0:Int)).bind fun r33=>(f297 k a0 r33.2.2.2.2.1 r33.2.2.2.2.2).bind fun r40=>cond (decide (r40 < ((a0.length:Nat):Int))) ((f298 k a0 r40 r33.2.2.2.2.2 (4:Int)).bind fun r59=>f295_j61 k r33 r59) (f295_j61 k r33 r33.2.2.2.2.2))
theorem F295 {k:Nat} {a0:(List UInt8)} {r:(Int×Int×(List UInt8)×(List (RT 4))×(List (List UInt8)))} (h:f295 k a0 = some r) :
    ACalls Tryd.prog 30 [(.d (.str a0))] [] (.tup [(.d (.agg [(.int .i64 r.2.1),(.str r.2.2.1),(.sl (List.map (rtE (z:=4)) r.2.2.2.1)),(.sl (List.map D.str r.2.2.2.2))])),(.d (.int .i64 r.1))]) []:=by
 refine acalls_ret ⟨_,Tryd.func30,by kernel_rfl,by kernel_rfl,rfl⟩ 0 0 1 [(2,(.ptr 0 0)),(3,(.d (.int .i64 r.1)))] [(0,(.cells [(.d (.int .i64 r.2.1)),(.d (.str r.2.2.1)),(.d (.sl (List.map (rtE (z:=4)) r.2.2.2.1))),(.d (.sl (List.map D.str r.2.2.2.2)))]))] (doneA (.inr rfl) rfl ⟨(Nat.le_of_ble_eq_true rfl),⟨trivial,trivial⟩⟩ (.refl _) hasNil) ?_
 unfold f295 at h
 refine .seq (.e [] ?_)
 refine .seq (.seq ?_)
 refine .e [] (.cB h (fun h=>?_) fun h=>?_)
 · refine .seq (.e [] ?_)
   cases h
   exact .ret rz
 refine .skip (.seq ?_)
 refine .e [] (.seq ?_)
 obtain ⟨r33,e33,h⟩:=bind_some h
 refine .e [.call (F296 e33) [(0,1)] 1] (.seq ?_)
 obtain ⟨r40,e40,h⟩:=bind_some h
 refine .e [.call (F297 e40) [(0,1)] 1] (.j 3 (fun z=>f295_j61 k r33 z = some r) (fun z=>[(2,(.ptr 0 0)),(4,(.ptr 1 0)),(5,(.ptr 2 0))]) (fun z=>[(0,(.cells [(.d (.int .i64 (0:Int))),(.d (.str ([]:List UInt8))),.nils,.nils])),(1,(.cells [(.d (.str a0)),(.d (.int .i64 r40)),(.d (.int .i64 z))])),(2,(.cells [(.d (.int .i64 r33.1)),(.d (.str r33.2.1)),(.d (.sl (List.map (rtE (z:=4)) r33.2.2.1))),(.d (.sl (List.map D.str r33.2.2.2.1)))]))]) ?_ ?_)
 · refine .seq (.e [] ?_)
   refine .cD h (fun h=>?_) fun h=>?_
   · exact .skip ⟨_,h,inZ⟩
   obtain ⟨r59,e59,h⟩:=bind_some h
   exact .e [.call (F298 e59) [(0,1)] 1] ⟨_,h,inZ⟩
 intro j61_1 h
 unfold f295_j61 at h
 refine .seq (.seq ?_)
 refine .e [] (.cB h (fun h=>?_) fun h=>?_)
 · refine .seq (.e [] ?_)
   cases h
   exact .ret rz
 refine .skip (.seq ?_)
 refine .e [] ?_
 cases h
 exact .ret rz
abbrev Y357:=(List TNode)→Nat→Nat→Int→TJson→(List UInt8)→Option (Int×Nat×Int×(List TNode))
def RH357 (rc357:Y357):Prop:=∀ (a0:(List TNode)) (a1:Nat) (a2:Nat) (a3:Int) (a4:TJson) (a5:(List UInt8)) (r:(Int×Nat×Int×(List TNode))),rc357 a0 a1 a2 a3 a4 a5 = some r→∀ {vs:List Value},vs.length≤a1 * 10→ACalls Tryd.prog 31 [(.ptr 0 0),(.d (TJson.enc a4)),(.d (.str a5))] [(0,(.cells [(.row 1 10 a2),(.d (.int .i64 a3))])),(1,(.rowQ 3 10 vs [] (cellsD TNode.enc a0)))] (.d (.int .i64 r.1)) [(0,(.cells [(.row 2 10 r.2.1),(.d (.int .i64 r.2.2.1))])),(2,(.rowQ 3 10 vs [] (cellsD TNode.enc r.2.2.2)))]
def f341_l15 (a0:(List UInt8)):Nat→Int→Option (LR2 Unit Unit Int)
  | 0,_=>none
  | k + 1,y15_1=>cond (decide (y15_1 < ((([([110,117,108,108]:List UInt8),([98,111,111,108,101,97,110]:List UInt8),([105,110,116]:List UInt8),([108,111,110,103]:List UInt8),([102,108,111,97,116]:List UInt8),([100,111,117,98,108,101]:List UInt8),([98,121,116,101,115]:List UInt8),([115,116,114,105,110,103]:List UInt8)]:List (List UInt8)).length:Nat):Int))) (gd (0≤y15_1∧y15_1 < ((([([110,117,108,108]:List UInt8),([98,111,111,108,101,97,110]:List UInt8),([105,110,116]:List UInt8),([108,111,110,103]:List UInt8),([102,108,111,97,116]:List UInt8),([100,111,117,98,108,101]:List UInt8),([98,121,116,101,115]:List UInt8),([115,116,114,105,110,103]:List UInt8)]:List (List UInt8)).length:Nat):Int)) (cond (decide ((rd ([([110,117,108,108]:List UInt8),([98,111,111,108,101,97,110]:List UInt8),([105,110,116]:List UInt8),([108,111,110,103]:List UInt8),([102,108,111,97,116]:List UInt8),([100,111,117,98,108,101]:List UInt8),([98,121,116,101,115]:List UInt8),([115,116,114,105,110,103]:List UInt8)]:List (List UInt8)) y15_1) = a0)) (some (.r (IntKind.i64.wrap (y15_1 + (1:Int))))) (f341_l15 a0 k (IntKind.i64.wrap (y15_1 + (1:Int)))))) (some (.b0 ()))
def f341 (k:Nat) (a0:(List UInt8)):Option Int:=(f341_l15 a0 k (0:Int)).bind fun o15=>(match o15 with | .b0 ()=>some (0:Int) | .r x=>some x | _=>none)
theorem F341 {k:Nat} {a0:(List UInt8)} {r:Int} (h:f341 k a0 = some r) :
    ACalls Tryd.prog 68 [(.d (.str a0))] [] (.d (.int .i64 r)) []:=by
 refine acalls_ret ⟨_,Tryd.func68,by kernel_rfl,by kernel_rfl,rfl⟩ 0 0 0 [(2,(.d (.int .i64 r)))] [] (doneA (.inr rfl) rfl ⟨trivial,trivial⟩ (.refl _) hasNil) ?_
 unfold f341 at h
 refine .seq (.e [] ?_)
 refine .seq (.e [] ?_)
 refine .seq (.seq ?_)
 refine .e [] ?_
 obtain ⟨o15,h15,h⟩:=bind_some h
 refine .block (.lp 0 (fun k (x:Int)=>f341_l15 a0 k x = some o15) (fun x=>[(0,(.d (.str a0))),(3,(.d (.sl (List.map D.str ([([110,117,108,108]:List UInt8),([98,111,111,108,101,97,110]:List UInt8),([105,110,116]:List UInt8),([108,111,110,103]:List UInt8),([102,108,111,97,116]:List UInt8),([100,111,117,98,108,101]:List UInt8),([98,121,116,101,115]:List UInt8),([115,116,114,105,110,103]:List UInt8)]:List (List UInt8)))))),(4,(.d (.int .i64 x)))]) (fun x=>[]) _ h15 [] [] ?_)
 intro k y15_1 h15
 rw [f341_l15] at h15
 refine .seq (.seq ?_)
 refine .e [.ln D.str ([([110,117,108,108]:List UInt8),([98,111,111,108,101,97,110]:List UInt8),([105,110,116]:List UInt8),([108,111,110,103]:List UInt8),([102,108,111,97,116]:List UInt8),([100,111,117,98,108,101]:List UInt8),([98,121,116,101,115]:List UInt8),([115,116,114,105,110,103]:List UInt8)]:List (List UInt8))] (.cD h15 (fun h15=>?_) fun h15=>?_)
 · cases h15
   dsimp only at h
   refine .exit (inBlk_eq ?_)
   refine .seq (.e [] ?_)
   cases h
   exact .ret rz
 refine .skip (.seq ?_)
 refine .block (.seq ?_)
 obtain ⟨b35,h15⟩:=gd_some h15
 refine .e [.iad D.str ([([110,117,108,108]:List UInt8),([98,111,111,108,101,97,110]:List UInt8),([105,110,116]:List UInt8),([108,111,110,103]:List UInt8),([102,108,111,97,116]:List UInt8),([100,111,117,98,108,101]:List UInt8),([98,121,116,101,115]:List UInt8),([115,116,114,105,110,103]:List UInt8)]:List (List UInt8)) 1 (fun _=>rfl) b35] (.cD h15 (fun h15=>?_) fun h15=>?_)
 · refine .skip (.e [] ?_)
   exact ⟨_,h15,inZ⟩
 refine .seq (.e [] ?_)
 cases h15
 dsimp only at h
 cases h
 exact .ret rz
def f362 (k:Nat) (a0:(List TNode)) (a1:Nat) (a2:Nat) (a3:Int) (a4:Int):Option Int:=cond (decide (a3 = (0:Int))) (some a4) (some a3)
theorem F362 {k:Nat} {a0:(List TNode)} {a1:Nat} {a2:Nat} {a3:Int} {a4:Int} {r:Int} (h:f362 k a0 a1 a2 a3 a4 = some r) {vs:List Value} (hvs:vs.length≤a1 * 10) :
    ACalls Tryd.prog 53 [(.ptr 0 0),(.d (.int .i64 a4))] [(0,(.cells [(.row 1 10 a2),(.d (.int .i64 a3))])),(1,(.rowQ 3 10 vs [] (cellsD TNode.enc a0)))] (.tup []) [(0,(.cells [(.row 1 10 a2),(.d (.int .i64 r))])),(1,(.rowQ 3 10 vs [] (cellsD TNode.enc a0)))]:=by
 refine acalls_ret ⟨_,Tryd.func53,by kernel_rfl,by kernel_rfl,rfl⟩ 2 2 2 [] [(0,(.cells [(.row 1 10 a2),(.d (.int .i64 r))])),(1,(.rowQ 3 10 vs [] (cellsD TNode.enc a0)))] (doneA (.inr rfl) rfl trivial (.refl _) (hasCons rfl (hasCons rfl hasNil))) ?_
 unfold f362 at h
 refine .seq (.e [] ?_)
 refine .cB h (fun h=>?_) fun h=>?_
 · refine .e [] ?_
   cases h
   exact rqn [] []
 refine .skip ?_
 cases h
 exact rqn [] []
def f363 (k:Nat) (a0:(List TNode)) (a1:Nat) (a2:Nat) (a3:Int) (a4:Int):Option (Int×Nat×Int×(List TNode)):=cond (decide (((a2:Nat):Int) ≥ (200:Int))) ((f362 k a0 a1 a2 a3 (5:Int)).bind fun r20=>some ((0:Int),a2,r20,a0)) (gd (a2 = a0.length∧a1≤a2∧(a2 + 1) * 2 * 160≤281474976710656) (some ((IntKind.i64.wrap ((((a2 + 1):Nat):Int) - (1:Int))),(a2 + 1),a3,(a0 ++ [(TNode.mk a4 ([]:List UInt8) ([]:List (List UInt8)) ([]:List TField) ([]:List (List UInt8)) false ([]:List UInt8) (0:Int) ([]:List Int) (0:Int))]))))
theorem F363 {k:Nat} {a0:(List TNode)} {a1:Nat} {a2:Nat} {a3:Int} {a4:Int} {r:(Int×Nat×Int×(List TNode))} (h:f363 k a0 a1 a2 a3 a4 = some r) {vs:List Value} (hvs:vs.length≤a1 * 10) :
    ACalls Tryd.prog 69 [(.ptr 0 0),(.d (.int .i64 a4))] [(0,(.cells [(.row 1 10 a2),(.d (.int .i64 a3))])),(1,(.rowQ 3 10 vs [] (cellsD TNode.enc a0)))] (.d (.int .i64 r.1)) [(0,(.cells [(.row 2 10 r.2.1),(.d (.int .i64 r.2.2.1))])),(2,(.rowQ 3 10 vs [] (cellsD TNode.enc r.2.2.2)))]:=by
 refine acalls_ret ⟨_,Tryd.func69,by kernel_rfl,by kernel_rfl,rfl⟩ 2 3 3 [(4,(.d (.int .i64 r.1)))] [(0,(.cells [(.row 2 10 r.2.1),(.d (.int .i64 r.2.2.1))])),(2,(.rowQ 3 10 vs [] (cellsD TNode.enc r.2.2.2)))] (doneA (.inr rfl) rfl ⟨trivial,trivial⟩ (.refl _) (hasCons rfl (hasCons rfl hasNil))) ?_
 unfold f363 at h
 refine .seq (.e [] ?_)
 refine .seq (.seq ?_)
 refine .e [.lnR] (.cB h (fun h=>?_) fun h=>?_)
 · refine .seq ?_
   obtain ⟨r20,e20,h⟩:=bind_some h
   refine .e [.call (F362 e20 hvs) [] 2] (.seq ?_)
   refine .e [] ?_
   cases h
   exact .ret (rq [(2,1)] [])
 refine .skip (.seq ?_)
 obtain ⟨b38,h⟩:=gd_some h
 refine .e [.raw,.rawS,.apC TNode.ok 3 hvs a0 (TNode.mk a4 ([]:List UInt8) ([]:List (List UInt8)) ([]:List TField) ([]:List (List UInt8)) false ([]:List UInt8) (0:Int) ([]:List Int) (0:Int)) (n:=a2) [(.d (.int .i64 a4)),(.d (.str ([]:List UInt8))),.nils,.nils,.nils,(.d (.bool false)),(.d (.str ([]:List UInt8))),(.d (.int .i64 (0:Int))),.nils,(.d (.int .i64 (0:Int)))] (b:=160) b38 (dd:=[.int .i64 a4,.str ([]:List UInt8),.sl [],.sl [],.sl [],.bool false,.str ([]:List UInt8),.int .i64 (0:Int),.sl [],.int .i64 (0:Int)]) rfl (.cons (.refl _) rfl (.cons (.refl _) rfl (.cons (.sl rfl) rfl (.cons (.sl rfl) rfl (.cons (.sl rfl) rfl (.cons (.refl _) rfl (.cons (.refl _) rfl (.cons (.refl _) rfl (.cons (.sl rfl) rfl (.cons (.refl _) rfl .nil))))))))))] (.seq ?_)
 refine .e [.lnR] ?_
 cases h
 exact .ret (rq [(2,3)] [])
def f339_j78 (k:Nat) (a0:(List UInt8)):Option Bool:=cond (decide (((a0.length:Nat):Int) ≥ (1:Int))) (some (decide (((a0.length:Nat):Int)≤(100:Int)))) (some false)
def f339_l10 (a0:(List UInt8)):Nat→Int→Option (LR2 Unit Unit Bool)
  | 0,_=>none
  | k + 1,y10_1=>cond (decide (y10_1 < ((a0.length:Nat):Int))) (gd (0≤y10_1∧y10_1 < ((a0.length:Nat):Int)) (cond (decide ((((a0.getD (y10_1).toNat 0).toNat:Nat):Int) ≥ (97:Int))) (cond (decide ((((a0.getD (y10_1).toNat 0).toNat:Nat):Int)≤(122:Int))) (f339_l10 a0 k (IntKind.i64.wrap (y10_1 + (1:Int)))) (cond (decide ((((a0.getD (y10_1).toNat 0).toNat:Nat):Int) ≥ (65:Int))) (cond (decide ((((a0.getD (y10_1).toNat 0).toNat:Nat):Int)≤(90:Int))) (f339_l10 a0 k (IntKind.i64.wrap (y10_1 + (1:Int)))) (cond (decide ((((a0.getD (y10_1).toNat 0).toNat:Nat):Int) = (95:Int))) (f339_l10 a0 k (IntKind.i64.wrap (y10_1 + (1:Int)))) (cond (decide (y10_1 > (0:Int))) (cond (decide ((((a0.getD (y10_1).toNat 0).toNat:Nat):Int) ≥ (48:Int))) (cond (!(decide ((((a0.getD (y10_1).toNat 0).toNat:Nat):Int)≤(57:Int)))) (some (.r false)) (f339_l10 a0 k (IntKind.i64.wrap (y10_1 + (1:Int))))) (some (.r false))) (some (.r false))))) (cond (decide ((((a0.getD (y10_1).toNat 0).toNat:Nat):Int) = (95:Int))) (f339_l10 a0 k (IntKind.i64.wrap (y10_1 + (1:Int)))) (cond (decide (y10_1 > (0:Int))) (cond (decide ((((a0.getD (y10_1).toNat 0).toNat:Nat):Int) ≥ (48:Int))) (cond (!(decide ((((a0.getD (y10_1).toNat 0).toNat:Nat):Int)≤(57:Int)))) (some (.r false)) (f339_l10 a0 k (IntKind.i64.wrap (y10_1 + (1:Int))))) (some (.r false))) (some (.r false)))))) (cond (decide ((((a0.getD (y10_1).toNat 0).toNat:Nat):Int) ≥ (65:Int))) (cond (decide ((((a0.getD (y10_1).toNat 0).toNat:Nat):Int)≤(90:Int))) (f339_l10 a0 k (IntKind.i64.wrap (y10_1 + (1:Int)))) (cond (decide ((((a0.getD (y10_1).toNat 0).toNat:Nat):Int) = (95:Int))) (f339_l10 a0 k (IntKind.i64.wrap (y10_1 + (1:Int)))) (cond (decide (y10_1 > (0:Int))) (cond (decide ((((a0.getD (y10_1).toNat 0).toNat:Nat):Int) ≥ (48:Int))) (cond (!(decide ((((a0.getD (y10_1).toNat 0).toNat:Nat):Int)≤(57:Int)))) (some (.r false)) (f339_l10 a0 k (IntKind.i64.wrap (y10_1 + (1:Int))))) (some (.r false))) (some (.r false))))) (cond (decide ((((a0.getD (y10_1).toNat 0).toNat:Nat):Int) = (95:Int))) (f339_l10 a0 k (IntKind.i64.wrap (y10_1 + (1:Int)))) (cond (decide (y10_1 > (0:Int))) (cond (decide ((((a0.getD (y10_1).toNat 0).toNat:Nat):Int) ≥ (48:Int))) (cond (!(decide ((((a0.getD (y10_1).toNat 0).toNat:Nat):Int)≤(57:Int)))) (some (.r false)) (f339_l10 a0 k (IntKind.i64.wrap (y10_1 + (1:Int))))) (some (.r false))) (some (.r false))))))) (some (.b0 ()))
def f339 (k:Nat) (a0:(List UInt8)):Option Bool:=(f339_l10 a0 k (0:Int)).bind fun o10=>(match o10 with | .b0 ()=>f339_j78 k a0 | .r x=>some x | _=>none)
theorem F339 {k:Nat} {a0:(List UInt8)} {r:Bool} (h:f339 k a0 = some r) :
    ACalls Tryd.prog 94 [(.d (.str a0))] [] (.d (.bool r)) []:=by
 refine acalls_ret ⟨_,Tryd.func94,by kernel_rfl,by kernel_rfl,rfl⟩ 0 0 0 [(2,(.d (.bool r)))] [] (doneA (.inr rfl) rfl ⟨trivial,trivial⟩ (.refl _) hasNil) ?_
 unfold f339 at h
 refine .seq (.e [] ?_)
 refine .j 0 (fun (z:Unit)=>f339_j78 k a0 = some r) (fun z=>[(0,(.d (.str a0)))]) (fun z=>[]) ?_ ?_
 · refine .seq (.e [] ?_)
   obtain ⟨o10,h10,h⟩:=bind_some h
   refine .block (.lp 0 (fun k (x:Int)=>f339_l10 a0 k x = some o10) (fun x=>[(0,(.d (.str a0))),(3,(.d (.int .i64 x)))]) (fun x=>[]) _ h10 [] [] ?_)
   intro k y10_1 h10
   rw [f339_l10] at h10
   refine .seq (.seq ?_)
   refine .e [] (.cD h10 (fun h10=>?_) fun h10=>?_)
   · cases h10
     dsimp only at h
     refine .exit (inBlk_eq ?_)
     exact ⟨(),h,inZ⟩
   refine .skip (.seq ?_)
   refine .block (.seq ?_)
   obtain ⟨b30,h10⟩:=gd_some h10
   refine .e [.sd b30] (.seq ?_)
   rcases cc h10 with ⟨c37,h10⟩ | ⟨c37,h10⟩
   · rcases cc h10 with ⟨c41,h10⟩ | ⟨c41,h10⟩
     · refine .e [.br c37,.br c41,.br (rfl:true = true),.br (rfl:true = true)] (.cF rfl ?_)
       refine .skip (.e [] ?_)
       exact ⟨_,h10,inZ⟩
     rcases cc h10 with ⟨c44,h10⟩ | ⟨c44,h10⟩
     · rcases cc h10 with ⟨c49,h10⟩ | ⟨c49,h10⟩
       · refine .e [.br c37,.br c41,.br c44,.br c49,.br (rfl:true = true)] (.cF rfl ?_)
         refine .skip (.e [] ?_)
         exact ⟨_,h10,inZ⟩
       rcases cc h10 with ⟨c53,h10⟩ | ⟨c53,h10⟩
       · refine .e [.br c37,.br c41,.br c44,.br c49,.br c53] (.cF rfl ?_)
         refine .skip (.e [] ?_)
         exact ⟨_,h10,inZ⟩
       rcases cc h10 with ⟨c56,h10⟩ | ⟨c56,h10⟩
       · rcases cc h10 with ⟨c60,h10⟩ | ⟨c60,h10⟩
         · refine .e [.br c37,.br c41,.br c44,.br c49,.br c53,.br c56,.br c60] (.cD h10 (fun h10=>?_) fun h10=>?_)
           · refine .skip (.e [] ?_)
             exact ⟨_,h10,inZ⟩
           refine .seq (.e [] ?_)
           cases h10
           dsimp only at h
           cases h
           exact .ret rz
         refine .e [.br c37,.br c41,.br c44,.br c49,.br c53,.br c56,.br c60] (.cT rfl ?_)
         refine .seq (.e [] ?_)
         cases h10
         dsimp only at h
         cases h
         exact .ret rz
       refine .e [.br c37,.br c41,.br c44,.br c49,.br c53,.br c56,.br (rfl:false = false)] (.cT rfl ?_)
       refine .seq (.e [] ?_)
       cases h10
       dsimp only at h
       cases h
       exact .ret rz
     rcases cc h10 with ⟨c53,h10⟩ | ⟨c53,h10⟩
     · refine .e [.br c37,.br c41,.br c44,.br (rfl:false = false),.br c53] (.cF rfl ?_)
       refine .skip (.e [] ?_)
       exact ⟨_,h10,inZ⟩
     rcases cc h10 with ⟨c56,h10⟩ | ⟨c56,h10⟩
     · rcases cc h10 with ⟨c60,h10⟩ | ⟨c60,h10⟩
       · refine .e [.br c37,.br c41,.br c44,.br (rfl:false = false),.br c53,.br c56,.br c60] (.cD h10 (fun h10=>?_) fun h10=>?_)
         · refine .skip (.e [] ?_)
           exact ⟨_,h10,inZ⟩
         refine .seq (.e [] ?_)
         cases h10
         dsimp only at h
         cases h
         exact .ret rz
       refine .e [.br c37,.br c41,.br c44,.br (rfl:false = false),.br c53,.br c56,.br c60] (.cT rfl ?_)
       refine .seq (.e [] ?_)
       cases h10
       dsimp only at h
       cases h
       exact .ret rz
     refine .e [.br c37,.br c41,.br c44,.br (rfl:false = false),.br c53,.br c56,.br (rfl:false = false)] (.cT rfl ?_)
     refine .seq (.e [] ?_)
     cases h10
     dsimp only at h
     cases h
     exact .ret rz
   rcases cc h10 with ⟨c44,h10⟩ | ⟨c44,h10⟩
   · rcases cc h10 with ⟨c49,h10⟩ | ⟨c49,h10⟩
     · refine .e [.br c37,.br (rfl:false = false),.br c44,.br c49,.br (rfl:true = true)] (.cF rfl ?_)
       refine .skip (.e [] ?_)
       exact ⟨_,h10,inZ⟩
     rcases cc h10 with ⟨c53,h10⟩ | ⟨c53,h10⟩
     · refine .e [.br c37,.br (rfl:false = false),.br c44,.br c49,.br c53] (.cF rfl ?_)
       refine .skip (.e [] ?_)
       exact ⟨_,h10,inZ⟩
     rcases cc h10 with ⟨c56,h10⟩ | ⟨c56,h10⟩
     · rcases cc h10 with ⟨c60,h10⟩ | ⟨c60,h10⟩
       · refine .e [.br c37,.br (rfl:false = false),.br c44,.br c49,.br c53,.br c56,.br c60] (.cD h10 (fun h10=>?_) fun h10=>?_)
         · refine .skip (.e [] ?_)
           exact ⟨_,h10,inZ⟩
         refine .seq (.e [] ?_)
         cases h10
         dsimp only at h
         cases h
         exact .ret rz
       refine .e [.br c37,.br (rfl:false = false),.br c44,.br c49,.br c53,.br c56,.br c60] (.cT rfl ?_)
       refine .seq (.e [] ?_)
       cases h10
       dsimp only at h
       cases h
       exact .ret rz
     refine .e [.br c37,.br (rfl:false = false),.br c44,.br c49,.br c53,.br c56,.br (rfl:false = false)] (.cT rfl ?_)
     refine .seq (.e [] ?_)
     cases h10
     dsimp only at h
     cases h
     exact .ret rz
   rcases cc h10 with ⟨c53,h10⟩ | ⟨c53,h10⟩
   · refine .e [.br c37,.br (rfl:false = false),.br c44,.br (rfl:false = false),.br c53] (.cF rfl ?_)
     refine .skip (.e [] ?_)
     exact ⟨_,h10,inZ⟩
   rcases cc h10 with ⟨c56,h10⟩ | ⟨c56,h10⟩
   · rcases cc h10 with ⟨c60,h10⟩ | ⟨c60,h10⟩
     · refine .e [.br c37,.br (rfl:false = false),.br c44,.br (rfl:false = false),.br c53,.br c56,.br c60] (.cD h10 (fun h10=>?_) fun h10=>?_)
       · refine .skip (.e [] ?_)
         exact ⟨_,h10,inZ⟩
       refine .seq (.e [] ?_)
       cases h10
       dsimp only at h
       cases h
       exact .ret rz
     refine .e [.br c37,.br (rfl:false = false),.br c44,.br (rfl:false = false),.br c53,.br c56,.br c60] (.cT rfl ?_)
     refine .seq (.e [] ?_)
     cases h10
     dsimp only at h
     cases h
     exact .ret rz
   refine .e [.br c37,.br (rfl:false = false),.br c44,.br (rfl:false = false),.br c53,.br c56,.br (rfl:false = false)] (.cT rfl ?_)
   refine .seq (.e [] ?_)
   cases h10
   dsimp only at h
   cases h
   exact .ret rz
 rintro ⟨⟩ h
 unfold f339_j78 at h
 refine .seq ?_
 rcases cc h with ⟨c84,h⟩ | ⟨c84,h⟩
 · refine .e [.br c84] ?_
   cases h
   exact .ret rz
 refine .e [.br c84] ?_
 cases h
 exact .ret rz
def f257_l13 (a0:(List UInt8)):Nat→Int→Option (LR2 Unit Unit Int)
  | 0,_=>none
  | k + 1,y13_1=>cond (decide (y13_1 ≥ (0:Int))) (gd (0≤y13_1∧y13_1 < ((a0.length:Nat):Int)) (cond (decide ((((a0.getD (y13_1).toNat 0).toNat:Nat):Int) = (46:Int))) (some (.r y13_1)) (f257_l13 a0 k (IntKind.i64.wrap (y13_1 - (1:Int)))))) (some (.b0 ()))
def f257 (k:Nat) (a0:(List UInt8)):Option Int:=(f257_l13 a0 k (IntKind.i64.wrap (((a0.length:Nat):Int) - (1:Int)))).bind fun o13=>(match o13 with | .b0 ()=>some (-1:Int) | .r x=>some x | _=>none)
theorem F257 {k:Nat} {a0:(List UInt8)} {r:Int} (h:f257 k a0 = some r) :
    ACalls Tryd.prog 95 [(.d (.str a0))] [] (.d (.int .i64 r)) []:=by
 refine acalls_ret ⟨_,Tryd.func95,by kernel_rfl,by kernel_rfl,rfl⟩ 0 0 0 [(2,(.d (.int .i64 r)))] [] (doneA (.inr rfl) rfl ⟨trivial,trivial⟩ (.refl _) hasNil) ?_
 unfold f257 at h
 refine .seq (.e [] ?_)
 refine .seq (.seq ?_)
 refine .e [] ?_
 obtain ⟨o13,h13,h⟩:=bind_some h
 refine .block (.lp 0 (fun k (x:Int)=>f257_l13 a0 k x = some o13) (fun x=>[(0,(.d (.str a0))),(3,(.d (.int .i64 x)))]) (fun x=>[]) _ h13 [] [] ?_)
 intro k y13_1 h13
 rw [f257_l13] at h13
 refine .seq (.seq ?_)
 refine .e [] (.cD h13 (fun h13=>?_) fun h13=>?_)
 · cases h13
   dsimp only at h
   refine .exit (inBlk_eq ?_)
   refine .seq (.e [] ?_)
   cases h
   exact .ret rz
 refine .skip (.seq ?_)
 refine .block (.seq ?_)
 obtain ⟨b31,h13⟩:=gd_some h13
 refine .e [.sd b31] (.cD h13 (fun h13=>?_) fun h13=>?_)
 · refine .skip (.e [] ?_)
   exact ⟨_,h13,inZ⟩
 refine .seq (.e [] ?_)
 cases h13
 dsimp only at h
 cases h
 exact .ret rz
def f340_j71 (k:Nat) (a0:(List UInt8)):Option Bool:=some (decide (((a0.length:Nat):Int)≤(100:Int)))
def f340_j42 (L:Int→Int→Option (LR2 Unit Unit Bool)) (k:Nat) (y14_1:Int) (y14_2:Int) (a0:(List UInt8)) (j42_1:Bool):Option (LR2 Unit Unit Bool):=cond j42_1 (gd (0≤y14_1∧y14_1≤y14_2∧y14_2≤((a0.length:Nat):Int)) ((f339 k (sl a0 y14_1 y14_2)).bind fun r51=>cond (!r51) (some (.r false)) (L (IntKind.i64.wrap (y14_2 + (1:Int))) (IntKind.i64.wrap (y14_2 + (1:Int)))))) (L y14_1 (IntKind.i64.wrap (y14_2 + (1:Int))))
def f340_l14 (a0:(List UInt8)):Nat→Int→Int→Option (LR2 Unit Unit Bool)
  | 0,_,_=>none
  | k + 1,y14_1,y14_2=>cond (decide (y14_2≤((a0.length:Nat):Int))) (cond (decide (y14_2 = ((a0.length:Nat):Int))) (f340_j42 (f340_l14 a0 k) k y14_1 y14_2 a0 true) (gd (0≤y14_2∧y14_2 < ((a0.length:Nat):Int)) (f340_j42 (f340_l14 a0 k) k y14_1 y14_2 a0 (decide ((((a0.getD (y14_2).toNat 0).toNat:Nat):Int) = (46:Int)))))) (some (.b0 ()))
def f340 (k:Nat) (a0:(List UInt8)):Option Bool:=(f340_l14 a0 k (0:Int) (0:Int)).bind fun o14=>(match o14 with | .b0 ()=>f340_j71 k a0 | .r x=>some x | _=>none)
theorem F340 {k:Nat} {a0:(List UInt8)} {r:Bool} (h:f340 k a0 = some r) :
    ACalls Tryd.prog 72 [(.d (.str a0))] [] (.d (.bool r)) []:=by
 refine acalls_ret ⟨_,Tryd.func72,by kernel_rfl,by kernel_rfl,rfl⟩ 0 0 0 [(2,(.d (.bool r)))] [] (doneA (.inr rfl) rfl ⟨trivial,trivial⟩ (.refl _) hasNil) ?_
 unfold f340 at h
 refine .seq (.e [] ?_)
 refine .seq (.e [] ?_)
 refine .j 0 (fun (z:Unit)=>f340_j71 k a0 = some r) (fun z=>[(0,(.d (.str a0)))]) (fun z=>[]) ?_ ?_
 · refine .seq (.e [] ?_)
   obtain ⟨o14,h14,h⟩:=bind_some h
   refine .block (.lp 0 (fun k (x:(Int×Int))=>f340_l14 a0 k x.1 x.2 = some o14) (fun x=>[(0,(.d (.str a0))),(3,(.d (.int .i64 x.1))),(4,(.d (.int .i64 x.2)))]) (fun x=>[]) (_,_) h14 [] [] ?_)
   rintro k ⟨y14_1,y14_2⟩ h14
   dsimp only at h14 ⊢
   rw [f340_l14] at h14
   refine .seq (.seq ?_)
   refine .e [] (.cD h14 (fun h14=>?_) fun h14=>?_)
   · cases h14
     dsimp only at h
     refine .exit (inBlk_eq ?_)
     exact ⟨(),h,inZ⟩
   refine .skip (.seq ?_)
   refine .block (.j 0 (fun z=>f340_j42 (f340_l14 a0 k) k y14_1 y14_2 a0 z = some o14) (fun z=>[(0,(.d (.str a0))),(3,(.d (.int .i64 y14_1))),(4,(.d (.int .i64 y14_2))),(16,.any),(17,.any),(18,.any),(19,.any),(20,(.d (.bool z)))]) (fun z=>[]) ?_ ?_)
   · rcases cc h14 with ⟨c36,h14⟩ | ⟨c36,h14⟩
     · exact .e [.br c36] ⟨_,h14,inZ⟩
     obtain ⟨b39,h14⟩:=gd_some h14
     exact .e [.br c36,.sd b39] ⟨_,h14,inZ⟩
   intro j42_1 h14
   unfold f340_j42 at h14
   refine .cD h14 (fun h14=>?_) fun h14=>?_
   · refine .skip (.e [] ?_)
     exact ⟨(_,_),h14,inZ⟩
   refine .seq (.seq ?_)
   obtain ⟨b50,h14⟩:=gd_some h14
   obtain ⟨r51,e51,h14⟩:=bind_some h14
   refine .e [.sd b50,.call (F339 e51) [] 0] (.cD h14 (fun h14=>?_) fun h14=>?_)
   · refine .skip (.e [] ?_)
     exact .e [] ⟨(_,_),h14,inZ⟩
   refine .seq (.e [] ?_)
   cases h14
   dsimp only at h
   cases h
   exact .ret rz
 rintro ⟨⟩ h
 unfold f340_j71 at h
 refine .seq (.e [] ?_)
 cases h
 exact .ret rz
def f338_j145 (k:Nat) (j125_1:(List UInt8)):Option ((List UInt8)×Bool):=some (j125_1,true)
def f338_j125 (k:Nat) (j125_1:(List UInt8)):Option ((List UInt8)×Bool):=(f257 k j125_1).bind fun r130=>cond (decide (r130 < (0:Int))) ((f341 k j125_1).bind fun r134=>cond (decide (r134≠(0:Int))) (some (([]:List UInt8),false)) (f338_j145 k j125_1)) (f338_j145 k j125_1)
def f338 (k:Nat) (a0:(List UInt8)) (a1:(List UInt8)):Option ((List UInt8)×Bool):=cond (decide (a0 = ([]:List UInt8))) (some (([]:List UInt8),false)) (gd (0≤(0:Int)∧(0:Int) < ((a0.length:Nat):Int)) (cond (decide ((((a0.getD ((0:Int)).toNat 0).toNat:Nat):Int) = (46:Int))) (gd (0≤(1:Int)∧(1:Int)≤((a0.length:Nat):Int)∧((a0.length:Nat):Int)≤((a0.length:Nat):Int)) ((f339 k (sl a0 (1:Int) ((a0.length:Nat):Int))).bind fun r44=>cond (!r44) (some (([]:List UInt8),false)) (f338_j125 k (sl a0 (1:Int) ((a0.length:Nat):Int))))) ((f257 k a0).bind fun r58=>cond (decide (r58 ≥ (0:Int))) ((f340 k a0).bind fun r66=>cond (!r66) (some (([]:List UInt8),false)) (f338_j125 k a0)) ((f339 k a0).bind fun r80=>cond (!r80) (some (([]:List UInt8),false)) (cond (decide (a1≠([]:List UInt8))) (gd (a1.length + ([46]:List UInt8).length≤9223372036854775807) (gd ((a1 ++ ([46]:List UInt8)).length + a0.length≤9223372036854775807) ((f340 k a1).bind fun r109=>cond (!r109) (some (([]:List UInt8),false)) ((f340 k ((a1 ++ ([46]:List UInt8)) ++ a0)).bind fun r113=>cond (!r113) (some (([]:List UInt8),false)) (f338_j125 k ((a1 ++ ([46]:List UInt8)) ++ a0)))))) (f338_j125 k a0))))))
theorem F338 {k:Nat} {a0:(List UInt8)} {a1:(List UInt8)} {r:((List UInt8)×Bool)} (h:f338 k a0 a1 = some r) :
    ACalls Tryd.prog 70 [(.d (.str a0)),(.d (.str a1))] [] (.tup [(.d (.str r.1)),(.d (.bool r.2))]) []:=by
 refine acalls_ret ⟨_,Tryd.func70,by kernel_rfl,by kernel_rfl,rfl⟩ 0 0 0 [(4,(.d (.str r.1))),(5,(.d (.bool r.2)))] [] (doneA (.inr rfl) rfl ⟨trivial,⟨trivial,trivial⟩⟩ (.refl _) hasNil) ?_
 unfold f338 at h
 refine .seq (.e [] ?_)
 refine .seq (.e [] ?_)
 refine .j 0 (fun z=>f338_j125 k z = some r) (fun z=>[(6,(.d (.str z)))]) (fun z=>[]) ?_ ?_
 · refine .block (.seq ?_)
   refine .e [] (.cB h (fun h=>?_) fun h=>?_)
   · refine .seq (.e [] ?_)
     cases h
     exact .ret rz
   refine .seq ?_
   obtain ⟨b30,h⟩:=gd_some h
   refine .e [.sd b30] (.cB h (fun h=>?_) fun h=>?_)
   · refine .seq ?_
     obtain ⟨b38,h⟩:=gd_some h
     refine .e [.sd b38] (.seq ?_)
     obtain ⟨r44,e44,h⟩:=bind_some h
     refine .e [.call (F339 e44) [] 0] (.cD h (fun h=>?_) fun h=>?_)
     · exact .skip ⟨_,h,inZ⟩
     refine .seq (.e [] ?_)
     cases h
     exact .ret rz
   refine .seq ?_
   obtain ⟨r58,e58,h⟩:=bind_some h
   refine .e [.call (F257 e58) [] 0] (.cB h (fun h=>?_) fun h=>?_)
   · refine .seq ?_
     obtain ⟨r66,e66,h⟩:=bind_some h
     refine .e [.call (F340 e66) [] 0] (.cD h (fun h=>?_) fun h=>?_)
     · exact .skip ⟨_,h,inZ⟩
     refine .seq (.e [] ?_)
     cases h
     exact .ret rz
   refine .seq ?_
   obtain ⟨r80,e80,h⟩:=bind_some h
   refine .e [.call (F339 e80) [] 0] (.cB h (fun h=>?_) fun h=>?_)
   · refine .seq (.e [] ?_)
     cases h
     exact .ret rz
   refine .seq (.e [] ?_)
   refine .cD h (fun h=>?_) fun h=>?_
   · exact .skip ⟨_,h,inZ⟩
   refine .seq ?_
   obtain ⟨b101,h⟩:=gd_some h
   obtain ⟨b103,h⟩:=gd_some h
   refine .e [.sd b101,.sd b103] (.seq ?_)
   obtain ⟨r109,e109,h⟩:=bind_some h
   rcases cc h with ⟨c111,h⟩ | ⟨c111,h⟩
   · refine .e [.call (F340 e109) [] 0,.br c111] (.cT rfl ?_)
     refine .seq (.e [] ?_)
     cases h
     exact .ret rz
   obtain ⟨r113,e113,h⟩:=bind_some h
   refine .e [.call (F340 e109) [] 0,.br c111,.call (F340 e113) [] 0] (.cD h (fun h=>?_) fun h=>?_)
   · exact .skip ⟨_,h,inZ⟩
   refine .seq (.e [] ?_)
   cases h
   exact .ret rz
 intro j125_1 h
 unfold f338_j125 at h
 refine .j 0 (fun (z:Unit)=>f338_j145 k j125_1 = some r) (fun z=>[(6,(.d (.str j125_1)))]) (fun z=>[]) ?_ ?_
 · refine .seq ?_
   obtain ⟨r130,e130,h⟩:=bind_some h
   rcases cc h with ⟨c132,h⟩ | ⟨c132,h⟩
   · obtain ⟨r134,e134,h⟩:=bind_some h
     refine .e [.call (F257 e130) [] 0,.br c132,.call (F341 e134) [] 0] (.cD h (fun h=>?_) fun h=>?_)
     · exact .skip ⟨(),h,inZ⟩
     refine .seq (.e [] ?_)
     cases h
     exact .ret rz
   refine .e [.call (F257 e130) [] 0,.br c132] (.cF rfl ?_)
   exact .skip ⟨(),h,inZ⟩
 rintro ⟨⟩ h
 unfold f338_j145 at h
 refine .seq (.e [] ?_)
 cases h
 exact .ret rz
def f364_l10 (a2:Nat) (a0:(List TNode)) (a4:(List UInt8)):Nat→Int→Option (LR2 Unit Unit Int)
  | 0,_=>none
  | k + 1,y10_1=>cond (decide (y10_1 < ((a2:Nat):Int))) (gd (0≤y10_1∧y10_1 < ((a2:Nat):Int)) (gd ((y10_1).toNat < a0.length) (cond (decide ((List.getD a0 (y10_1).toNat default).fName = a4)) (cond (decide (a4≠([]:List UInt8))) (some (.r y10_1)) (f364_l10 a2 a0 a4 k (IntKind.i64.wrap (y10_1 + (1:Int))))) (f364_l10 a2 a0 a4 k (IntKind.i64.wrap (y10_1 + (1:Int))))))) (some (.b0 ()))
def f364 (k:Nat) (a0:(List TNode)) (a1:Nat) (a2:Nat) (a3:Int) (a4:(List UInt8)):Option Int:=(f364_l10 a2 a0 a4 k (0:Int)).bind fun o10=>(match o10 with | .b0 ()=>some (-1:Int) | .r x=>some x | _=>none)
theorem F364 {k:Nat} {a0:(List TNode)} {a1:Nat} {a2:Nat} {a3:Int} {a4:(List UInt8)} {r:Int} (h:f364 k a0 a1 a2 a3 a4 = some r) {vs:List Value} (hvs:vs.length≤a1 * 10) :
    ACalls Tryd.prog 71 [(.ptr 0 0),(.d (.str a4))] [(0,(.cells [(.row 1 10 a2),(.d (.int .i64 a3))])),(1,(.rowQ 3 10 vs [] (cellsD TNode.enc a0)))] (.d (.int .i64 r)) [(0,(.cells [(.row 1 10 a2),(.d (.int .i64 a3))])),(1,(.rowQ 3 10 vs [] (cellsD TNode.enc a0)))]:=by
 refine acalls_ret ⟨_,Tryd.func71,by kernel_rfl,by kernel_rfl,rfl⟩ 2 2 2 [(4,(.d (.int .i64 r)))] [(0,(.cells [(.row 1 10 a2),(.d (.int .i64 a3))])),(1,(.rowQ 3 10 vs [] (cellsD TNode.enc a0)))] (doneA (.inr rfl) rfl ⟨trivial,trivial⟩ (.refl _) (hasCons rfl (hasCons rfl hasNil))) ?_
 unfold f364 at h
 refine .seq (.e [] ?_)
 refine .seq (.seq ?_)
 refine .e [] ?_
 obtain ⟨o10,h10,h⟩:=bind_some h
 refine .block (.lp 2 (fun k (x:Int)=>f364_l10 a2 a0 a4 k x = some o10) (fun x=>[(0,(.ptr 0 0)),(1,(.d (.str a4))),(5,(.d (.int .i64 x)))]) (fun x=>[(0,(.cells [(.row 1 10 a2),(.d (.int .i64 a3))])),(1,(.rowQ 3 10 vs [] (cellsD TNode.enc a0)))]) _ h10 [] [] ?_)
 intro k y10_1 h10
 rw [f364_l10] at h10
 refine .seq (.seq ?_)
 refine .e [.lnR] (.cD h10 (fun h10=>?_) fun h10=>?_)
 · cases h10
   dsimp only at h
   refine .exit (inBlk_eq ?_)
   refine .seq (.e [] ?_)
   cases h
   exact .ret rz
 refine .skip (.seq ?_)
 refine .block (.seq ?_)
 obtain ⟨b36,h10⟩:=gd_some h10
 obtain ⟨b38,h10⟩:=gd_some h10
 rcases cc h10 with ⟨c41,h10⟩ | ⟨c41,h10⟩
 · refine .e [.iaR (n:=a2) (k:=y10_1) b36,.ldC TNode.ok 3 vs [] a0 (i:=(y10_1).toNat) (j:=1) b38 (.str (List.getD a0 (y10_1).toNat default).fName),.br c41] (.cD h10 (fun h10=>?_) fun h10=>?_)
   · refine .skip (.e [] ?_)
     exact ⟨_,h10,inZ⟩
   refine .seq (.e [] ?_)
   cases h10
   dsimp only at h
   cases h
   exact .ret rz
 refine .e [.iaR (n:=a2) (k:=y10_1) b36,.ldC TNode.ok 3 vs [] a0 (i:=(y10_1).toNat) (j:=1) b38 (.str (List.getD a0 (y10_1).toNat default).fName),.br c41] (.cF rfl ?_)
 refine .skip (.e [] ?_)
 exact ⟨_,h10,inZ⟩
def f358_j49 (k:Nat) (a0:(List TNode)) (a1:Nat) (a2:Nat) (a3:Int) (r32:((List UInt8)×Bool)) (j49_1:Bool):Option (Int×Nat×Int×(List TNode)):=cond j49_1 ((f364 k a0 a1 a2 a3 r32.1).bind fun r55=>some (r55,a2,a3,a0)) ((f362 k a0 a1 a2 a3 (9:Int)).bind fun r63=>some ((0:Int),a2,r63,a0))
def f358 (k:Nat) (a0:(List TNode)) (a1:Nat) (a2:Nat) (a3:Int) (a4:(List UInt8)) (a5:(List UInt8)):Option (Int×Nat×Int×(List TNode)):=(f341 k a4).bind fun r9=>cond (decide (r9≠(0:Int))) ((f363 k a0 a1 a2 a3 r9).bind fun r23=>some (r23.1,r23.2.1,r23.2.2.1,r23.2.2.2)) ((f338 k a4 a5).bind fun r32=>cond r32.2 ((f364 k a0 a1 a2 a3 r32.1).bind fun r46=>f358_j49 k a0 a1 a2 a3 r32 (decide (r46 ≥ (0:Int)))) (f358_j49 k a0 a1 a2 a3 r32 false))
theorem F358 {k:Nat} {a0:(List TNode)} {a1:Nat} {a2:Nat} {a3:Int} {a4:(List UInt8)} {a5:(List UInt8)} {r:(Int×Nat×Int×(List TNode))} (h:f358 k a0 a1 a2 a3 a4 a5 = some r) {vs:List Value} (hvs:vs.length≤a1 * 10) :
    ACalls Tryd.prog 48 [(.ptr 0 0),(.d (.str a4)),(.d (.str a5))] [(0,(.cells [(.row 1 10 a2),(.d (.int .i64 a3))])),(1,(.rowQ 3 10 vs [] (cellsD TNode.enc a0)))] (.d (.int .i64 r.1)) [(0,(.cells [(.row 2 10 r.2.1),(.d (.int .i64 r.2.2.1))])),(2,(.rowQ 3 10 vs [] (cellsD TNode.enc r.2.2.2)))]:=by
 refine acalls_ret ⟨_,Tryd.func48,by kernel_rfl,by kernel_rfl,rfl⟩ 2 3 3 [(6,(.d (.int .i64 r.1)))] [(0,(.cells [(.row 2 10 r.2.1),(.d (.int .i64 r.2.2.1))])),(2,(.rowQ 3 10 vs [] (cellsD TNode.enc r.2.2.2)))] (doneA (.inr rfl) rfl ⟨trivial,trivial⟩ (.refl _) (hasCons rfl (hasCons rfl hasNil))) ?_
 unfold f358 at h
 refine .seq (.e [] ?_)
 refine .seq ?_
 obtain ⟨r9,e9,h⟩:=bind_some h
 refine .e [.call (F341 e9) [] 0] (.seq ?_)
 refine .seq (.e [] ?_)
 refine .cB h (fun h=>?_) fun h=>?_
 · refine .seq ?_
   obtain ⟨r23,e23,h⟩:=bind_some h
   refine .e [.call (F363 e23 hvs) [] 3] ?_
   cases h
   exact .ret rz
 refine .skip (.seq ?_)
 obtain ⟨r32,e32,h⟩:=bind_some h
 refine .e [.call (F338 e32) [] 0] (.seq ?_)
 refine .j 2 (fun z=>f358_j49 k a0 a1 a2 a3 r32 z = some r) (fun z=>[(0,(.ptr 0 0)),(8,(.d (.str r32.1))),(29,(.d (.bool z)))]) (fun z=>[(0,(.cells [(.row 1 10 a2),(.d (.int .i64 a3))])),(1,(.rowQ 3 10 vs [] (cellsD TNode.enc a0)))]) ?_ ?_
 · rcases cc h with ⟨c43,h⟩ | ⟨c43,h⟩
   · obtain ⟨r46,e46,h⟩:=bind_some h
     exact .e [.br c43,.cq (F364 e46 hvs) [] 2] ⟨_,h,inZ⟩
   exact .e [.br c43] ⟨_,h,inZ⟩
 intro j49_1 h
 unfold f358_j49 at h
 refine .cB h (fun h=>?_) fun h=>?_
 · refine .seq ?_
   obtain ⟨r55,e55,h⟩:=bind_some h
   refine .e [.cq (F364 e55 hvs) [] 2] ?_
   cases h
   exact .ret (rq [(2,1)] [])
 refine .skip (.seq ?_)
 obtain ⟨r63,e63,h⟩:=bind_some h
 refine .e [.call (F362 e63 hvs) [] 2] (.seq ?_)
 refine .e [] ?_
 cases h
 exact .ret (rq [(2,1)] [])
end Go.Proofs.Abs
