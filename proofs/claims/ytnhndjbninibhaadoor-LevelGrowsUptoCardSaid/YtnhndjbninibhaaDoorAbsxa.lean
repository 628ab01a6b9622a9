import Derived.CallsIn
import Derived.WalkKit
import Derived.Laws.Cells
import Derived.Laws.CopyRow
import Derived.Laws.Strings
import Derived.Laws.Append
import Derived.Laws.AppendOwn
import Derived.Lib.ConvBytes
import Derived.Lib.SlBytesConst
import Derived.Laws.BytesArg
import Derived.IntWalk
import Derived.Laws.Tables
set_option linter.unusedVariables false
set_option linter.unusedSimpArgs false
set_option linter.unusedSectionVars false
section
namespace Go.Proofs.Abs
open Go
def gOnT:Bool:=true
def gF:Nat:=0
def gA:Nat:=1
def gFirst (c:Nat):Nat:=bif Nat.blt c 128 then 240 else bif Nat.blt c 194 then 241 else bif Nat.blt c 224 then 2 else bif Nat.blt c 225 then 19 else bif Nat.blt c 237 then 3 else
  bif Nat.blt c 238 then 35 else bif Nat.blt c 240 then 3 else bif Nat.blt c 241 then 52 else bif Nat.blt c 244 then 4 else bif Nat.blt c 245 then 68 else 241
def gAcc (c:Nat):Nat:=[128,191,160,191,128,159,144,191,128,143].getD c 0
def gT (a:Addr):Option Value:=bif gOnT && a.spot.isNone then
  (bif Nat.beq a.block gF && Nat.blt a.off 256 then some (.int .u8 (gFirst a.off)) else bif Nat.beq a.block gA && Nat.blt a.off 32 then some (.int .u8 (gAcc a.off)) else none) else none
end Go.Proofs.Abs
end
section
namespace Go.Proofs.Abs
open Go

inductive D where
  | int (k:IntKind) (n:Int)
  | bool (b:Bool)
  | str (s:List UInt8)
  | agg (l:List D)
  | sl (l:List D)
  | nilp
  | nilf
  | nili
  | nilm
  | fn (f:FuncId)

def D.isAgg:D→Bool
  | .agg _=>true
  | _=>false
def D.cells:D→List D
  | .agg l=>l
  | d=>[d]
def flat (l:List D):List D:=l.flatMap D.cells

structure Seal where
  cell:Addr→Option Value
  size:Nat→Option Nat
structure Seal.le (S T:Seal):Prop where
  cell:∀ a v,S.cell a = some v→T.cell a = some v
  size:∀ b n,S.size b = some n→T.size b = some n
theorem Seal.le.refl (S:Seal):S.le S:=⟨fun _ _ h=>h,fun _ _ h=>h⟩
theorem Seal.le.trans {S T U:Seal} (h:S.le T) (h':T.le U):S.le U:=⟨fun a v x=>h'.cell a v (h.cell a v x),fun b n x=>h'.size b n (h.size b n x)⟩

inductive DV (S:Seal):D→Value→Prop
  | int {k n}:DV S (.int k n) (.int k n)
  | bool {b}:DV S (.bool b) (.bool b)
  | str {s}:DV S (.str s) (.string ⟨s.toArray⟩)
  | agg {l:List D} {vs:List Value} (hl:l.length = vs.length) (hs:∀ d∈l,d.isAgg = false)
      (h:∀ i (h1:i < l.length) (h2:i < vs.length),DV S l[i] vs[i]):DV S (.agg l) (.agg vs.toArray)
  | nilsl:DV S (.sl []) (.slice none 0 0)
  | emp {a:Addr}:DV S (.sl []) (.slice (some a) 0 0)
  | sl {z:Nat} {l:List D} {b o cap:Nat} (f:Nat→Value) (hz:∀ d∈l,d.cells.length = z) (hg:∀ c∈flat l,c.isAgg = false) (hc:l.length≤cap)
      (hs:∀ m,m < (flat l).length→S.cell ⟨b,o + m,none⟩ = some (f m)) (h:∀ m (hm:m < (flat l).length),DV S (flat l)[m] (f m)) :
      DV S (.sl l) (.slice (some ⟨b,o,none⟩) l.length cap)
  | nilp:DV S .nilp (.pointer none)
  | nilf:DV S .nilf .nilFunc
  | nili:DV S .nili .nilIface
  | nilm:DV S .nilm (.map none)
  | fn {f}:DV S (.fn f) (.func (.func f) #[] #[])

theorem DV.mono {S T:Seal} (hl:S.le T) {x:D} {v:Value} (h:DV S x v):DV T x v:=by
  induction h with
  | int=>exact .int
  | bool=>exact .bool
  | str=>exact .str
  | agg hl hs _ ih=>exact .agg hl hs ih
  | nilsl=>exact .nilsl
  | emp=>exact .emp
  | sl f hz hg hc hs _ ih=>exact .sl f hz hg hc (fun m hm=>hl.cell _ _ (hs m hm)) ih
  | nilp=>exact .nilp
  | nilf=>exact .nilf
  | nili=>exact .nili
  | nilm=>exact .nilm
  | fn=>exact .fn

inductive AV where
  | d (x:D)
  | cp (x:D) (off:Nat)
  | ptr (l off:Nat)
  | sl (l off len cap z:Nat)
  | ap (l z:Nat) (xs:List D)
  | win (xs:List D) (n:Nat)
  | nils
  | agg (l:List AV)
  | tup (l:List AV)
  | fn (f:FuncId) (caps:List AV)
  | mp (l:Nat)
  | lf (l:Nat)
  | dn (xs:List D)
  | row (l z n:Nat)
  | apo (l z:Nat) (xs:List D)
  | lit (v:Value)
  | any

abbrev Emb:=Nat→Option Nat
def Emb.le (i j:Emb):Prop:=∀ l b,i l = some b→j l = some b

inductive V (S:Seal) (i:Emb):AV→Value→Prop
  | d {x v} (h:DV S x v):V S i (.d x) v
  | cp {x:D} {b o off:Nat} (f:Nat→Value) (hg:∀ c∈x.cells,c.isAgg = false) (hs:∀ m,m < x.cells.length→S.cell ⟨b,o + m,none⟩ = some (f m))
      (h:∀ m (hm:m < x.cells.length),DV S x.cells[m] (f m)):V S i (.cp x off) (.pointer (some ⟨b,o + off,none⟩))
  | ptr {l b off} (h:i l = some b):V S i (.ptr l off) (.pointer (some ⟨b,off,none⟩))
  | sl {l b off len cap z} (h:i l = some b):V S i (.sl l off len cap z) (.slice (some ⟨b,off,none⟩) len cap)
  | apn {l z}:V S i (.ap l z []) (.slice none 0 0)
  | ap {l b z cap n} {xs:List D} (h:i l = some b) (hd:DV S (.sl xs) (.slice (some ⟨b,0,none⟩) xs.length cap)) (hz:∀ x∈xs,x.cells.length = z) (hn:S.size b = some n) (hc:cap * z≤n) :
      V S i (.ap l z xs) (.slice (some ⟨b,0,none⟩) xs.length cap)
  | win {xs:List D} {n:Nat} {a:Addr} (h:DV S (.sl xs) (.slice (some a) xs.length xs.length)) (hn:n≤xs.length):V S i (.win xs n) (.slice (some a) n xs.length)
  | nils:V S i .nils (.slice none 0 0)
  | agg {l:List AV} {vs:List Value} (hl:l.length = vs.length) (h:∀ j (h1:j < l.length) (h2:j < vs.length),V S i l[j] vs[j]):V S i (.agg l) (.agg vs.toArray)
  | tup {l:List AV} {vs:List Value} (hl:l.length = vs.length) (h:∀ j (h1:j < l.length) (h2:j < vs.length),V S i l[j] vs[j]):V S i (.tup l) (.tuple vs.toArray)
  | fn {f} {l:List AV} {vs:List Value} (hl:l.length = vs.length) (h:∀ j (h1:j < l.length) (h2:j < vs.length),V S i l[j] vs[j]) :
      V S i (.fn f l) (.func (.func f) #[] vs.toArray)
  | mp {l b} (h:i l = some b):V S i (.mp l) (.map (some b))
  | lf {l b} (h:i l = some b):V S i (.lf l) (.func (.yield b) #[] #[])
  | dn {xs:List D} {a:Addr} {cap:Nat} (h:DV S (.sl xs) (.slice (some a) xs.length cap)):V S i (.dn xs) (.slice (some a) xs.length cap)
  | rown {l z}:V S i (.row l z 0) (.slice none 0 0)
  | row {l b z n cap m} (h:i l = some b) (hn:S.size b = some m) (hc:cap * z≤m) (hl:n≤cap):V S i (.row l z n) (.slice (some ⟨b,0,none⟩) n cap)
  | apo {l b z cap n} {xs:List D} (h:i l = some b) (hd:DV S (.sl xs) (.slice (some ⟨b,0,none⟩) xs.length cap)) (hz:∀ x∈xs,x.cells.length = z) (hn:S.size b = some n) (hc:cap * z≤n) (hl:xs.length + 1≤cap) :
      V S i (.apo l z xs) (.slice (some ⟨b,0,none⟩) (xs.length + 1) cap)
  | lit {v}:V S i (.lit v) v
  | any {v}:V S i .any v

theorem V.mono {S T:Seal} {i j:Emb} (hl:S.le T) (hi:i.le j) {x:AV} {v:Value} (h:V S i x v):V T j x v:=by
  induction h with
  | d h=>exact .d (h.mono hl)
  | cp f hg hs h=>exact .cp f hg (fun m hm=>hl.cell _ _ (hs m hm)) (fun m hm=>(h m hm).mono hl)
  | ptr h=>exact .ptr (hi _ _ h)
  | sl h=>exact .sl (hi _ _ h)
  | apn=>exact .apn
  | ap h hd hz hn hc=>exact .ap (hi _ _ h) (hd.mono hl) hz (hl.size _ _ hn) hc
  | win h hn=>exact .win (h.mono hl) hn
  | nils=>exact .nils
  | agg hl _ ih=>exact .agg hl ih
  | tup hl _ ih=>exact .tup hl ih
  | fn hl _ ih=>exact .fn hl ih
  | mp h=>exact .mp (hi _ _ h)
  | lf h=>exact .lf (hi _ _ h)
  | dn h=>exact .dn (h.mono hl)
  | rown=>exact .rown
  | row h hn hc hl'=>exact .row (hi _ _ h) (hl.size _ _ hn) hc hl'
  | apo h hd hz hn hc hl'=>exact .apo (hi _ _ h) (hd.mono hl) hz (hl.size _ _ hn) hc hl'
  | lit=>exact .lit
  | any=>exact .any

inductive AV.lb (K:Nat→Prop):AV→Prop
  | d {x}:AV.lb K (.d x)
  | cp {x off}:AV.lb K (.cp x off)
  | ptr {l off} (h:K l):AV.lb K (.ptr l off)
  | sl {l off len cap z} (h:K l):AV.lb K (.sl l off len cap z)
  | ap {l z xs} (h:K l):AV.lb K (.ap l z xs)
  | win {xs n}:AV.lb K (.win xs n)
  | nils:AV.lb K .nils
  | agg {l:List AV} (h:∀ x∈l,AV.lb K x):AV.lb K (.agg l)
  | tup {l:List AV} (h:∀ x∈l,AV.lb K x):AV.lb K (.tup l)
  | fn {f} {l:List AV} (h:∀ x∈l,AV.lb K x):AV.lb K (.fn f l)
  | mp {l} (h:K l):AV.lb K (.mp l)
  | lf {l} (h:K l):AV.lb K (.lf l)
  | dn {xs}:AV.lb K (.dn xs)
  | row {l z n} (h:K l):AV.lb K (.row l z n)
  | apo {l z xs} (h:K l):AV.lb K (.apo l z xs)
  | lit {v}:AV.lb K (.lit v)
  | any:AV.lb K .any

abbrev AV.lt (n:Nat) (x:AV):Prop:=x.lb (· < n)

def Emb.cut (i:Emb) (n:Nat):Emb:=fun l=>if l < n then i l else none
theorem Emb.cut_some {i:Emb} {n l b:Nat} (h:i.cut n l = some b):l < n∧i l = some b:=by
  unfold Emb.cut at h; split at h
  · exact ⟨by assumption,h⟩
  · simp at h
theorem Emb.cut_of {i:Emb} {n l:Nat} (h:l < n):i.cut n l = i l:=by simp [Emb.cut,h]
theorem V.relabel {S:Seal} {i j:Emb} {K:Nat→Prop} (hK:∀ l,K l→j l = i l) {x:AV} {v:Value} (h:V S i x v) (hx:x.lb K):V S j x v:=by
  induction h with
  | d h=>exact .d h
  | cp f hg hs h=>exact .cp f hg hs h
  | ptr h=>cases hx with | ptr hx=>exact .ptr (by rw [hK _ hx]; exact h)
  | sl h=>cases hx with | sl hx=>exact .sl (by rw [hK _ hx]; exact h)
  | apn=>exact .apn
  | ap h hd hz hn hc=>cases hx with | ap hx=>exact .ap (by rw [hK _ hx]; exact h) hd hz hn hc
  | win h hn=>exact .win h hn
  | nils=>exact .nils
  | agg hl _ ih=>cases hx with | agg hx=>exact .agg hl fun j h1 h2=>ih j h1 h2 (hx _ (List.getElem_mem h1))
  | tup hl _ ih=>cases hx with | tup hx=>exact .tup hl fun j h1 h2=>ih j h1 h2 (hx _ (List.getElem_mem h1))
  | fn hl _ ih=>cases hx with | fn hx=>exact .fn hl fun j h1 h2=>ih j h1 h2 (hx _ (List.getElem_mem h1))
  | mp h=>cases hx with | mp hx=>exact .mp (by rw [hK _ hx]; exact h)
  | lf h=>cases hx with | lf hx=>exact .lf (by rw [hK _ hx]; exact h)
  | dn h=>exact .dn h
  | rown=>exact .rown
  | row h hn hc hl=>cases hx with | row hx=>exact .row (by rw [hK _ hx]; exact h) hn hc hl
  | apo h hd hz hn hc hl=>cases hx with | apo hx=>exact .apo (by rw [hK _ hx]; exact h) hd hz hn hc hl
  | lit=>exact .lit
  | any=>exact .any
theorem V.cut {S:Seal} {i:Emb} {n:Nat} {x:AV} {v:Value} (h:V S i x v) (hx:x.lt n):V S (i.cut n) x v :=
  h.relabel (fun _ hl=>Emb.cut_of hl) hx

inductive AObj where
  | cells (l:List AV)
  | tok (n:Nat)
  | rowD (ds:List D)
  | rowP (ds:List D)
  | row (l:List AV)
  | rowQ (f z:Nat) (vs:List Value) (sp:List (Nat×AV)) (ds:List D)
  | tokv (n:Nat) (ds:List D)
  | mp (es:List (D×D))
  | mpb (es:List (D×D×Nat)) (k:Nat)
  | lp (N:Nat) (sl:List (Nat×AV)) (ps:List Nat) (asg bd:Code) (st:LoopState) (pend:Option Code)
def AObj.nil0:AObj→Prop
  | .tok n=>n = 0
  | .rowP ds=>ds = []
  | .row l=>l = []
  | .rowQ _ _ vs sp ds=>vs = []∧sp = []∧ds = []
  | _=>False
def AObj.lb (K:Nat→Prop):AObj→Prop
  | .cells l=>∀ x∈l,AV.lb K x
  | .tok _=>True
  | .rowD _=>True
  | .rowP _=>True
  | .row l=>∀ x∈l,AV.lb K x
  | .rowQ _ _ _ sp _=>∀ x∈sp,AV.lb K x.2
  | .tokv _ _=>True
  | .mp _=>True
  | .mpb _ _=>True
  | .lp _ sl _ _ _ _ _=>∀ x∈sl,AV.lb K x.2
abbrev AObj.lt (n:Nat) (o:AObj):Prop:=o.lb (· < n)

def ObjRel (S:Seal) (i:Emb) (w:World) (b:Nat):AObj→Prop
  | .cells l=>∃ c e,w.heap[b]? = some (.cells c e (0,0))∧c.size = l.length∧(∀ j (h:j < l.length) (h':j < c.size),V S i l[j] c[j])∧∀ a:Addr,a.block = b→S.cell a = none
  | .tok n=>∃ c e,w.heap[b]? = some (.cells c e (0,0))∧∀ a:Addr,a.block = b→n≤a.off→S.cell a = none
  | .rowD ds=>∃ c e,w.heap[b]? = some (.cells c e (0,0))∧c.size = (ds.map AV.d).length∧(∀ j (h:j < (ds.map AV.d).length) (h':j < c.size),V S i (ds.map AV.d)[j] c[j])∧∀ a:Addr,a.block = b→S.cell a = none
  | .rowP ds=>∃ c e,w.heap[b]? = some (.cells c e (0,0))∧ds.length≤c.size∧(∀ j (h:j < ds.length) (h':j < c.size),DV S ds[j] c[j])∧∀ a:Addr,a.block = b→S.cell a = none
  | .row l=>∃ c e,w.heap[b]? = some (.cells c e (0,0))∧l.length≤c.size∧(∀ j (h:j < l.length) (h':j < c.size),V S i l[j] c[j])∧∀ a:Addr,a.block = b→S.cell a = none
  | .rowQ f z vs sp ds=>∃ c e,w.heap[b]? = some (.cells c e (0,0))∧ds.length≤c.size∧(∀ j (h:j < ds.length) (h':j < c.size),DV S ds[j] c[j])∧(∀ j (h:j < vs.length),c[j]? = some vs[j])∧(∀ x∈sp,V S i x.2 (c.getD x.1 undef))∧(∀ j (h:j < ds.length) (h':j < c.size),j % z = f→ds[j] = .sl []→c[j] = .slice none 0 0)∧∀ a:Addr,a.block = b→S.cell a = none
  | .tokv n ds=>∃ c e,w.heap[b]? = some (.cells c e (0,0))∧n + ds.length≤c.size∧(∀ j (h:j < ds.length) (h':n + j < c.size),DV S ds[j] c[n + j])∧∀ a:Addr,a.block = b→n≤a.off→S.cell a = none
  | .mp es=>∃ c k,w.heap[b]? = some (.map c k)∧c.size = es.length∧(∀ j (h:j < es.length) (h':j < c.size),DV S es[j].1 c[j].key∧DV S es[j].2 c[j].val)∧∀ a:Addr,a.block = b→S.cell a = none
  | .mpb es k=>∃ c,w.heap[b]? = some (.map c k)∧c.size = es.length∧(∀ j (h:j < es.length) (h':j < c.size),DV S es[j].1 c[j].key∧DV S es[j].2.1 c[j].val∧c[j].born = es[j].2.2)∧∀ a:Addr,a.block = b→S.cell a = none
  | .lp N sl ps asg bd st pend=>∃ r:Loop,w.heap[b]? = some (.loop r)∧r.tmps.size = N∧r.params.toList = ps∧r.assign = asg∧r.body = bd∧r.state = st∧r.pending = pend∧(∀ x∈sl,V S i x.2 (r.tmps.getD x.1 undef))∧∀ a:Addr,a.block = b→S.cell a = none

abbrev AHeap:=List (Nat×AObj)
def AHeap.keys (H:AHeap):List Nat:=H.map (·.1)
def blk (i:Emb) (H:AHeap) (b:Nat):Prop:=∃ l o,(l,o)∈H∧i l = some b

structure HeapRel (S:Seal) (i:Emb) (H:AHeap) (w:World):Prop where
  cell:∀ a v,S.cell a = some v→w.cell? a = some v
  size:∀ b n,S.size b = some n→∃ c e f,w.heap[b]? = some (.cells c e f)∧c.size = n
  obj:∀ l o,(l,o)∈H→(∃ b,i l = some b∧ObjRel S i w b o)∨(i l = none∧o.nil0)
  inj:∀ l o l' o' b,(l,o)∈H→(l',o')∈H→i l = some b→i l' = some b→l = l'
  dom:∀ l b,i l = some b→b < w.heap.size
  gr:∀ a v,gT a = some v→S.cell a = some v

structure Tr (S:Seal) (i:Emb) (H:AHeap) (w:World) (S':Seal) (i':Emb) (H':AHeap) (w':World):Prop where
  up:S.le S'
  grow:w.heap.size≤w'.heap.size
  old:∀ b,b < w.heap.size→¬ blk i H b→w'.heap[b]? = w.heap[b]?
  newSeal:∀ a v,S'.cell a = some v→S.cell a = some v∨blk i H a.block∨w.heap.size≤a.block
  newEmb:∀ l b,i' l = some b→i l = some b∨blk i H b∨w.heap.size≤b
  sub:∀ b,blk i' H' b→blk i H b∨w.heap.size≤b
  os:w'.os = w.os
  out:w'.output = w.output
  tape:w'.tape = w.tape

theorem Tr.refl (S:Seal) (i:Emb) (H:AHeap) (w:World):Tr S i H w S i H w :=
  ⟨.refl S,Nat.le_refl _,fun _ _ _=>rfl,fun _ _ h=>.inl h,fun _ _ h=>.inl h,fun _ h=>.inl h,rfl,rfl,rfl⟩

theorem Tr.trans {S S' S'':Seal} {i i' i'':Emb} {H H' H'':AHeap} {w w' w'':World} (h:Tr S i H w S' i' H' w') (g:Tr S' i' H' w' S'' i'' H'' w'') :
    Tr S i H w S'' i'' H'' w'' where
  up:=h.up.trans g.up
  grow:=Nat.le_trans h.grow g.grow
  old:=fun b hb hn=>by
    rw [g.old b (Nat.lt_of_lt_of_le hb h.grow) (fun hx=>?_),h.old b hb hn]
    rcases h.sub b hx with hx | hx
    · exact hn hx
    · omega
  newSeal:=fun a v hv=>by
    rcases g.newSeal a v hv with hv | hv | hv
    · exact h.newSeal a v hv
    · rcases h.sub _ hv with hv | hv
      · exact .inr (.inl hv)
      · exact .inr (.inr hv)
    · exact .inr (.inr (Nat.le_trans h.grow hv))
  newEmb:=fun l b hb=>by
    rcases g.newEmb l b hb with hb | hb | hb
    · exact h.newEmb l b hb
    · exact .inr (h.sub b hb)
    · exact .inr (.inr (Nat.le_trans h.grow hb))
  sub:=fun b hb=>by
    rcases g.sub b hb with hb | hb
    · exact h.sub b hb
    · exact .inr (Nat.le_trans h.grow hb)
  os:=g.os.trans h.os
  out:=g.out.trans h.out
  tape:=g.tape.trans h.tape

theorem blk_append {i:Emb} {H F:AHeap} {b:Nat}:blk i (H ++ F) b↔blk i H b∨blk i F b:=by
  unfold blk
  constructor
  · rintro ⟨l,o,hm,hi⟩
    rcases List.mem_append.1 hm with hm | hm
    · exact .inl ⟨l,o,hm,hi⟩
    · exact .inr ⟨l,o,hm,hi⟩
  · rintro (⟨l,o,hm,hi⟩ | ⟨l,o,hm,hi⟩)
    · exact ⟨l,o,List.mem_append.2 (.inl hm),hi⟩
    · exact ⟨l,o,List.mem_append.2 (.inr hm),hi⟩

theorem ObjRel.later {S T:Seal} {i j:Emb} {w w':World} {b:Nat} {o:AObj} (h:ObjRel S i w b o) (hl:S.le T) (hi:i.le j) (hw:w'.heap[b]? = w.heap[b]?)
    (hn:∀ a v,T.cell a = some v→a.block = b→S.cell a = some v):ObjRel T j w' b o:=by
  have key:(∀ a:Addr,a.block = b→S.cell a = none)→∀ a:Addr,a.block = b→T.cell a = none:=fun hf a ha=>by
    cases hx:T.cell a with
    | none=>rfl
    | some v=>have:=hn a v hx ha; rw [hf a ha] at this; simp at this
  cases o with
  | cells l =>
    obtain ⟨c,e,hc,hs,hv,hf⟩:=h
    refine ⟨c,e,hw.trans hc,hs,fun j h1 h2=>(hv j h1 h2).mono hl hi,fun a ha=>?_⟩
    cases hx:T.cell a with
    | none=>rfl
    | some v=>have:=hn a v hx ha; rw [hf a ha] at this; simp at this
  | rowD ds=>obtain ⟨c,e,hc,hs,hv,hf⟩:=h; exact ⟨c,e,hw.trans hc,hs,fun j h1 h2=>(hv j h1 h2).mono hl hi,key hf⟩
  | rowP ds=>obtain ⟨c,e,hc,hs,hv,hf⟩:=h; exact ⟨c,e,hw.trans hc,hs,fun j h1 h2=>(hv j h1 h2).mono hl,key hf⟩
  | tok n =>
    obtain ⟨c,e,hc,hf⟩:=h
    refine ⟨c,e,hw.trans hc,fun a ha ho=>?_⟩
    cases hx:T.cell a with
    | none=>rfl
    | some v=>have:=hn a v hx ha; rw [hf a ha ho] at this; simp at this
  | row l =>
    obtain ⟨c,e,hc,hs,hv,hf⟩:=h
    exact ⟨c,e,hw.trans hc,hs,fun j h1 h2=>(hv j h1 h2).mono hl hi,key hf⟩
  | rowQ f z vs sp ds =>
    obtain ⟨c,e,hc,hs,hv,hq,hsp,hn0,hf⟩:=h
    exact ⟨c,e,hw.trans hc,hs,fun j h1 h2=>(hv j h1 h2).mono hl,hq,fun x hx=>(hsp x hx).mono hl hi,hn0,key hf⟩
  | tokv n ds =>
    obtain ⟨c,e,hc,hs,hv,hf⟩:=h
    refine ⟨c,e,hw.trans hc,hs,fun j h1 h2=>(hv j h1 h2).mono hl,fun a ha ho=>?_⟩
    cases hx:T.cell a with
    | none=>rfl
    | some v=>have:=hn a v hx ha; rw [hf a ha ho] at this; simp at this
  | mp es =>
    obtain ⟨c,k,hc,hs,hv,hf⟩:=h
    exact ⟨c,k,hw.trans hc,hs,fun j h1 h2=>⟨(hv j h1 h2).1.mono hl,(hv j h1 h2).2.mono hl⟩,key hf⟩
  | mpb es k =>
    obtain ⟨c,hc,hs,hv,hf⟩:=h
    exact ⟨c,hw.trans hc,hs,fun j h1 h2=>⟨(hv j h1 h2).1.mono hl,(hv j h1 h2).2.1.mono hl,(hv j h1 h2).2.2⟩,key hf⟩
  | lp N sl ps asg bd st pend =>
    obtain ⟨r,hr,h1,h2,h3,h4,h5,h6,hv,hf⟩:=h
    exact ⟨r,hw.trans hr,h1,h2,h3,h4,h5,h6,fun x hx=>(hv x hx).mono hl hi,key hf⟩

theorem ObjRel.relabel {S:Seal} {i j:Emb} {w:World} {b:Nat} {K:Nat→Prop} (hK:∀ l,K l→j l = i l) {o:AObj} (h:ObjRel S i w b o) (ho:o.lb K):ObjRel S j w b o:=by
  cases o with
  | cells l=>obtain ⟨c,e,hc,hs,hv,hf⟩:=h; exact ⟨c,e,hc,hs,fun m h1 h2=>(hv m h1 h2).relabel hK (ho _ (List.getElem_mem h1)),hf⟩
  | tok n=>exact h
  | rowP ds=>exact h
  | rowD ds=>obtain ⟨c,e,hc,hs,hv,hf⟩:=h; exact ⟨c,e,hc,hs,fun m h1 h2=>(hv m h1 h2).relabel hK (by rw [List.getElem_map]; exact .d),hf⟩
  | row l=>obtain ⟨c,e,hc,hs,hv,hf⟩:=h; exact ⟨c,e,hc,hs,fun m h1 h2=>(hv m h1 h2).relabel hK (ho _ (List.getElem_mem h1)),hf⟩
  | rowQ f z vs sp ds=>obtain ⟨c,e,hc,hs,hv,hq,hsp,hn0,hf⟩:=h; exact ⟨c,e,hc,hs,hv,hq,fun x hx=>(hsp x hx).relabel hK (ho _ hx),hn0,hf⟩
  | tokv n ds=>exact h
  | mp es=>exact h
  | mpb es k=>exact h
  | lp N sl ps asg bd st pend =>
    obtain ⟨r,hr,h1,h2,h3,h4,h5,h6,hv,hf⟩:=h
    exact ⟨r,hr,h1,h2,h3,h4,h5,h6,fun x hx=>(hv x hx).relabel hK (ho _ hx),hf⟩
theorem ObjRel.notDef {S:Seal} {i:Emb} {w:World} {b:Nat} {o:AObj} (h:ObjRel S i w b o) (ds:Option (List Deferred)):w.heap[b]?≠some (.deferred ds):=by
  cases o with
  | cells l=>obtain ⟨c,e,hc,_⟩:=h; rw [hc]; simp
  | tokv n ds=>obtain ⟨c,e,hc,_⟩:=h; rw [hc]; simp
  | tok n=>obtain ⟨c,e,hc,_⟩:=h; rw [hc]; simp
  | rowD ds=>obtain ⟨c,e,hc,_⟩:=h; rw [hc]; simp
  | rowP ds=>obtain ⟨c,e,hc,_⟩:=h; rw [hc]; simp
  | row l=>obtain ⟨c,e,hc,_⟩:=h; rw [hc]; simp
  | rowQ f z vs sp ds=>obtain ⟨c,e,hc,_⟩:=h; rw [hc]; simp
  | mp es=>obtain ⟨c,e,hc,_⟩:=h; rw [hc]; simp
  | mpb es k=>obtain ⟨c,hc,_⟩:=h; rw [hc]; simp
  | lp N sl ps asg bd st pend=>obtain ⟨r,hr,_⟩:=h; rw [hr]; simp

theorem HeapRel.frame {S S':Seal} {i i':Emb} {H H' F:AHeap} {w w':World} (h:HeapRel S i (H ++ F) w) (hd:∀ l∈H.keys,l ∉ F.keys)
    (h':HeapRel S' i' H' w') (hi:i.le i') (hnew:∀ l b,i' l = some b→i l = some b∨(l∈H'.keys∧l ∉ H.keys)) (hd':∀ l∈H'.keys,l ∉ F.keys) (t:Tr S i H w S' i' H' w') :
    HeapRel S' i' (H' ++ F) w':=by
  have hF:∀ l o b,(l,o)∈F→i l = some b→¬ blk i H b∧b < w.heap.size:=by
    intro l o b hm hb
    refine ⟨?_,h.dom l b hb⟩
    rintro ⟨l',o',hm',hl'⟩
    have:=h.inj l o l' o' b (List.mem_append.2 (.inr hm)) (List.mem_append.2 (.inl hm')) hb hl'
    subst this
    exact hd l (List.mem_map.2 ⟨_,hm',rfl⟩) (List.mem_map.2 ⟨_,hm,rfl⟩)
  have hFi:∀ l o b,(l,o)∈F→i' l = some b→i l = some b:=by
    intro l o b hm hb
    rcases hnew l b hb with hb | hb
    · exact hb
    · exact absurd (List.mem_map.2 ⟨_,hm,rfl⟩) (hd' l hb.1)
  refine ⟨h'.cell,h'.size,fun l o hm=>?_,?_,h'.dom,h'.gr⟩
  · rcases List.mem_append.1 hm with hm | hm
    · exact h'.obj l o hm
    · rcases h.obj l o (List.mem_append.2 (.inr hm)) with ⟨b,hb,hr⟩ | ⟨hn,ho⟩
      · obtain ⟨hnb,hlt⟩:=hF l o b hm hb
        refine .inl ⟨b,hi _ _ hb,hr.later t.up hi (t.old b hlt hnb) fun a v hv ha=>?_⟩
        rcases t.newSeal a v hv with hv | hv | hv
        · exact hv
        · exact absurd (ha ▸ hv) hnb
        · omega
      · refine .inr ⟨?_,ho⟩
        cases hx:i' l with
        | none=>rfl
        | some b=>rw [hFi l o b hm hx] at hn; cases hn
  · intro l o l' o' b hm hm' hb hb'
    rcases List.mem_append.1 hm with hm | hm <;> rcases List.mem_append.1 hm' with hm' | hm'
    · exact h'.inj l o l' o' b hm hm' hb hb'
    · obtain ⟨hnb,hlt⟩:=hF l' o' b hm' (hFi _ _ _ hm' hb')
      rcases t.sub b ⟨l,o,hm,hb⟩ with hx | hx
      · exact absurd hx hnb
      · omega
    · obtain ⟨hnb,hlt⟩:=hF l o b hm (hFi _ _ _ hm hb)
      rcases t.sub b ⟨l',o',hm',hb'⟩ with hx | hx
      · exact absurd hx hnb
      · omega
    · exact h.inj l o l' o' b (List.mem_append.2 (.inr hm)) (List.mem_append.2 (.inr hm')) (hFi _ _ _ hm hb) (hFi _ _ _ hm' hb')
theorem Tr.frame {S S':Seal} {i i':Emb} {H H' F:AHeap} {w w':World} (t:Tr S i H w S' i' H' w') (hF:∀ l o b,(l,o)∈F→i' l = some b→i l = some b) :
    Tr S i (H ++ F) w S' i' (H' ++ F) w' where
  up:=t.up
  grow:=t.grow
  old:=fun b hb hn=>t.old b hb fun hx=>hn (blk_append.2 (.inl hx))
  newSeal:=fun a v hv=>by
    rcases t.newSeal a v hv with hv | hv | hv
    · exact .inl hv
    · exact .inr (.inl (blk_append.2 (.inl hv)))
    · exact .inr (.inr hv)
  newEmb:=fun l b hb=>(t.newEmb l b hb).imp id (Or.imp (fun h=>blk_append.2 (.inl h)) id)
  sub:=fun b hb=>by
    rcases blk_append.1 hb with hb | ⟨l,o,hm,hb⟩
    · rcases t.sub b hb with hb | hb
      · exact .inl (blk_append.2 (.inl hb))
      · exact .inr hb
    · exact .inl (blk_append.2 (.inr ⟨l,o,hm,hF l o b hm hb⟩))
  os:=t.os
  out:=t.out
  tape:=t.tape

theorem HeapRel.perm {S:Seal} {i:Emb} {H G:AHeap} {w:World} (h:HeapRel S i H w) (hm:∀ x,x∈G→x∈H):HeapRel S i G w :=
  ⟨h.cell,h.size,fun l o x=>h.obj l o (hm _ x),fun l o l' o' b x y=>h.inj l o l' o' b (hm _ x) (hm _ y),h.dom,h.gr⟩
theorem blk_mono {i:Emb} {H G:AHeap} (hm:∀ x,x∈G→x∈H) {b:Nat} (h:blk i G b):blk i H b:=by
  obtain ⟨l,o,x,y⟩:=h; exact ⟨l,o,hm _ x,y⟩
theorem Tr.perm {S S':Seal} {i i':Emb} {H H' G G':AHeap} {w w':World} (t:Tr S i H w S' i' H' w') (hm:∀ x,x∈H→x∈G) (hm':∀ x,x∈G'→x∈H') :
    Tr S i G w S' i' G' w' where
  up:=t.up
  grow:=t.grow
  old:=fun b hb hn=>t.old b hb fun hx=>hn (blk_mono hm hx)
  newSeal:=fun a v hv=>by
    rcases t.newSeal a v hv with hv | hv | hv
    · exact .inl hv
    · exact .inr (.inl (blk_mono hm hv))
    · exact .inr (.inr hv)
  newEmb:=fun l b hb=>(t.newEmb l b hb).imp id (Or.imp (blk_mono hm) id)
  sub:=fun b hb=>(t.sub b (blk_mono hm' hb)).imp (blk_mono hm) id
  os:=t.os
  out:=t.out
  tape:=t.tape
end Go.Proofs.Abs
end
section
namespace Go.Proofs.Abs
open Go

def fen (ro:Option Nat):Fence:={ fn:=fun _=>True,depth:=none,alive:=false,round:=ro }
def Ends (P:Program) (K:Value→World→Prop):Result Next→Prop
  | .ok (.value v) w=>K v w
  | .ok .skip w=>K undef w
  | .ok (.enter f args) w=>Calls P f args w fun e w'=>∃ v,e = .returned v∧K v w'
  | .ok (.round l f tmps assign body) w=>RoundIn Fence.wide 0 P l f tmps assign body w fun e w'=>∃ v,e = .returned v∧K v w'
  | _=>False

theorem uponIn_of_ends {P:Program} {ro:Option Nat} {o:Oper} {a:Act} {next:Act→World→Prop} {Q:Exit→Act→World→Prop} {K:Value→World→Prop} {r:Result Next}
    (h:Ends P K r) (hk:∀ v w',K v w'→next (a.put o.dst v) w'):o.uponIn (fen ro) 0 P a next Q r:=by
  unfold Ends at h
  split at h
  · exact hk _ _ h
  · exact hk _ _ h
  · refine ⟨fun h=>by simp [fen] at h,?_⟩
    have h':=(callsIn_wide (n:=0)).2 h
    exact CallsIn.mono h' fun e w' ⟨v,he,hv⟩=>by subst he; exact hk _ _ hv
  · refine ⟨fun h=>by simp [fen] at h,?_⟩
    exact RoundIn.mono h fun e w' ⟨v,he,hv⟩=>by subst he; exact hk _ _ hv
  · exact h.elim

theorem Ends.mono {P:Program} {K K':Value→World→Prop} {r:Result Next} (h:Ends P K r) (hk:∀ v w,K v w→K' v w):Ends P K' r:=by
  unfold Ends at *
  split at h
  · exact hk _ _ h
  · exact hk _ _ h
  · exact Calls.mono h fun e w' ⟨v,he,hv⟩=>⟨v,he,hk _ _ hv⟩
  · exact RoundIn.mono h fun e w' ⟨v,he,hv⟩=>⟨v,he,hk _ _ hv⟩
  · exact h.elim

def lk:List (Nat×AV)→Nat→Option AV
  | [],_=>none
  | (k,v) :: r,t=>bif Nat.beq k t then some v else lk r t

def constD:Value→Option D
  | .int k n=>some (.int k n)
  | .bool b=>some (.bool b)
  | .string s=>some (.str s.data.toList)
  | .pointer none=>some .nilp
  | .slice none 0 0=>some (.sl [])
  | .nilFunc=>some .nilf
  | .nilIface=>some .nili
  | .map none=>some .nilm
  | _=>none
def constDs:List Value→Option (List D)
  | []=>some []
  | v :: r=>match constD v,constDs r with
    | some d,some l=>some (d :: l)
    | _,_=>none
def constAV:Value→Option AV
  | .slice none 0 0=>some .nils
  | .agg vs=>match constDs vs.toList with
    | some l=>some (.d (.agg l))
    | none=>none
  | v=>match constD v with
    | some d=>some (.d d)
    | none=>none

theorem constD_ok {S:Seal} {v:Value} {x:D} (h:constD v = some x):DV S x v∧x.isAgg = false:=by
  unfold constD at h
  split at h <;> cases h
  · exact ⟨.int,rfl⟩
  · exact ⟨.bool,rfl⟩
  · rename_i s
    refine ⟨?_,rfl⟩
    have:(⟨s.data.toList.toArray⟩:ByteArray) = s:=by cases s; simp
    conv=>arg 3; rw [←this]
    exact .str
  · exact ⟨.nilp,rfl⟩
  · exact ⟨.nilsl,rfl⟩
  · exact ⟨.nilf,rfl⟩
  · exact ⟨.nili,rfl⟩
  · exact ⟨.nilm,rfl⟩

theorem constDs_ok {S:Seal}:∀ {vs:List Value} {l:List D},constDs vs = some l →
    l.length = vs.length∧(∀ d∈l,d.isAgg = false)∧∀ i (h1:i < l.length) (h2:i < vs.length),DV S l[i] vs[i]
  | [],l,h=>by cases h; simp
  | v :: r,l,h=>by
    simp only [constDs] at h
    split at h
    · rename_i d l' hd hl
      cases h
      obtain ⟨a,b,c⟩:=constDs_ok (S:=S) hl
      obtain ⟨x,y⟩:=constD_ok (S:=S) hd
      refine ⟨by simp [a],by simpa using ⟨y,b⟩,fun i h1 h2=>?_⟩
      cases i with
      | zero=>exact x
      | succ i=>exact c i (by simpa using h1) (by simpa using h2)
    · cases h

theorem constAV_ok {S:Seal} {i:Emb} {v:Value} {x:AV} (h:constAV v = some x):V S i x v:=by
  unfold constAV at h
  split at h
  · cases h; exact .nils
  · rename_i vs
    split at h
    · rename_i l hl
      cases h
      obtain ⟨a,b,c⟩:=constDs_ok (S:=S) hl
      have:=DV.agg a b c
      simp only [Array.toArray_toList] at this
      exact .d this
    · cases h
  · split at h
    · rename_i hd
      cases h
      exact .d (constD_ok hd).1
    · cases h

def evL (l:List (Nat×AV)):Operand→Option AV
  | .tmp t=>lk l t
  | .const v=>constAV v
  | .func f=>some (.d (.fn f))
  | .global _=>none

def Post (S:Seal) (i:Emb) (H:AHeap) (w:World) (r:AV) (H':AHeap) (v:Value) (w':World):Prop :=
  ∃ S' i',V S' i' r v∧HeapRel S' i' H' w'∧i.le i'∧Tr S i H w S' i' H' w'∧∀ l b,i' l = some b→i l = some b∨(l∈H'.keys∧l ∉ H.keys)

def OpT (P:Program) (ev:Operand→Option AV) (o:Oper) (H:AHeap) (r:AV) (H':AHeap):Prop :=
  (∀ c,o.op≠.defer c)∧∀ S i w ρ,(∀ x a,ev x = some a→V S i a (ρ x))→HeapRel S i H w→(∀ l∈H'.keys,l ∉ H.keys→i l = none) →
    Ends P (Post S i H w r H') ((execOp ρ o).run P w)

def ACalls (P:Program) (f:FuncId) (args:List AV) (H:AHeap) (r:AV) (H':AHeap):Prop :=
  (∃ fn,P.funcs[f]? = some fn∧(fn.name == "runtime.NumGoroutine") = false∧fn.body.isSome = true)∧∀ S i w (vs:List Value),args.length = vs.length→(∀ j (h1:j < args.length) (h2:j < vs.length),V S i args[j] vs[j])→HeapRel S i H w →
    (∀ l∈H'.keys,l ∉ H.keys→i l = none) →
    Calls P f vs.toArray w fun e w'=>∃ v,e = .returned v∧Post S i H w r H' v w'

structure AAct where
  n:Nat
  l:List (Nat×AV)
def AAct.put (a:AAct) (dst:Option Nat) (x:AV):AAct :=
  match dst with
  | some t=>{ a with l:=(t,x) :: a.l }
  | none=>a

structure ActRel (S:Seal) (i:Emb) (a:AAct) (c:Act):Prop where
  size:c.tmps.size = a.n
  get:∀ t x,lk a.l t = some x→V S i x (c.tmps.getD t undef)

theorem ActRel.mono {S T:Seal} {i j:Emb} {a:AAct} {c:Act} (h:ActRel S i a c) (hl:S.le T) (hi:i.le j):ActRel T j a c :=
  ⟨h.size,fun t x hx=>(h.get t x hx).mono hl hi⟩

theorem ActRel.put {S:Seal} {i:Emb} {a:AAct} {c:Act} (h:ActRel S i a c) {dst:Option Nat} {x:AV} {v:Value} (hv:V S i x v)
    (hd:∀ t,dst = some t→t < a.n):ActRel S i (a.put dst x) (c.put dst v):=by
  cases dst with
  | none=>exact h
  | some t =>
    refine ⟨by simpa [Act.put,AAct.put] using h.size,fun u y hy=>?_⟩
    simp only [AAct.put,lk] at hy
    have hlt:=hd t rfl
    by_cases hut:t = u
    · subst hut
      simp at hy
      subst hy
      have:t < c.tmps.size:=by rw [h.size]; exact hlt
      simpa [Act.put,this] using hv
    · have:Nat.beq t u = false:=by
        cases hb:Nat.beq t u with
        | false=>rfl
        | true=>exact absurd (Nat.eq_of_beq_eq_true hb) hut
      simp only [this,cond_false] at hy
      have:=h.get u y hy
      simpa [Act.put,Array.getElem?_setIfInBounds_ne hut] using this

theorem ActRel.eval {S:Seal} {i:Emb} {a:AAct} {c:Act} (h:ActRel S i a c) {o:Operand} {x:AV} (hx:evL a.l o = some x):V S i x (c.eval o):=by
  cases o with
  | tmp t=>exact h.get t x hx
  | const v=>exact constAV_ok hx
  | func f=>cases hx; exact .d .fn
  | global g=>cases hx

def markOf (D:Nat):Deferred:={ target:=.collected D,args:=#[] }
def Marks (w w':World) (d d':List Deferred):Prop:=∃ bs:List Nat,bs.Nodup∧d' = bs.map markOf ++ d∧∀ D∈bs,w.heap.size≤D∧w'.heap[D]? = some (.deferred (some []))
theorem Marks.of_eq {w w':World} {d d':List Deferred} (h:d' = d):Marks w w' d d':=⟨[],.nil,by simpa using h,fun D hD=>by cases hD⟩
theorem Marks.refl (w w':World) (d:List Deferred):Marks w w' d d:=.of_eq rfl
theorem Marks.trans {S S' S'':Seal} {i i' i'':Emb} {H H' H'':AHeap} {w w' w'':World} {d d' d'':List Deferred} (h:Marks w w' d d') (hh:HeapRel S' i' H' w') (t:Tr S i H w S' i' H' w')
    (t':Tr S' i' H' w' S'' i'' H'' w'') (g:Marks w' w'' d' d''):Marks w w'' d d'':=by
  obtain ⟨bs,nb,rfl,hb⟩:=h
  obtain ⟨cs,nc,rfl,hc⟩:=g
  refine ⟨cs ++ bs,List.nodup_append.2 ⟨nc,nb,?_⟩,by simp,fun D hD=>?_⟩
  · rintro x hx y hy rfl
    have h1:=(hc x hx).1
    have h2:x < w'.heap.size:=(Array.getElem?_eq_some_iff.1 (hb x hy).2).1
    omega
  rcases List.mem_append.1 hD with hD | hD
  · exact ⟨Nat.le_trans t.grow (hc D hD).1,(hc D hD).2⟩
  · obtain ⟨h1,h2⟩:=hb D hD
    have hlt:D < w'.heap.size:=(Array.getElem?_eq_some_iff.1 h2).1
    refine ⟨h1,(t'.old D hlt ?_).trans h2⟩
    rintro ⟨l,o,hm,hi⟩
    rcases hh.obj l o hm with ⟨b,hb',hr⟩ | ⟨hn,_⟩
    · rw [hi] at hb'; cases hb'
      exact hr.notDef _ h2
    · rw [hi] at hn; cases hn

def AW (P:Program) (ro:Option Nat) (m:Nat) (c:Code) (a:AAct) (H:AHeap) (n:Nat) (Q:Exit→AAct→AHeap→Nat→Prop):Prop :=
  ∀ S i w (ca:Act),ActRel S i a ca→HeapRel S i H w→(∀ l b,i l = some b→l < n) →
    c.wpIn (fen ro) 0 P (fun ex ca' w'=>∃ a' H' n' S' i',Q ex a' H' n'∧ActRel S' i' a' ca'∧Marks w w' ca.defers ca'.defers∧HeapRel S' i' H' w'∧(∀ l b,i' l = some b→l < n') ∧
      (∀ l,l < m→i' l = i l)∧Tr S i H w S' i' H' w') ca w

section
variable {P:Program} {ro:Option Nat} {a:AAct} {H:AHeap} {n m:Nat} {Q Q':Exit→AAct→AHeap→Nat→Prop}

theorem AW.mono {c:Code} (h:AW P ro m c a H n Q) (hq:∀ ex a H n,Q ex a H n→Q' ex a H n):AW P ro m c a H n Q' :=
  fun S i w ca ha hh hn=>wpIn_mono (h S i w ca ha hh hn) fun _ _ _ ⟨a',H',n',S',i',q,r⟩=>⟨a',H',n',S',i',hq _ _ _ _ q,r⟩

theorem AW.skip (h:Q .normal a H n):AW P ro m .skip a H n Q :=
  fun S i w _ ha hh hn=>wpIn_skip ⟨a,H,n,S,i,h,ha,.refl _ _ _,hh,hn,fun _ _=>rfl,.refl S i H w⟩
theorem AW.label {l:Nat} (h:Q .normal a H n):AW P ro m (.label l) a H n Q :=
  fun S i w _ ha hh hn=>wpIn_label ⟨a,H,n,S,i,h,ha,.refl _ _ _,hh,hn,fun _ _=>rfl,.refl S i H w⟩
theorem AW.exit {id:Nat} (h:Q (.exit id) a H n):AW P ro m (.exit id) a H n Q :=
  fun S i w _ ha hh hn=>wpIn_exit ⟨a,H,n,S,i,h,ha,.refl _ _ _,hh,hn,fun _ _=>rfl,.refl S i H w⟩
theorem AW.ret (h:Q .ret a H n):AW P ro m .ret a H n Q :=
  fun S i w _ ha hh hn=>wpIn_ret ⟨a,H,n,S,i,h,ha,.refl _ _ _,hh,hn,fun _ _=>rfl,.refl S i H w⟩

abbrev then' (K:AAct→AHeap→Nat→Prop) (Q:Exit→AAct→AHeap→Nat→Prop):Exit→AAct→AHeap→Nat→Prop
  | .normal=>K
  | e=>Q e
abbrev inBlk (id:Nat) (Q:Exit→AAct→AHeap→Nat→Prop):Exit→AAct→AHeap→Nat→Prop
  | .exit j=>if j = id then Q .normal else Q (.exit j)
  | e=>Q e

theorem AW.seq {x y:Code} (h:AW P ro m x a H n (then' (fun a H n=>AW P ro m y a H n Q) Q)):AW P ro m (.seq x y) a H n Q:=by
  intro S i w ca ha hh hn
  refine wpIn_seq (wpIn_mono (h S i w ca ha hh hn) ?_)
  rintro ex ca' w' ⟨a',H',n',S',i',q,ra,rd,rh,rn,re,rt⟩
  cases ex with
  | normal =>
    refine wpIn_mono (q S' i' w' ca' ra rh rn) ?_
    rintro ex ca'' w'' ⟨a'',H'',n'',S'',i'',q,ra',rd',rh',rn',re',rt'⟩
    exact ⟨a'',H'',n'',S'',i'',q,ra',rd.trans rh rt rt' rd',rh',rn',fun l hl=>(re' l hl).trans (re l hl),rt.trans rt'⟩
  | exit id=>exact ⟨a',H',n',S',i',q,ra,rd,rh,rn,re,rt⟩
  | goto l=>exact ⟨a',H',n',S',i',q,ra,rd,rh,rn,re,rt⟩
  | ret=>exact ⟨a',H',n',S',i',q,ra,rd,rh,rn,re,rt⟩
  | panic ch=>exact ⟨a',H',n',S',i',q,ra,rd,rh,rn,re,rt⟩
  | outgrown=>exact ⟨a',H',n',S',i',q,ra,rd,rh,rn,re,rt⟩

theorem AW.cond {c:Operand} {x y:Code} {b:Bool} (hc:evL a.l c = some (.d (.bool b))) (ht:b = true→AW P ro m x a H n Q) (hf:b = false→AW P ro m y a H n Q) :
    AW P ro m (.cond c x y) a H n Q:=by
  intro S i w ca ha hh hn
  have hv:=ha.eval hc
  have hb:ca.eval c = .bool b:=by
    generalize ca.eval c = u at hv
    cases hv with
    | d h=>cases h; rfl
  exact wpIn_cond_split hb (fun e=>ht e S i w ca ha hh hn) (fun e=>hf e S i w ca ha hh hn)

theorem AW.block {id:Nat} {c:Code} (h:AW P ro m c a H n (inBlk id Q)):AW P ro m (.block id c) a H n Q:=by
  intro S i w ca ha hh hn
  refine wpIn_block (wpIn_mono (h S i w ca ha hh hn) ?_)
  rintro ex ca' w' ⟨a',H',n',S',i',q,r⟩
  cases ex with
  | exit j =>
    simp only [inBlk] at q
    simp only [Exit.inBlock]
    split at q
    · rename_i hj; simp only [hj,if_true]; exact ⟨a',H',n',S',i',q,r⟩
    · rename_i hj; simp only [hj,if_false]; exact ⟨a',H',n',S',i',q,r⟩
  | normal=>exact ⟨a',H',n',S',i',q,r⟩
  | goto l=>exact ⟨a',H',n',S',i',q,r⟩
  | ret=>exact ⟨a',H',n',S',i',q,r⟩
  | panic ch=>exact ⟨a',H',n',S',i',q,r⟩
  | outgrown=>exact ⟨a',H',n',S',i',q,r⟩

theorem wpIn_loopR {F:Fence} {n:Nat} {P:Program} {Q:Exit→Act→World→Prop} {a:Act} {w:World} {c:Code} (R:Nat→Act→World→Prop) (k₀:Nat) (h₀:R k₀ a w)
    (round:∀ k a w,R k a w→c.wpIn F n P (Exit.then (fun a' w'=>∃ k',k' < k∧R k' a' w') Q) a w):(Code.loop c).wpIn F n P Q a w:=by
  intro b k cs hro hb hr
  have key:∀ j a w,R j a w →
      ∃ e a' w',Q e a' w'∧ArrivesIn (Machine.fenced P F) P (lone (b.atR a (.code c :: .inLoop c :: k)) cs w) b k cs e a' w':=by
    intro j
    induction j using Nat.strongRecOn with
    | _ j ih =>
      intro a w hI
      obtain ⟨e,a₁,w₁,hq,harr⟩:=round j a w hI b (.inLoop c :: k) cs hro hb hr
      cases e with
      | normal =>
        obtain ⟨j',hlt,hI₁⟩:=hq
        obtain ⟨e₂,a₂,w₂,hq₂,harr₂⟩:=ih j' hlt a₁ w₁ hI₁
        exact ⟨e₂,a₂,w₂,hq₂,.of_steps (StepsIn.trans harr (.one (fenced_calm hb hr rfl) stepR_inLoop)) harr₂⟩
      | exit id=>exact ⟨_,a₁,w₁,hq,.pass (x:=.inLoop c) rfl (fun _ _=>.inl (by simp)) harr⟩
      | goto l=>exact ⟨_,a₁,w₁,hq,.pass (x:=.inLoop c) rfl (fun _ _=>.inl (by simp)) harr⟩
      | ret=>exact ⟨_,a₁,w₁,hq,.pass (x:=.inLoop c) rfl (fun _ _=>.inl (by simp)) harr⟩
      | panic ch=>exact ⟨_,a₁,w₁,hq,.pass (x:=.inLoop c) rfl (fun _ _=>.inl (by simp)) harr⟩
      | outgrown=>exact ⟨_,a₁,w₁,hq,.pass (x:=.inLoop c) rfl (fun _ _=>.inl (by simp)) harr⟩
  obtain ⟨e,a',w',hq,harr⟩:=key _ a w h₀
  exact ⟨e,a',w',hq,.of_steps (.one (fenced_calm hb hr rfl) stepR_loop) harr⟩

theorem AW.loop {α:Type} {c:Code} (I:α→AAct→AHeap→Nat→Prop) (μ:α→Nat) (x₀:α) (h₀:I x₀ a H n)
    (round:∀ x a H n,I x a H n→AW P ro m c a H n (then' (fun a H n=>∃ y,I y a H n∧μ y < μ x) Q)):AW P ro m (.loop c) a H n Q:=by
  intro S₀ i₀ w₀ ca₀ ha₀ hh₀ hn₀
  refine wpIn_loopR (fun k ca w=>∃ x a H' n' S i,I x a H' n'∧μ x = k∧ActRel S i a ca∧Marks w₀ w ca₀.defers ca.defers∧HeapRel S i H' w ∧
    (∀ l b,i l = some b→l < n')∧(∀ l,l < m→i l = i₀ l)∧Tr S₀ i₀ H w₀ S i H' w) (μ x₀)
    ⟨x₀,a,H,n,S₀,i₀,h₀,rfl,ha₀,.refl _ _ _,hh₀,hn₀,fun _ _=>rfl,.refl _ _ _ _⟩ ?_
  rintro k ca w ⟨x,a,H',n',S,i,hI,rfl,ra,rd,rh,rn,re,rt⟩
  refine wpIn_mono (round x a H' n' hI S i w ca ra rh rn) ?_
  rintro ex ca' w' ⟨a',H'',n'',S',i',q,ra',rd',rh',rn',re',rt'⟩
  cases ex with
  | normal =>
    obtain ⟨y,hy,hlt⟩:=q
    exact ⟨μ y,hlt,y,a',H'',n'',S',i',hy,rfl,ra',rd.trans rh rt rt' rd',rh',rn',fun l hl=>(re' l hl).trans (re l hl),rt.trans rt'⟩
  | exit id=>exact ⟨a',H'',n'',S',i',q,ra',rd.trans rh rt rt' rd',rh',rn',fun l hl=>(re' l hl).trans (re l hl),rt.trans rt'⟩
  | goto l=>exact ⟨a',H'',n'',S',i',q,ra',rd.trans rh rt rt' rd',rh',rn',fun l hl=>(re' l hl).trans (re l hl),rt.trans rt'⟩
  | ret=>exact ⟨a',H'',n'',S',i',q,ra',rd.trans rh rt rt' rd',rh',rn',fun l hl=>(re' l hl).trans (re l hl),rt.trans rt'⟩
  | panic ch=>exact ⟨a',H'',n'',S',i',q,ra',rd.trans rh rt rt' rd',rh',rn',fun l hl=>(re' l hl).trans (re l hl),rt.trans rt'⟩
  | outgrown=>exact ⟨a',H'',n'',S',i',q,ra',rd.trans rh rt rt' rd',rh',rn',fun l hl=>(re' l hl).trans (re l hl),rt.trans rt'⟩
end
end Go.Proofs.Abs
end
section
namespace Go.Proofs.Abs
open Go

inductive Arg where
  | t (n:Nat)
  | k (x:AV)

inductive AOp where
  | mv (x:Arg)
  | pick (c a b:Arg)
  | bin (op:BinOp) (x y:Arg)
  | beq (neg:Bool) (x y:Arg)
  | nileq (cls:Nat) (neg:Bool) (x y:Arg)
  | aggeq (neg:Bool) (ks:List Nat) (x y:Arg)
  | un (op:UnOp) (x:Arg)
  | cvi (k:IntKind) (x:Arg)
  | bs2s (x:Arg)
  | s2bs (x:Arg)
  | s2rs (x:Arg)
  | i2s (x:Arg)
  | bs2bs (x:Arg)
  | ext (x:Arg) (i:Nat)
  | faddr (x:Arg) (off:Nat)
  | fld (x:Arg) (off sz:Nat) (agg:Bool)
  | idx (x i:Arg)
  | aidx (x i:Arg) (n z:Nat) (agg:Bool)
  | iaddr (x i:Arg) (z:Nat)
  | aaddr (x i:Arg) (n z:Nat)
  | ssl (x:Arg) (lo hi:Option Arg)
  | slc (x:Arg) (lo hi mx:Option Arg) (z:Nat)
  | len (x:Arg)
  | slen (x:Arg)
  | cap (x:Arg)
  | app (x y:Arg) (z bytes:Nat) (zero:List D)
  | grow (x n:Arg) (z bytes:Nat) (zero:List D)
  | copy (x y:Arg) (z:Nat)
  | mm (isMax:Bool) (x:List Arg)
  | call (f:Arg) (x:List Arg)
  | load (x:Arg) (z:Nat) (agg:Bool)
  | store (x v:Arg) (z:Nat)
  | alloc (zero:List D)
  | box (x:Arg)
  | build (zero:List D) (parts:List (Nat×Nat×Arg))
  | bslice (n z:Nat) (zero:List D) (parts:List (Nat×Arg))
  | mksl (len cap:Arg) (z bytes:Nat) (zero:List D)
  | mkfn (f:FuncId) (caps:List Arg)
  | nilchk (x:Arg)
  | mkmap
  | mget (x k:Arg) (z:D)
  | mset (x k v:Arg)
  | mgetp (x k:Arg) (ks:List Nat) (z:D) (ok:Bool)
  | msetp (x k v:Arg) (ks:List Nat)
  | mentp (x k:Arg) (ks:List Nat) (z:D)
  | mestp (x s v:Arg)
  | bad

structure AOper where
  dst:Option Nat
  op:AOp
  guard:Option (Nat×Bool)
  after:List Nat

inductive ACode where
  | skip
  | region (draw:Bool) (ops:List AOper)
  | seq (a b:ACode)
  | cond (c:Arg) (x y:ACode)
  | block (id:Nat) (c:ACode)
  | loop (c:ACode)
  | rangeFunc (f:Arg) (params:List Nat) (assign body:ACode)
  | exit (id:Nat)
  | scope (c:ACode)
  | label (l:Nat)
  | goto (l:Nat)
  | ret
  | bad

inductive ARes where
  | tmp (t:Nat)
  | cell (t z:Nat) (agg:Bool)
  | bad

structure AFunc where
  n:Nat
  params:Nat
  res:List ARes
  body:ACode

section
variable (P:Program)
def und (t:TypeId):TypeDesc:=(P.underlying t).getD .invalid
def szK (t:TypeId) (k:Nat→AOp):AOp:=match P.info? t with
  | some i=>k i.size
  | none=>.bad
def sbK (t:TypeId) (k:Nat→Nat→AOp):AOp:=match P.info? t with
  | some i=>k i.size i.bytes
  | none=>.bad
def isAggD:TypeDesc→Bool
  | .struct _=>true
  | .array _ _=>true
  | _=>false
def aggK (t:TypeId) (k:Bool→AOp):AOp:=match P.underlying t with
  | some d=>k (isAggD d)
  | none=>.bad
def zeroA (t:TypeId):Option (List D):=(P.info? t).bind fun i=>i.zero.bind fun v=>constDs v.cells.toList

def argA:Operand→Option Arg
  | .tmp t=>some (.t t)
  | .const v=>(constAV v).map .k
  | .func f=>some (.k (.d (.fn f)))
  | .global _=>none
def argsA:List Operand→Option (List Arg)
  | []=>some []
  | x :: r=>match argA x,argsA r with
    | some a,some l=>some (a :: l)
    | _,_=>none
def oargA:Option Operand→Option (Option Arg)
  | none=>some none
  | some x=>(argA x).map some
def partsA:List (Nat×Operand)→Option (List (Nat×Arg))
  | []=>some []
  | (i,x) :: r=>match argA x,partsA r with
    | some a,some l=>some ((i,a) :: l)
    | _,_=>none
def placesA (fields:Array Field):List (Nat×Arg)→Option (List (Nat×Nat×Arg))
  | []=>some []
  | (i,x) :: r=>match fields[i]?,placesA fields r with
    | some f,some l=>(P.info? f.type).map fun j=>(f.offset,j.size,x) :: l
    | _,_=>none

def plainKinds:List Field→Nat→Option (List Nat)
  | [],_=>some []
  | f :: r,n=>if f.offset == n && f.name != "_" then (match und P f.type,plainKinds r (n + 1) with
    | .int _,some l=>some (0 :: l)
    | .string,some l=>some (1 :: l)
    | .bool,some l=>some (2 :: l)
    | _,_=>none) else none

def compBin (op:BinOp) (t:TypeId) (x y:Arg):AOp :=
  match und P t with
  | .int _=>.bin op x y
  | .string=>.bin op x y
  | .bool=>(match op with | .eql=>.beq false x y | .neq=>.beq true x y | _=>.bad)
  | .slice _=>(match op with | .eql=>.nileq 0 false x y | .neq=>.nileq 0 true x y | _=>.bad)
  | .pointer _=>(match op with | .eql=>.nileq 1 false x y | .neq=>.nileq 1 true x y | _=>.bad)
  | .func _ _ _=>(match op with | .eql=>.nileq 2 false x y | .neq=>.nileq 2 true x y | _=>.bad)
  | .map _ _=>(match op with | .eql=>.nileq 3 false x y | .neq=>.nileq 3 true x y | _=>.bad)
  | .struct fs=>(match plainKinds P fs.toList 0 with
    | some ks=>if !P.eqGuardType P.depth t && !P.stoodInHeld t then (match op with | .eql=>.aggeq false ks x y | .neq=>.aggeq true ks x y | _=>.bad) else .bad
    | none=>.bad)
  | _=>.bad

def compConv (s d:TypeId) (x:Arg):AOp :=
  match und P s,und P d with
  | .int _,.int k=>.cvi k x
  | .slice e,.string=>(match und P e with | .int .u8=>.bs2s x | _=>.bad)
  | .string,.slice e=>(match und P e with | .int .u8=>.s2bs x | .int .i32=>.s2rs x | _=>.bad)
  | .int _,.string=>.i2s x
  | .slice _,.slice e=>(match und P e with | .int .u8=>if s = d then .bs2bs x else .bad | _=>.bad)
  | _,_=>.bad

def compCall (c:Call):AOp :=
  match c.callee with
  | .value f=>(match argA f,argsA c.args.toList with | some g,some l=>.call g l | _,_=>.bad)
  | .invoke _ _=>.bad
  | .builtin b =>
    match b,argsA c.args.toList,c.argTypes.toList with
    | .len,some [x],t :: _=>(match und P t with | .string=>.slen x | .slice _=>.len x | _=>.bad)
    | .cap,some [x],t :: _=>(match und P t with | .slice _=>.cap x | _=>.bad)
    | .append,some [x,y],t :: u :: _ =>
      (match und P t,und P u with
       | .slice e,.slice _=>(match zeroA P e with | some zz=>sbK P e fun z b=>.app x y z b zz | none=>.bad)
       | .slice e,.string=>(match zeroA P e with | some zz=>sbK P e fun z b=>.app x y z b zz | none=>.bad)
       | .slice e,.int _=>(match zeroA P e with | some zz=>sbK P e fun z b=>.grow x y z b zz | none=>.bad)
       | _,_=>.bad)
    | .copy,some [x,y],t :: _=>(match und P t with | .slice e=>szK P e fun z=>.copy x y z | _=>.bad)
    | .max,some l,_=>.mm true l
    | .min,some l,_=>.mm false l
    | _,_,_=>.bad

def compOp (op:Op):AOp :=
  match op with
  | .move x | .assign x=>(match argA x with | some a=>.mv a | none=>.bad)
  | .pick c a b=>(match argA c,argA a,argA b with | some c,some a,some b=>.pick c a b | _,_,_=>.bad)
  | .binOp op t x y _=>(match argA x,argA y with | some x,some y=>compBin P op t x y | _,_=>.bad)
  | .unOp op _ x=>(match argA x with | some x=>.un op x | none=>.bad)
  | .convert s d x=>(match argA x with | some x=>compConv P s d x | none=>.bad)
  | .extract x i=>(match argA x with | some x=>.ext x i | none=>.bad)
  | .fieldAddr s x f=>(match argA x,und P s with
    | some x,.struct fs=>(match fs[f]? with | some fd=>szK P fd.type fun z=>if z = 0 then .bad else .faddr x fd.offset | none=>.bad)
    | _,_=>.bad)
  | .field s x f=>(match argA x,und P s with
    | some x,.struct fs=>(match fs[f]? with | some fd=>szK P fd.type fun z=>aggK P fd.type fun g=>.fld x fd.offset z g | none=>.bad)
    | _,_=>.bad)
  | .index t x i=>(match argA x,argA i,und P t with
    | some x,some i,.string=>.idx x i
    | some x,some i,.array n e=>szK P e fun z=>aggK P e fun g=>.aidx x i n z g
    | _,_,_=>.bad)
  | .indexAddr t x i=>(match argA x,argA i,und P t with
    | some x,some i,.slice e=>szK P e fun z=>.iaddr x i z
    | some x,some i,.array n e=>szK P e fun z=>.aaddr x i n z
    | _,_,_=>.bad)
  | .slice t x lo hi mx=>(match argA x,oargA lo,oargA hi,oargA mx,und P t with
    | some x,some lo,some hi,some none,.string=>.ssl x lo hi
    | some x,some lo,some hi,some mx,.slice e=>szK P e fun z=>.slc x lo hi mx z
    | _,_,_,_,_=>.bad)
  | .call c=>compCall P c
  | .load t x=>(match argA x with | some x=>szK P t fun z=>aggK P t fun g=>.load x z g | none=>.bad)
  | .store t x v=>(match argA x,argA v with | some x,some v=>szK P t fun z=>.store x v z | _,_=>.bad)
  | .alloc t=>(match zeroA P t with | some z=>.alloc z | none=>.bad)
  | .box _ x=>(match argA x with | some x=>.box x | none=>.bad)
  | .build t parts=>(match und P t,zeroA P t,partsA parts.toList with
    | .struct fs,some z,some ps=>if fs.toList.all (fun f=>(P.info? f.type).isSome) then (match placesA P fs ps with | some l=>.build z l | none=>.bad) else .bad
    | _,_,_=>.bad)
  | .buildSlice t n parts=>(match und P t,partsA parts.toList with
    | .slice e,some ps=>(match zeroA P e with | some zz=>szK P e fun z=>.bslice n z zz ps | none=>.bad)
    | _,_=>.bad)
  | .makeSlice t l c=>(match und P t,argA l,argA c with
    | .slice e,some l,some c=>(match zeroA P e with | some zz=>sbK P e fun z b=>.mksl l c z b zz | none=>.bad)
    | _,_,_=>.bad)
  | .makeFunc (.func f) first caps=>if first.size = 0 then (match argsA caps.toList with | some l=>.mkfn f l | none=>.bad) else .bad
  | .nilCheck x=>(match argA x with | some x=>.nilchk x | none=>.bad)
  | .makeMap _ none=>.mkmap
  | .lookup t x i ok=>(match argA x,argA i,und P t with
    | some x,some i,.map k e=>(match und P k,((P.info? e).bind (·.zero)).bind constD,ok with
      | .string,some z,true=>.mget x i z
      | .struct fs,some z,ok=>(match plainKinds P fs.toList 0 with
        | some ks=>if !P.stoodInHeld k then .mgetp x i ks z ok else .bad
        | none=>.bad)
      | _,_,_=>.bad)
    | _,_,_=>.bad)
  | .mapEntry t x i=>(match argA x,argA i,und P t with
    | some x,some i,.map k e=>(match und P k,((P.info? e).bind (·.zero)).bind constD with
      | .struct fs,some z=>(match plainKinds P fs.toList 0 with
        | some ks=>if !P.stoodInHeld k then .mentp x i ks z else .bad
        | none=>.bad)
      | _,_=>.bad)
    | _,_,_=>.bad)
  | .entryStore _ x s v=>(match argA x,argA s,argA v with
    | some x,some s,some v=>.mestp x s v
    | _,_,_=>.bad)
  | .mapUpdate t x k v=>(match argA x,argA k,argA v,und P t with
    | some x,some k,some v,.map kt _=>(match und P kt with
      | .string=>.mset x k v
      | .struct fs=>(match plainKinds P fs.toList 0 with
        | some ks=>if !P.stoodInHeld kt then .msetp x k v ks else .bad
        | none=>.bad)
      | _=>.bad)
    | _,_,_,_=>.bad)
  | _=>.bad

def compOper (ops:Array Oper) (o:Oper):AOper where
  dst:=o.dst
  op:=(match o.guard with
    | none=>compOp P o.op
    | some (j,_)=>(match (ops[j]?).bind (·.dst) with | some _=>compOp P o.op | none=>.bad))
  guard:=o.guard.bind fun (j,want)=>((ops[j]?).bind (·.dst)).map fun t=>(t,want)
  after:=((o.after.toList.filter (Region.binds .any)).map (·.on)).eraseDups

def compCode:Code→ACode
  | .skip=>.skip
  | .region _ ops draw=>.region draw (ops.toList.map (compOper P ops))
  | .seq a b=>.seq (compCode a) (compCode b)
  | .cond c x y=>(match argA c with | some c=>.cond c (compCode x) (compCode y) | none=>.bad)
  | .block id c=>.block id (compCode c)
  | .loop c=>.loop (compCode c)
  | .rangeFunc f ps assign body=>(match argA f with | some f=>.rangeFunc f ps.toList (compCode assign) (compCode body) | none=>.bad)
  | .exit id=>.exit id
  | .scope c=>.scope (compCode c)
  | .label l=>.label l
  | .goto l=>.goto l
  | .ret=>.ret
  | .refuse _=>.bad

def compFunc (f:Func):AFunc where
  n:=f.ntmps
  params:=f.params.size + f.nfree
  res:=f.results.toList.map fun
    | .tmp t=>.tmp t
    | .cell t ty=>match P.info? ty,P.underlying ty with
      | some j,some d=>.cell t j.size (isAggD d)
      | _,_=>.bad
  body:=(f.body.map (compCode P)).getD .bad
end

def HasF (P:Program) (k:FuncId) (F:AFunc):Prop:=∃ f,P.funcs[k]? = some f∧(f.name == "runtime.NumGoroutine") = false∧f.body.isSome = true∧compFunc P f = F
end Go.Proofs.Abs
end
section
namespace Go.Proofs.Abs
open Go

def evA (l:List (Nat×AV)):Arg→Option AV
  | .t n=>lk l n
  | .k x=>some x

theorem evA_of {l:List (Nat×AV)} {x:Operand} {a:Arg} (h:argA x = some a):evL l x = evA l a:=by
  cases x with
  | tmp t=>cases h; rfl
  | const v =>
    simp only [argA,Option.map_eq_some_iff] at h
    obtain ⟨y,hy,rfl⟩:=h
    exact hy
  | func f=>cases h; rfl
  | global g=>cases h

def AOpT (P:Program) (ao:AOp) (args:List (Nat×AV)) (H:AHeap) (r:AV) (H':AHeap):Prop :=
  (∀ x,x = ao→x≠.bad)∧∀ o:Oper,compOp P o.op = ao→OpT P (evL args) o H r H'

structure Rec where
  idx:Nat
  dst:Option Nat
  args:List (Nat×AV)
  hin:AHeap
  hout:AHeap
  r:AV

def gOn (g:Option (Nat×Bool)) (args:List (Nat×AV)):Option Bool :=
  match g with
  | none=>some true
  | some (t,want)=>match lk args t with
    | some (.d (.bool b))=>some (b == want)
    | some (.tup _)=>some false
    | _=>none

def RecOK (P:Program) (aops:List AOper) (rc:Rec):Prop :=
  ∃ ao,aops[rc.idx]? = some ao∧ao.dst = rc.dst ∧
    ((gOn ao.guard rc.args = some true∧AOpT P ao.op rc.args rc.hin rc.r rc.hout)∨(gOn ao.guard rc.args = some false∧rc.hin = []∧rc.hout = []∧rc.r = .tup []))

def Rec.lab (r:Rec):List Nat:=r.hin.keys ++ r.hout.keys
def newLab (r:Rec):List Nat:=r.hout.keys.filter fun l=>!r.hin.keys.elem l
def restH (ls:List Nat) (H:AHeap):AHeap:=H.filter fun x=>!ls.elem x.1
def stepH (r:Rec) (H:AHeap):AHeap:=r.hout ++ restH r.lab H

def can (r:Rec) (a:AAct) (H:AHeap):Prop :=
  (∀ t x,lk r.args t = some x→lk a.l t = some x)∧(∀ x∈r.hin,x∈H)∧(∀ t,r.dst = some t→t < a.n)

def chain:List Rec→AAct→AHeap→AAct→AHeap→Prop
  | [],a,H,a',H'=>a' = a∧H' = H
  | r :: rs,a,H,a',H'=>can r a H∧chain rs (a.put r.dst r.r) (stepH r H) a' H'

def freshL (n:Nat):List Nat→List Rec→Prop
  | _,[]=>True
  | L,r :: rs=>(∀ l∈newLab r,n≤l∧l ∉ L)∧freshL n (newLab r ++ L) rs

theorem mem_restH {ls:List Nat} {H:AHeap} {x:Nat×AObj}:x∈restH ls H↔x∈H∧x.1 ∉ ls:=by
  simp [restH,List.mem_filter]
theorem mem_newLab {r:Rec} {l:Nat}:l∈newLab r↔l∈r.hout.keys∧l ∉ r.hin.keys:=by
  simp [newLab,List.mem_filter]
theorem mem_keys {H:AHeap} {l:Nat}:l∈H.keys↔∃ o,(l,o)∈H:=by
  simp [AHeap.keys]

theorem wanted_of {S:Seal} {i:Emb} {a:AAct} {ca:Act} {P:Program} {ops:Array Oper} {o:Oper} {args:List (Nat×AV)} {b:Bool} (ha:ActRel S i a ca)
    (hargs:∀ t x,lk args t = some x→lk a.l t = some x) (hg:gOn (compOper P ops o).guard args = some b) (hbad:∀ j w,o.guard = some (j,w)→((ops[j]?).bind (·.dst)).isSome = true) :
    Region.wanted o (yielded ops ca.tmps) = b:=by
  unfold Region.wanted
  cases ho:o.guard with
  | none =>
    simp only [compOper,ho,Option.bind_none,gOn] at hg
    cases hg
    rfl
  | some jw =>
    obtain ⟨j,want⟩:=jw
    have hs:=hbad j want ho
    cases hd:(ops[j]?).bind (·.dst) with
    | none=>rw [hd] at hs; cases hs
    | some t =>
      simp only [compOper,ho,Option.bind_some,hd,Option.map_some,gOn] at hg
      cases hl:lk args t with
      | none=>rw [hl] at hg; cases hg
      | some x =>
        rw [hl] at hg
        have hv:=ha.get t x (hargs _ _ hl)
        split at hg
        · rename_i c hc
          cases hc
          cases hg
          have hval:ca.tmps.getD t undef = .bool c:=by
            generalize ca.tmps.getD t undef = u at hv
            cases hv with
            | d h=>cases h; rfl
          have hq:ca.tmps[t]? = some (.bool c):=by
            simp only [Array.getD_eq_getD_getElem?] at hval
            cases hx:ca.tmps[t]? with
            | none=>rw [hx] at hval; simp [undef] at hval
            | some y=>rw [hx] at hval; simpa using hval
          simp only [yielded,hd,Option.bind_some,hq]
          cases c <;> cases want <;> rfl
        · rename_i c hc
          cases hc
          cases hg
          have hval:∃ vs,ca.tmps.getD t undef = .tuple vs:=by
            generalize ca.tmps.getD t undef = u at hv
            cases hv with
            | tup hl h=>exact ⟨_,rfl⟩
          obtain ⟨vs,hval⟩:=hval
          simp only [yielded,hd,Option.bind_some]
          simp only [Array.getD_eq_getD_getElem?] at hval
          cases hx:ca.tmps[t]? with
          | none=>cases want <;> rfl
          | some y =>
            rw [hx] at hval
            simp only [Option.getD_some] at hval
            rw [hval]
            cases want <;> rfl
        · cases hg

theorem recs_ok {P:Program} {ro:Option Nat} {Q:Exit→Act→World→Prop} {ops:Array Oper} (n:Nat) :
    ∀ (rs:List Rec) (a:AAct) (H:AHeap) (a':AAct) (H':AHeap) (L:List Nat),(∀ r∈rs,RecOK P (ops.toList.map (compOper P ops)) r)→chain rs a H a' H'→freshL n L rs →
    ∀ S i w (ca:Act),ActRel S i a ca→HeapRel S i H w→(∀ l b,i l = some b→l < n∨l∈L) →
    (∀ S' i' w' (ca':Act),ActRel S' i' a' ca'→ca'.defers = ca.defers→HeapRel S' i' H' w'→i.le i'→(∀ l b,i' l = some b→l < n∨l∈L∨l∈rs.flatMap newLab) →
      (∀ l,l < n→i' l = i l)→Tr S i H w S' i' H' w'→Q .normal ca' w') →
    wpOpsIn (fen ro) 0 P ops Q (rs.map (·.idx)) ca w
  | [],a,H,a',H',L,_,hch,_,S,i,w,ca,ha,hh,hd,hQ=>by
    obtain ⟨rfl,rfl⟩:=hch
    exact hQ S i w ca ha rfl hh (fun _ _ h=>h) (fun l b h=>(hd l b h).imp id .inl) (fun _ _=>rfl) (.refl _ _ _ _)
  | rc :: rs,a,H,a',H',L,hok,hch,hfr,S,i,w,ca,ha,hh,hd,hQ=>by
    obtain ⟨⟨hargs,hhin,hdst⟩,hch⟩:=hch
    obtain ⟨hfr1,hfr2⟩:=hfr
    obtain ⟨ao,hao,hdo,hcase⟩:=hok rc List.mem_cons_self
    have hok':∀ r∈rs,RecOK P (ops.toList.map (compOper P ops)) r:=fun r hr=>hok r (List.mem_cons_of_mem _ hr)
    simp only [List.getElem?_map,Option.map_eq_some_iff] at hao
    obtain ⟨o,ho,rfl⟩:=hao
    have ho':ops[rc.idx]? = some o:=by simpa using ho
    simp only [List.map_cons,wpOpsIn,ho']
    -- the guard
    have hev:∀ x y,evL rc.args x = some y→V S i y (ca.eval x):=by
      intro x y hx
      refine ha.eval ?_
      cases x with
      | tmp t=>exact hargs _ _ hx
      | const v=>exact hx
      | func f=>exact hx
      | global g=>exact hx
    rcases hcase with ⟨hg,hop⟩ | ⟨hg,hin0,hout0,hr0⟩
    · have hnb:∀ j wn,o.guard = some (j,wn)→((ops[j]?).bind (·.dst)).isSome = true:=by
        intro j wn hgd
        cases hx:(ops[j]?).bind (·.dst) with
        | some t=>rfl
        | none =>
          exfalso
          refine hop.1 _ rfl ?_
          simp [compOper,hgd,hx]
      have hw:=wanted_of ha hargs hg hnb
      simp only [hw,if_true]
      have hcomp:compOp P o.op = (compOper P ops o).op:=by
        simp only [compOper]
        cases hgd:o.guard with
        | none=>rfl
        | some jw =>
          obtain ⟨j,wn⟩:=jw
          have:=hnb j wn hgd
          cases hx:(ops[j]?).bind (·.dst) with
          | none=>rw [hx] at this; cases this
          | some t=>simp [hx]
      obtain ⟨hnd,hT⟩:=hop.2 o hcomp
      refine ⟨fun _ _=>trivial,?_⟩
      rw [Oper.semAt_eq _ _ _ hnd]
      have hhF:HeapRel S i (rc.hin ++ restH rc.lab H) w:=hh.perm fun x hx=>by
        rcases List.mem_append.1 hx with hx | hx
        · exact hhin x hx
        · exact (mem_restH.1 hx).1
      have hdis:∀ l∈rc.hin.keys,l ∉ (restH rc.lab H).keys:=by
        intro l hl hl'
        obtain ⟨y,hy⟩:=mem_keys.1 hl'
        exact (mem_restH.1 hy).2 (List.mem_append.2 (.inl hl))
      have hT':=hT S i w ca.eval hev (hh.perm hhin) (fun l hl hl'=>by
        have hn:=hfr1 l (mem_newLab.2 ⟨hl,hl'⟩)
        cases hi:i l with
        | none=>rfl
        | some b => rcases hd l b hi with h | h
                    · omega
                    · exact absurd h hn.2)
      refine uponIn_of_ends hT' ?_
      rintro v w1 ⟨S1,i1,hv,hh1,hle,htr,hnew⟩
      have hdis':∀ l∈rc.hout.keys,l ∉ (restH rc.lab H).keys:=by
        intro l hl hl'
        obtain ⟨y,hy⟩:=mem_keys.1 hl'
        exact (mem_restH.1 hy).2 (List.mem_append.2 (.inr hl))
      have hF:=hhF.frame hdis hh1 hle hnew hdis' htr
      have hFi:∀ l o b,(l,o)∈restH rc.lab H→i1 l = some b→i l = some b:=fun l o b hm hb=>by
        rcases hnew l b hb with hb | hb
        · exact hb
        · exact absurd (mem_keys.2 ⟨o,hm⟩) (hdis' l hb.1)
      have htr1:Tr S i H w S1 i1 (stepH rc H) w1:=(htr.frame hFi).perm (fun x hx=>by
        rcases List.mem_append.1 hx with hx | hx
        · exact hhin x hx
        · exact (mem_restH.1 hx).1) (fun x hx=>hx)
      have hagree:∀ l,l < n→i1 l = i l:=by
        intro l hl
        cases h1:i1 l with
        | none =>
          cases h0:i l with
          | none=>rfl
          | some b=>rw [hle l b h0] at h1; cases h1
        | some b =>
          rcases hnew l b h1 with h0 | h0
          · exact h0.symm
          · have:=(hfr1 l (mem_newLab.2 h0)).1
            omega
      refine recs_ok n rs _ _ a' H' (newLab rc ++ L) hok' hch hfr2 S1 i1 w1 (ca.put o.dst v) ?_ hF ?_ ?_
      · have:o.dst = rc.dst:=hdo
        rw [this]
        exact (ha.mono htr.up hle).put hv hdst
      · intro l b hl
        rcases hnew l b hl with h0 | h0
        · exact (hd l b h0).imp id fun h=>List.mem_append.2 (.inr h)
        · exact .inr (List.mem_append.2 (.inl (mem_newLab.2 h0)))
      · intro S' i' w' ca' hact hdef hhp hle' hdom hag htr'
        refine hQ S' i' w' ca' hact (hdef.trans ?_) hhp (fun l b h=>hle' l b (hle l b h)) (fun l b h=>?_) (fun l hl=>(hag l hl).trans (hagree l hl)) (htr1.trans htr')
        · cases o.dst <;> rfl
        · rcases hdom l b h with h | h | h
          · exact .inl h
          · rcases List.mem_append.1 h with h | h
            · exact .inr (.inr (by simp [h]))
            · exact .inr (.inl h)
          · exact .inr (.inr (by simp only [List.flatMap_cons,List.mem_append]; exact .inr h))
    · have hnb:∀ j wn,o.guard = some (j,wn)→((ops[j]?).bind (·.dst)).isSome = true:=by
        intro j wn hgd
        cases hx:(ops[j]?).bind (·.dst) with
        | some t=>rfl
        | none =>
          simp only [compOper,hgd,Option.bind_some,hx,Option.map_none,gOn] at hg
          cases hg
      have hw:=wanted_of ha hargs hg hnb
      simp only [hw,if_false,Bool.false_eq_true]
      refine ⟨fun _ _=>trivial,?_⟩
      have hst:∀ x,x∈stepH rc H→x∈H:=by
        intro x hx
        simp only [stepH,hout0,List.nil_append] at hx
        exact (mem_restH.1 hx).1
      have hst':∀ x,x∈H→x∈stepH rc H:=by
        intro x hx
        simp only [stepH,hout0,List.nil_append]
        exact mem_restH.2 ⟨hx,by simp [Rec.lab,hin0,hout0,AHeap.keys]⟩
      have hnl:newLab rc = []:=by simp [newLab,hout0,AHeap.keys]
      refine recs_ok n rs _ _ a' H' (newLab rc ++ L) hok' hch hfr2 S i w (ca.put o.dst undef) ?_ (hh.perm hst) ?_ ?_
      · have:o.dst = rc.dst:=hdo
        rw [this,hr0]
        exact ha.put (.tup rfl fun j h1=>by simp at h1) hdst
      · intro l b hl
        exact (hd l b hl).imp id fun h=>List.mem_append.2 (.inr h)
      · intro S' i' w' ca' hact hdef hhp hle' hdom hag htr'
        refine hQ S' i' w' ca' hact (hdef.trans ?_) hhp hle' (fun l b h=>?_) hag (((Tr.refl S i H w).perm (fun _ h=>h) hst).trans htr')
        · cases o.dst <;> rfl
        · rcases hdom l b h with h | h | h
          · exact .inl h
          · rw [hnl] at h
            exact .inr (.inl (by simpa using h))
          · exact .inr (.inr (by simp only [List.flatMap_cons,List.mem_append]; exact .inr h))

def AWc (P:Program) (ro:Option Nat) (m:Nat) (ac:ACode) (a:AAct) (H:AHeap) (n:Nat) (Q:Exit→AAct→AHeap→Nat→Prop):Prop :=
  ∀ c,compCode P c = ac→AW P ro m c a H n Q

section
variable {P:Program} {ro:Option Nat} {m n:Nat} {a:AAct} {H:AHeap} {Q Q':Exit→AAct→AHeap→Nat→Prop}

theorem AWc.mono {c:ACode} (h:AWc P ro m c a H n Q) (hq:∀ ex a H n,Q ex a H n→Q' ex a H n):AWc P ro m c a H n Q':=fun c hc=>(h c hc).mono hq

theorem AWc.skip (h:Q .normal a H n):AWc P ro m .skip a H n Q:=by
  intro c hc
  cases c <;> simp only [compCode] at hc <;> first | exact .skip h | (split at hc <;> cases hc) | cases hc
theorem AWc.label {l:Nat} (h:Q .normal a H n):AWc P ro m (.label l) a H n Q:=by
  intro c hc
  cases c <;> simp only [compCode] at hc <;> first | exact .label h | (split at hc <;> cases hc) | cases hc
theorem AWc.exit {id:Nat} (h:Q (.exit id) a H n):AWc P ro m (.exit id) a H n Q:=by
  intro c hc
  cases c <;> simp only [compCode] at hc <;> first | (cases hc; exact .exit h) | (split at hc <;> cases hc) | cases hc
theorem AWc.ret (h:Q .ret a H n):AWc P ro m .ret a H n Q:=by
  intro c hc
  cases c <;> simp only [compCode] at hc <;> first | exact .ret h | (split at hc <;> cases hc) | cases hc
theorem AWc.seq {x y:ACode} (h:AWc P ro m x a H n (then' (fun a H n=>AWc P ro m y a H n Q) Q)):AWc P ro m (.seq x y) a H n Q:=by
  intro c hc
  cases c <;> simp only [compCode] at hc
  case seq u v =>
    injection hc with h1 h2
    refine .seq ((h u h1).mono ?_)
    intro ex a H n q
    cases ex <;> first | exact q v h2 | exact q
  all_goals first | (split at hc <;> cases hc) | cases hc
theorem AWc.cond {c:Arg} {x y:ACode} {b:Bool} (hc:evA a.l c = some (.d (.bool b))) (ht:b = true→AWc P ro m x a H n Q) (hf:b = false→AWc P ro m y a H n Q) :
    AWc P ro m (.cond c x y) a H n Q:=by
  intro cc hcc
  cases cc <;> simp only [compCode] at hcc
  case cond o u v =>
    split at hcc
    · rename_i g hg
      injection hcc with h1 h2 h3
      subst h1
      exact .cond ((evA_of hg).trans hc) (fun e=>ht e u h2) (fun e=>hf e v h3)
    · cases hcc
  all_goals first | (split at hcc <;> cases hcc) | cases hcc
theorem AWc.block {id:Nat} {c:ACode} (h:AWc P ro m c a H n (inBlk id Q)):AWc P ro m (.block id c) a H n Q:=by
  intro cc hcc
  cases cc <;> simp only [compCode] at hcc
  case block j u =>
    injection hcc with h1 h2
    subst h1
    exact .block (h u h2)
  all_goals first | (split at hcc <;> cases hcc) | cases hcc
theorem AWc.loop {α:Type} {c:ACode} (I:α→AAct→AHeap→Nat→Prop) (μ:α→Nat) (x₀:α) (h₀:I x₀ a H n)
    (round:∀ x a H n,I x a H n→AWc P ro m c a H n (then' (fun a H n=>∃ y,I y a H n∧μ y < μ x) Q)):AWc P ro m (.loop c) a H n Q:=by
  intro cc hcc
  cases cc <;> simp only [compCode] at hcc
  case loop u =>
    injection hcc with h1
    exact .loop I μ x₀ h₀ fun x a H n hI=>round x a H n hI u h1
  all_goals first | (split at hcc <;> cases hcc) | cases hcc
end
end Go.Proofs.Abs
end
section
namespace Go.Proofs.Abs
open Go

structure Out where
  r:AV
  hin:AHeap
  hout:AHeap
  side:Prop

def lkH:AHeap→Nat→Option AObj
  | [],_=>none
  | (k,v) :: r,t=>bif Nat.beq k t then some v else lkH r t

def AV.scalar:AV→Bool
  | .d x=>!x.isAgg
  | .agg _=>false
  | .tup _=>false
  | .lit _=>false
  | .any=>false
  | _=>true
def cellsAV:AV→Option (List AV)
  | .d x=>some (x.cells.map .d)
  | .agg l=>bif l.all AV.scalar then some l else none
  | .tup _=>none
  | .lit _=>none
  | .any=>none
  | x=>some [x]
def toD:AV→Option D
  | .d x=>bif x.isAgg then none else some x
  | .nils=>some (.sl [])
  | .ap _ _ xs=>some (.sl xs)
  | .win xs n=>some (.sl (xs.take n))
  | .dn xs=>some (.sl xs)
  | _=>none
def toDs:List AV→Option (List D)
  | []=>some []
  | x :: r=>match toD x,toDs r with
    | some a,some l=>some (a :: l)
    | _,_=>none
def mkAgg (l:List AV):AV:=match toDs l with
  | some ds=>.d (.agg ds)
  | none=>.agg l
def upd:List AV→Nat→List AV→List AV
  | L,_,[]=>L
  | [],_,_=>[]
  | _ :: L,0,c :: cs=>c :: upd L 0 cs
  | x :: L,n + 1,cs=>x :: upd L n cs
def toSl:AV→Option (List D)
  | .d (.sl l)=>some l
  | .nils=>some []
  | .ap _ _ xs=>some xs
  | .win xs n=>some (xs.take n)
  | .dn xs=>some xs
  | _=>none

def loadA (H:AHeap) (x:AV) (z:Nat) (agg:Bool):Option Out :=
  match x with
  | .cp d off =>
    bif agg then
      (bif Nat.beq off 0 && Nat.beq d.cells.length z then some ⟨.d d,[],[],d.isAgg = true⟩
       else some ⟨.d (.agg ((d.cells.drop off).take z)),[],[],d.isAgg = true∧off + z≤d.cells.length⟩)
    else match d.cells.drop off with
      | c :: _=>some ⟨.d c,[],[],True⟩
      | []=>none
  | .ptr l off=>match lkH H l with
    | some (.cells L) =>
      bif agg then some ⟨mkAgg ((L.drop off).take z),[(l,.cells L)],[(l,.cells L)],off + z≤L.length⟩
      else (match L.drop off with
        | c :: _=>some ⟨c,[(l,.cells L)],[(l,.cells L)],True⟩
        | []=>none)
    | _=>none
  | _=>none

theorem postSame {S:Seal} {i:Emb} {H:AHeap} {w:World} {r:AV} {v:Value} (hv:V S i r v) (hh:HeapRel S i H w):Post S i H w r H v w :=
  ⟨S,i,hv,hh,fun _ _ h=>h,.refl _ _ _ _,fun _ _ h=>.inl h⟩

theorem OpT.pure {P:Program} {ev:Operand→Option AV} {o:Oper} {H:AHeap} {r:AV} (hd:∀ c,o.op≠.defer c)
    (h:∀ S i w ρ,(∀ x a,ev x = some a→V S i a (ρ x))→HeapRel S i H w→∃ v,(execOp ρ o).run P w = .ok (.value v) w∧V S i r v):OpT P ev o H r H:=by
  refine ⟨hd,fun S i w ρ hev hh _=>?_⟩
  obtain ⟨v,hr,hv⟩:=h S i w ρ hev hh
  rw [hr]
  exact postSame hv hh

theorem addr_add (b o n:Nat):(⟨b,o,none⟩:Addr).add n = ⟨b,o + n,none⟩:=by
  unfold Addr.add
  split
  · rename_i h; subst h; rfl
  · rfl

theorem dInt {S:Seal} {k:IntKind} {n:Int} {v:Value} (h:DV S (.int k n) v):v = .int k n:=by cases h; rfl
theorem dBool {S:Seal} {b:Bool} {v:Value} (h:DV S (.bool b) v):v = .bool b:=by cases h; rfl
theorem dStr {S:Seal} {s:List UInt8} {v:Value} (h:DV S (.str s) v):v = .string ⟨s.toArray⟩:=by cases h; rfl
theorem vD {S:Seal} {i:Emb} {x:D} {v:Value} (h:V S i (.d x) v):DV S x v:=by cases h; assumption
theorem vInt {S:Seal} {i:Emb} {k:IntKind} {n:Int} {v:Value} (h:V S i (.d (.int k n)) v):v = .int k n:=dInt (vD h)
theorem vBool {S:Seal} {i:Emb} {b:Bool} {v:Value} (h:V S i (.d (.bool b)) v):v = .bool b:=dBool (vD h)
theorem vStr {S:Seal} {i:Emb} {s:List UInt8} {v:Value} (h:V S i (.d (.str s)) v):v = .string ⟨s.toArray⟩:=dStr (vD h)

theorem dv_take {S:Seal} {xs:List D} {a:Option Addr} {cap n:Nat} (h:DV S (.sl xs) (.slice a xs.length cap)) (hn:n≤xs.length):DV S (.sl (xs.take n)) (.slice a n cap):=by
  cases h with
  | nilsl =>
    have:n = 0:=by simpa using hn
    subst this
    exact .nilsl
  | emp =>
    have:n = 0:=by simpa using hn
    subst this
    exact .emp
  | sl f hz hg hc hs h =>
    have e:flat xs = flat (xs.take n) ++ flat (xs.drop n):=by
      unfold flat
      rw [←List.flatMap_append,List.take_append_drop]
    have hlen:(xs.take n).length = n:=by simp [Nat.min_eq_left hn]
    have hle:∀ {m},m < (flat (xs.take n)).length→m < (flat xs).length:=fun hm=>by rw [e,List.length_append]; omega
    have:=DV.sl (S:=S) (l:=xs.take n) (cap:=cap) f (fun d hd=>hz d (List.mem_of_mem_take hd)) (fun c hc=>hg c (by rw [e]; exact List.mem_append.2 (.inl hc))) (by rw [hlen]; omega)
      (fun m hm=>hs m (hle hm)) (fun m hm=>by
        have h2:=h m (hle hm)
        have h3:(flat xs)[m]'(hle hm) = (flat (xs.take n))[m]:=by
          simp only [e]
          rw [List.getElem_append_left hm]
        rw [h3] at h2
        exact h2)
    rw [hlen] at this
    exact this

theorem toSl_ok {S:Seal} {i:Emb} {x:AV} {l:List D} {v:Value} (hx:toSl x = some l) (h:V S i x v):DV S (.sl l) v:=by
  cases x <;> simp only [toSl] at hx <;> try cases hx
  case d y =>
    cases y <;> simp at hx
    subst hx; exact vD h
  case ap=>cases h <;> first | exact .nilsl | assumption
  case win=>cases h with | win h hn=>exact dv_take h hn
  case dn=>cases h with | dn h=>exact h
  case nils=>cases h; exact .nilsl
theorem dSlice {S:Seal} {l:List D} {v:Value} (h:DV S (.sl l) v):(l = []∧v = .slice none 0 0) ∨
    (∃ b o cap z,∃ f:Nat→Value,v = .slice (some ⟨b,o,none⟩) l.length cap∧(∀ d∈l,d.cells.length = z)∧(∀ c∈flat l,c.isAgg = false)∧l.length≤cap ∧
      (∀ m,m < (flat l).length→S.cell ⟨b,o + m,none⟩ = some (f m))∧∀ m (hm:m < (flat l).length),DV S (flat l)[m] (f m))∨(l = []∧∃ a,v = .slice (some a) 0 0):=by
  cases h with
  | nilsl=>exact .inl ⟨rfl,rfl⟩
  | sl f hz hg hc hs h=>exact .inr (.inl ⟨_,_,_,_,f,rfl,hz,hg,hc,hs,h⟩)
  | emp=>exact .inr (.inr ⟨rfl,_,rfl⟩)

def bitsA (op:BinOp) (k:IntKind) (x y:Int):Int :=
  let a:=BitVec.ofInt k.bits x
  let b:=BitVec.ofInt k.bits y
  match op with
  | .and=>k.wrap (a &&& b).toNat
  | .or=>k.wrap (a ||| b).toNat
  | .xor=>k.wrap (a ^^^ b).toNat
  | _=>k.wrap (a &&& ~~~b).toNat

def binA (op:BinOp) (x y:D):Option (D×Prop) :=
  match x,y with
  | .int k a,.int k' b =>
    (match op with
     | .shl=>some (.int k (k.wrap (a * 2 ^ (min b.toNat k.bits))),0≤b)
     | .shr=>some (.int k (a.fdiv (2 ^ (min b.toNat k.bits))),0≤b)
     | _=>bif decide (k = k') then (match op with
       | .add=>some (.int k (k.wrap (a + b)),True)
       | .sub=>some (.int k (k.wrap (a - b)),True)
       | .mul=>some (.int k (k.wrap (a * b)),True)
       | .quo=>some (.int k (k.wrap (a.tdiv b)),b≠0)
       | .rem=>some (.int k (a.tmod b),b≠0)
       | .and=>some (.int k (bitsA .and k a b),True)
       | .or=>some (.int k (bitsA .or k a b),True)
       | .xor=>some (.int k (bitsA .xor k a b),True)
       | .andNot=>some (.int k (bitsA .andNot k a b),True)
       | .eql=>some (.bool (decide (a = b)),True)
       | .neq=>some (.bool (decide (a≠b)),True)
       | .lss=>some (.bool (decide (a < b)),True)
       | .leq=>some (.bool (decide (a≤b)),True)
       | .gtr=>some (.bool (decide (a > b)),True)
       | .geq=>some (.bool (decide (a ≥ b)),True)
       | _=>none) else none)
  | .str a,.str b =>
    (match op with
     | .add=>some (.str (a ++ b),a.length + b.length≤9223372036854775807)
     | .eql=>some (.bool (decide (a = b)),True)
     | .neq=>some (.bool (decide (a≠b)),True)
     | .lss=>some (.bool (Op.bytesLess a b),True)
     | .leq=>some (.bool (Op.bytesLess a b || decide (a = b)),True)
     | .gtr=>some (.bool (!(Op.bytesLess a b || decide (a = b))),True)
     | .geq=>some (.bool (!(Op.bytesLess a b)),True)
     | _=>none)
  | _,_=>none

theorem ba_toList (a:List UInt8):ByteArray.toList ⟨a.toArray⟩ = a:=by rw [ByteArray.toList_eq]
theorem ba_add (a b:List UInt8):(⟨a.toArray⟩ ++ ⟨b.toArray⟩:ByteArray) = ⟨(a ++ b).toArray⟩:=by
  apply ByteArray.ext
  simp [ByteArray.data_append]

theorem binA_ok {P:Program} {w:World} {op:BinOp} {t:TypeId} {x y r:D} {side:Prop} {S:Seal} {u v:Value} (h:binA op x y = some (r,side)) (hs:side) (hx:DV S x u) (hy:DV S y v) :
    ∃ q,(binOp op t u v).run P w = .ok q w∧DV S r q:=by
  unfold binA at h
  split at h
  · rename_i k a k' b
    cases dInt hx; cases dInt hy
    split at h
    · cases h
      refine ⟨_,?_,.int⟩
      simp only [binOp,Op.shift]
      rw [if_neg (by omega)]; rfl
    · cases h
      refine ⟨_,?_,.int⟩
      simp only [binOp,Op.shift]
      rw [if_neg (by omega)]; rfl
    · rename_i h1 h2
      cases hk:decide (k = k') with
      | false=>rw [hk] at h; cases h
      | true =>
        rw [hk] at h
        have:=of_decide_eq_true hk
        subst this
        cases op <;> simp only [cond_true] at h <;> (try cases h) <;> first
          | exact absurd rfl h1
          | exact absurd rfl h2
          | (refine ⟨_,?_,.int⟩
             simp only [binOp,ne_eq,not_true_eq_false,if_false]
             first
               | rfl
               | (simp only [Op.intDiv,if_neg hs]; rfl))
          | (refine ⟨_,?_,.bool⟩
             simp only [binOp,ne_eq,not_true_eq_false,if_false]; rfl)
          | skip
        · refine ⟨.bool (a != b),?_,?_⟩
          · simp only [binOp,ne_eq,not_true_eq_false,if_false]; rfl
          · have:(a != b) = decide (a≠b):=by by_cases hab:a = b <;> simp [hab]
            rw [this]; exact .bool
  · rename_i a b
    cases dStr hx; cases dStr hy
    have e1:=ba_toList a
    have e2:=ba_toList b
    have ebe:(a == b) = decide (a = b):=by
      by_cases hab:a = b <;> simp [hab]
    cases op <;> simp only at h <;> (try cases h) <;> simp only [binOp,Op.stringOp,e1,e2,ebe]
    · refine ⟨.string ⟨(a ++ b).toArray⟩,?_,.str⟩
      have hm:IntKind.i64.max = 9223372036854775807:=by decide +kernel
      have h1:(⟨a.toArray⟩:ByteArray).size = a.length:=by simp [ByteArray.size]
      have h2:(⟨b.toArray⟩:ByteArray).size = b.length:=by simp [ByteArray.size]
      rw [if_neg (by rw [h1,h2,hm]; omega),ba_add]; rfl
    · exact ⟨_,rfl,.bool⟩
    · refine ⟨_,rfl,?_⟩
      have:(!decide (a = b)) = decide (a≠b):=by simp
      rw [this]; exact .bool
    · exact ⟨_,rfl,.bool⟩
    · exact ⟨_,rfl,.bool⟩
    · exact ⟨_,rfl,.bool⟩
    · exact ⟨_,rfl,.bool⟩
  · cases h
end Go.Proofs.Abs
end
section
namespace Go.Proofs.Abs
open Go

def at' (l:List D) (i:Nat):D:=l.getD i .nilp
def byteD (b:UInt8):D:=.int .u8 b.toNat
abbrev bytesD (l:List UInt8):D:=.sl (l.map byteD)
def byteOf:D→UInt8
  | .int _ n=>UInt8.ofNat n.toNat
  | _=>0
def isByte:D→Prop
  | .int .u8 n=>0≤n∧n < 256
  | _=>False

def toSrc:AV→Option (List D)
  | .d (.str s)=>some (s.map byteD)
  | x=>toSl x

def nil0:AV→Option Bool
  | .nils=>some true
  | .d (.sl (_ :: _))=>some false
  | .sl _ _ _ _ _=>some false
  | .win _ _=>some false
  | .dn _=>some false
  | _=>none
def nil1:AV→Option Bool
  | .d .nilp=>some true
  | .ptr _ _=>some false
  | .cp _ _=>some false
  | _=>none
def nil2:AV→Option Bool
  | .d .nilf=>some true
  | .d (.fn _)=>some false
  | .fn _ _=>some false
  | .lf _=>some false
  | _=>none
def nilOf (c:Nat) (x:AV):Option Bool:=match c with
  | 0=>nil0 x
  | 1=>nil1 x
  | 2=>nil2 x
  | _=>none
def nilEq (c:Nat) (x y:AV):Option Bool:=match nilOf c x,nilOf c y with
  | some true,some b=>some b
  | some b,some true=>some b
  | _,_=>none

def allAV (ev:Arg→Option AV):List Arg→Option (List AV)
  | []=>some []
  | a :: r=>match ev a,allAV ev r with
    | some x,some l=>some (x :: l)
    | _,_=>none
def mmL (isMax:Bool):IntKind×Int→List AV→Option (IntKind×Int)
  | acc,[]=>some acc
  | (k,n),.d (.int _ m) :: r=>mmL isMax (k,bif isMax then max n m else min n m) r
  | _,_=>none
def mmA (isMax:Bool):List AV→Option (IntKind×Int)
  | .d (.int k n) :: r=>mmL isMax (k,n) r
  | _=>none
def buildF (ev:Arg→Option AV):List AV→List (Nat×Nat×Arg)→Option (List AV×Prop)
  | L,[]=>some (L,True)
  | L,(off,sz,a) :: r=>match (ev a).bind cellsAV with
    | some cs=>(match buildF ev (upd L off cs) r with
      | some (L',s)=>some (L',(cs.length = sz∧off + sz≤L.length)∧s)
      | none=>none)
    | none=>none

def toE:AV→Option D
  | .d x=>some x
  | .nils=>some (.sl [])
  | .ap _ _ xs=>some (.sl xs)
  | .win xs n=>some (.sl (xs.take n))
  | .dn xs=>some (.sl xs)
  | _=>none
def toEs:List AV→Option (List D)
  | []=>some []
  | x :: r=>match toE x,toEs r with
    | some a,some l=>some (a :: l)
    | _,_=>none
def cellsAll:List AV→Option (List AV)
  | []=>some []
  | x :: r=>match cellsAV x,cellsAll r with
    | some a,some l=>some (a ++ l)
    | _,_=>none
def natListBeq:List Nat→List Nat→Bool
  | [],[]=>true
  | a :: x,b :: y=>bif Nat.beq a b then natListBeq x y else false
  | _,_=>false
def zElem:List D→D
  | [x]=>x
  | l=>.agg l
def oInt (ev:Arg→Option AV) (dflt:Int):Option Arg→Option Int
  | none=>some dflt
  | some a=>match ev a with
    | some (.d (.int _ n))=>some n
    | _=>none

def zAV:D→AV
  | .sl []=>.nils
  | x=>.d x

def out (r:AV) (side:Prop:=True):Option Out:=some ⟨r,[],[],side⟩

def evOp (own:Bool) (nl:Nat) (ev:Arg→Option AV) (H:AHeap):AOp→Option Out
  | .mv x=>(ev x).bind fun r=>out r
  | .pick c a b=>match ev c with
    | some (.d (.bool c))=>(bif c then ev a else ev b).bind fun r=>out r
    | _=>none
  | .bin op x y=>match ev x,ev y with
    | some (.d a),some (.d b)=>(binA op a b).bind fun (r,s)=>out (.d r) s
    | _,_=>none
  | .beq neg x y=>match ev x,ev y with
    | some (.d (.bool a)),some (.d (.bool b))=>out (.d (.bool (bif neg then !(a == b) else a == b)))
    | _,_=>none
  | .nileq c neg x y=>match ev x,ev y with
    | some a,some b=>(nilEq c a b).bind fun r=>out (.d (.bool (bif neg then !r else r)))
    | _,_=>none
  | .un op x=>match op,ev x with
    | .not,some (.d (.bool b))=>out (.d (.bool (!b)))
    | .neg,some (.d (.int k n))=>out (.d (.int k (k.wrap (0 - n))))
    | .xor,some (.d (.int k n))=>out (.d (.int k (bitsA .xor k (if k.signed then -1 else k.max) n)))
    | _,_=>none
  | .cvi k x=>match ev x with
    | some (.d (.int _ n))=>out (.d (.int k (k.wrap n)))
    | _=>none
  | .bs2s x=>match (ev x).bind toSl with
    | some l=>out (.d (.str (l.map byteOf))) (∀ d∈l,isByte d)
    | none=>none
  | .ext x i=>match ev x with
    | some (.tup l)=>(l[i]?).bind fun r=>out r
    | _=>none
  | .faddr x o=>match ev x with
    | some (.cp d off)=>out (.cp d (off + o))
    | some (.ptr l off)=>out (.ptr l (off + o))
    | _=>none
  | .fld x o z g=>match ev x with
    | some (.d (.agg cs))=>bif g then out (.d (.agg ((cs.drop o).take z))) (o + z≤cs.length) else (match cs.drop o with
      | c :: _=>out (.d c)
      | []=>none)
    | _=>none
  | .idx x i=>match ev x,ev i with
    | some (.d (.str s)),some (.d (.int _ n))=>out (.d (.int .u8 (s.getD n.toNat 0).toNat)) (0≤n∧n < s.length)
    | _,_=>none
  | .iaddr x i z=>match ev x,ev i with
    | some (.sl l off len _ z'),some (.d (.int _ n))=>bif Nat.beq z z' then out (.ptr l (off + n.toNat * z)) (0≤n∧n < len) else none
    | some y,some (.d (.int _ n))=>(toSl y).bind fun l=>out (.cp (at' l n.toNat) 0) (0≤n∧n < l.length∧(at' l n.toNat).cells.length = z)
    | _,_=>none
  | .len x=>match ev x with
    | some (.sl _ _ n _ _)=>out (.d (.int .i64 n))
    | some y=>(toSl y).bind fun l=>out (.d (.int .i64 l.length))
    | _=>none
  | .slen x=>match ev x with
    | some (.d (.str s))=>out (.d (.int .i64 s.length))
    | _=>none
  | .cap x=>match ev x with
    | some (.sl _ _ _ c _)=>out (.d (.int .i64 c))
    | some (.win xs _)=>out (.d (.int .i64 xs.length))
    | some .nils=>out (.d (.int .i64 0))
    | _=>none
  | .mm b xs=>match (allAV ev xs).bind (mmA b) with
    | some (k,n)=>out (.d (.int k n))
    | none=>none
  | .load x z g=>(ev x).bind fun y=>loadA H y z g
  | .nilchk x=>match ev x with
    | some (.ptr l o)=>out (.ptr l o)
    | some (.cp d o)=>out (.cp d o)
    | some (.fn f cs)=>out (.fn f cs)
    | some (.d (.fn f))=>out (.d (.fn f))
    | some (.lf l)=>out (.lf l)
    | _=>none
  | .mkfn f cs=>match allAV ev cs with
    | some []=>out (.d (.fn f))
    | some l=>out (.fn f l)
    | none=>none
  | .alloc zz=>some ⟨.ptr nl 0,[],[(nl,.cells (zz.map zAV))],True⟩
  | .box x=>match (ev x).bind cellsAV with
    | some cs=>some ⟨.ptr nl 0,[],[(nl,.cells cs)],True⟩
    | none=>none
  | .store x v z=>match ev x,(ev v).bind cellsAV with
    | some (.ptr l off),some cs=>(match lkH H l with
      | some (.cells L)=>some ⟨.any,[(l,.cells L)],[(l,.cells (upd L off cs))],cs.length = z∧off + z≤L.length∧cs.all AV.scalar = true⟩
      | _=>none)
    | _,_=>none
  | .app x y z by' zz=>match ev x,(ev y).bind toSrc with
    | some .nils,some ys =>
      bif own then some ⟨.ap nl z ys,[],[(nl,.tok (ys.length * z))],zz.length = z∧0 < by'∧ys.length * by'≤281474976710656∧∀ d∈ys,d.cells.length = z⟩
      else some ⟨.d (.sl ys),[],[],zz.length = z∧0 < by'∧ys.length * by'≤281474976710656∧∀ d∈ys,d.cells.length = z⟩
    | some (.ap l z' xs),some ys=>bif Nat.beq z z' then (match lkH H l with
      | some (.tok n)=>some ⟨.ap nl z (xs ++ ys),[(l,.tok n)],[(nl,.tok ((xs ++ ys).length * z))],
          nl≠l∧n = xs.length * z∧zz.length = z∧0 < by'∧(xs.length + ys.length) * 2 * by'≤281474976710656∧∀ d∈ys,d.cells.length = z⟩
      | _=>none) else none
    | some (.sl l 0 n cap z'),some ys=>bif Nat.beq z z' then (match lkH H l with
      | some (.cells L)=>some ⟨.sl l 0 (n + ys.length) cap z,[(l,.cells L)],[(l,.cells (upd L (n * z) ((flat ys).map .d)))],
          zz.length = z∧0 < by'∧n + ys.length≤cap∧cap * z≤L.length∧∀ d∈ys,d.cells.length = z⟩
      | _=>none) else none
    | _,_=>none
  | .bslice n z zz ps=>bif natListBeq (ps.map (·.1)) (List.range n) then (match allAV ev (ps.map (·.2)) with
      | some vs=>bif own then (match cellsAll vs with
          | some cs=>some ⟨.sl nl 0 n n z,[],[(nl,.cells cs)],zz.length = z∧n * z≤16777216∧∀ x∈vs,(cellsAV x).map (·.length) = some z⟩
          | none=>none)
        else (match toEs vs with
          | some ds=>some ⟨.d (.sl ds),[],[],zz.length = z∧n * z≤16777216∧∀ d∈ds,d.cells.length = z⟩
          | none=>none)
      | none=>none) else none
  | .mksl l c z by' zz=>match ev l,ev c with
    | some (.d (.int _ ln)),some (.d (.int _ cn)) =>
      bif own then some ⟨.sl nl 0 ln.toNat cn.toNat z,[],[(nl,.cells (List.replicate cn.toNat (zz.map zAV)).flatten)],0≤ln∧ln≤cn∧cn * by'≤281474976710656∧0 < by'∧zz.length = z⟩
      else some ⟨.d (.sl (List.replicate ln.toNat (zElem zz))),[],[],0≤ln∧ln≤cn∧cn * by'≤281474976710656∧0 < by'∧zz.length = z∧0 < z⟩
    | _,_=>none
  | .ssl x lo hi=>match ev x,oInt ev 0 lo with
    | some (.d (.str s)),some l=>(oInt ev s.length hi).bind fun h=>out (.d (.str ((s.take h.toNat).drop l.toNat))) (0≤l∧l≤h∧h≤s.length)
    | _,_=>none
  | .slc x lo hi none z=>match ev x,oInt ev 0 lo with
    | some (.sl b off len cap z'),some l=>bif Nat.beq z z' then (oInt ev len hi).bind fun h =>
        out (.sl b (off + l.toNat * z) (h.toNat - l.toNat) (cap - l.toNat) z) (0≤l∧l≤h∧h≤cap∧(l = 0∨l < cap)) else none
    | some (.win xs n),some l=>(match lo with
      | none=>(oInt ev n hi).bind fun h=>out (.win xs h.toNat) (0≤h∧h≤xs.length)
      | some _=>(oInt ev ((xs.take n).length:Nat) hi).bind fun h=>out (.d (.sl (((xs.take n).take h.toNat).drop l.toNat))) (0≤l∧l≤h∧h≤(xs.take n).length∧∀ d∈xs.take n,d.cells.length = z))
    | some y,some l=>(toSl y).bind fun ys=>(oInt ev ys.length hi).bind fun h=>out (.d (.sl ((ys.take h.toNat).drop l.toNat))) (0≤l∧l≤h∧h≤ys.length∧∀ d∈ys,d.cells.length = z)
    | _,_=>none
  | .build zz ps=>match buildF ev (zz.map zAV) ps with
    | some (L,s)=>out (mkAgg L) s
    | none=>none
  | .s2bs x=>match ev x with
    | some (.d (.str s))=>out (.d (bytesD s))
    | _=>none
  | .bs2bs x=>match ev x with
    | some (.sl l 0 n cap 1)=>(match lkH H l with
      | some (.cells L)=>(match toDs L with
        | some ds=>some ⟨.d (.sl ds),[(l,.cells L)],[],n = ds.length∧n≤cap⟩
        | none=>none)
      | _=>none)
    | _=>none
  | _=>none

section
variable {P:Program} {args:List (Nat×AV)} {H:AHeap} {o:Oper} {own:Bool} {nl:Nat} {q:Out}

theorem argV {S:Seal} {i:Emb} {ρ:Operand→Value} (hev:∀ x a,evL args x = some a→V S i a (ρ x)) {x:Operand} {a:Arg} (ha:argA x = some a) {y:AV} (hy:evA args a = some y) :
    V S i y (ρ x):=hev x y ((evA_of ha).trans hy)

theorem ok_mv {x:Operand} (hop:o.op = .move x∨o.op = .assign x) (h:evOp own nl (evA args) H (compOp P o.op) = some q):OpT P (evL args) o q.hin q.r q.hout:=by
  have h':evOp own nl (evA args) H (match argA x with | some a=>.mv a | none=>.bad) = some q:=by
    rcases hop with hop | hop <;> rw [hop] at h <;> exact h
  cases hx:argA x with
  | none=>rw [hx] at h'; cases h'
  | some a =>
    rw [hx] at h'
    simp only [evOp,Option.bind_eq_some_iff,out] at h'
    obtain ⟨r,hr,h'⟩:=h'
    cases h'
    refine .pure (by rcases hop with hop | hop <;> simp [hop]) fun S i w ρ hev hh=>⟨ρ x,?_,argV hev hx hr⟩
    rcases hop with hop | hop <;> simp [execOp,hop]

theorem ok_pick {c a b:Operand} (hop:o.op = .pick c a b) (h:evOp own nl (evA args) H (compOp P o.op) = some q):OpT P (evL args) o q.hin q.r q.hout:=by
  rw [hop] at h
  simp only [compOp] at h
  cases hc:argA c <;> cases ha:argA a <;> cases hb:argA b <;> rw [hc,ha,hb] at h <;> try cases h
  rename_i c' a' b'
  simp only [evOp] at h
  split at h
  · rename_i cb hcb
    simp only [Option.bind_eq_some_iff,out] at h
    obtain ⟨r,hr,h⟩:=h
    cases h
    refine .pure (by simp [hop]) fun S i w ρ hev hh=>⟨if cb then ρ a else ρ b,?_,?_⟩
    · have:=vBool (argV hev hc hcb)
      simp [execOp,hop,this,asBool]
    · cases cb
      · exact argV hev hb hr
      · exact argV hev ha hr
  · cases h

theorem run_eqGuard {op:BinOp} {t:TypeId} {x y:Operand} {u v:Value} {w:World} (h:∀ a b,¬ (u = .agg a∧v = .agg b)) (h':¬ (u = .nilIface∧v = .nilIface)) :
    (eqGuard op t x y u v).run P w = .ok () w:=by
  cases op <;> try rfl
  all_goals (cases u <;> cases v <;> first | rfl | exact absurd ⟨rfl,rfl⟩ h' | exact absurd ⟨rfl,rfl⟩ (h _ _))

def eqA (d:TypeDesc) (u v:Value):Option Bool :=
  match d,u,v with
  | .bool,.bool a,.bool b=>some (a == b)
  | .pointer _,.pointer none,.pointer b=>some b.isNone
  | .pointer _,.pointer (some _),.pointer none=>some false
  | .slice _,.slice none _ _,.slice b _ _=>some b.isNone
  | .slice _,.slice (some _) _ _,.slice none _ _=>some false
  | .map _ _,.map none,.map b=>some b.isNone
  | .map _ _,.map (some _),.map none=>some false
  | .func _ _ _,.nilFunc,.nilFunc=>some true
  | .func _ _ _,.nilFunc,.func _ _ _=>some false
  | .func _ _ _,.func _ _ _,.nilFunc=>some false
  | _,_,_=>none
theorem run_equalIn {k:Nat} {t:TypeId} {d:TypeDesc} {w:World} {u v:Value} {b:Bool} (hd:P.underlying t = some d) (h:eqA d u v = some b) :
    (Op.equalIn (k + 1) t u v).run P w = .ok b w:=by
  have hu:(underlying t).run P w = .ok d w:=by simp [underlying,hd]
  rw [Op.equalIn]
  simp only [Sem.run_bind,hu,Result.andThen_ok]
  unfold eqA at h
  split at h <;> cases h
  all_goals rfl
theorem run_equal {t:TypeId} {d:TypeDesc} {w:World} {u v:Value} {b:Bool} (hd:P.underlying t = some d) (h:eqA d u v = some b) :
    (Op.equal t u v).run P w = .ok b w:=run_equalIn (k:=9999) hd h

theorem eqA_plain {d:TypeDesc} {u v:Value} {r:Bool} (h:eqA d u v = some r):(∀ a b,¬ (u = .agg a∧v = .agg b))∧¬ (u = .nilIface∧v = .nilIface):=by
  unfold eqA at h
  split at h <;> first | cases h | skip
  all_goals exact ⟨(by intro a b hab; cases hab.1),(by intro hab; cases hab.1)⟩
theorem eqA_bin {d:TypeDesc} {t:TypeId} {u v:Value} {r:Bool} {w:World} (h:eqA d u v = some r) (hq:(Op.equal t u v).run P w = .ok r w) :
    (binOp .eql t u v).run P w = .ok (.bool r) w∧(binOp .neq t u v).run P w = .ok (.bool !r) w:=by
  unfold eqA at h
  split at h <;> first | cases h | skip
  all_goals (constructor <;> simp only [binOp,Sem.run_bind,hq,Result.andThen_ok] <;> rfl)

theorem nil0_ok {S:Seal} {i:Emb} {a:AV} {u:Value} (h:V S i a u):(nil0 a = some true→u = .slice none 0 0)∧(nil0 a = some false→∃ b n c,u = .slice (some b) n c):=by
  constructor
  · intro hn
    unfold nil0 at hn
    split at hn <;> cases hn
    cases h; rfl
  · intro hn
    unfold nil0 at hn
    split at hn <;> cases hn
    · rcases dSlice (vD h) with ⟨h0,_⟩ | ⟨b,o,cap,z,f,hv,_⟩ | ⟨h0,_⟩
      · cases h0
      · exact ⟨_,_,_,hv⟩
      · cases h0
    · cases h; exact ⟨_,_,_,rfl⟩
    · cases h; exact ⟨_,_,_,rfl⟩
    · cases h; exact ⟨_,_,_,rfl⟩
theorem nil1_ok {S:Seal} {i:Emb} {a:AV} {u:Value} (h:V S i a u):(nil1 a = some true→u = .pointer none)∧(nil1 a = some false→∃ b,u = .pointer (some b)):=by
  constructor
  · intro hn
    unfold nil1 at hn
    split at hn <;> cases hn
    cases vD h; rfl
  · intro hn
    unfold nil1 at hn
    split at hn <;> cases hn <;> cases h <;> exact ⟨_,rfl⟩
theorem nil2_ok {S:Seal} {i:Emb} {a:AV} {u:Value} (h:V S i a u):(nil2 a = some true→u = .nilFunc)∧(nil2 a = some false→∃ f x y,u = .func f x y):=by
  constructor
  · intro hn
    unfold nil2 at hn
    split at hn <;> cases hn
    cases vD h; rfl
  · intro hn
    unfold nil2 at hn
    split at hn <;> cases hn
    · cases vD h; exact ⟨_,_,_,rfl⟩
    · cases h; exact ⟨_,_,_,rfl⟩
    · cases h; exact ⟨_,_,_,rfl⟩
theorem nilEq_ok {c:Nat} {a b:AV} {r:Bool} (h:nilEq c a b = some r):(nilOf c a = some true∧nilOf c b = some r)∨(nilOf c a = some r∧nilOf c b = some true):=by
  unfold nilEq at h
  split at h
  · cases h; exact .inl ⟨by assumption,by assumption⟩
  · cases h; exact .inr ⟨by assumption,by assumption⟩
  · cases h
theorem nilEq0 {S:Seal} {i:Emb} {a b:AV} {u v:Value} {r:Bool} {e:TypeId} (h:nilEq 0 a b = some r) (ha:V S i a u) (hb:V S i b v):eqA (.slice e) u v = some r:=by
  rcases nilEq_ok h with ⟨h1,h2⟩ | ⟨h1,h2⟩
  · have e1:=(nil0_ok ha).1 h1; subst e1
    cases r
    · obtain ⟨_,_,_,e2⟩:=(nil0_ok hb).2 h2; subst e2; rfl
    · have e2:=(nil0_ok hb).1 h2; subst e2; rfl
  · have e1:=(nil0_ok hb).1 h2; subst e1
    cases r
    · obtain ⟨_,_,_,e2⟩:=(nil0_ok ha).2 h1; subst e2; rfl
    · have e2:=(nil0_ok ha).1 h1; subst e2; rfl
theorem nilEq1 {S:Seal} {i:Emb} {a b:AV} {u v:Value} {r:Bool} {e:TypeId} (h:nilEq 1 a b = some r) (ha:V S i a u) (hb:V S i b v):eqA (.pointer e) u v = some r:=by
  rcases nilEq_ok h with ⟨h1,h2⟩ | ⟨h1,h2⟩
  · have e1:=(nil1_ok ha).1 h1; subst e1
    cases r
    · obtain ⟨_,e2⟩:=(nil1_ok hb).2 h2; subst e2; rfl
    · have e2:=(nil1_ok hb).1 h2; subst e2; rfl
  · have e1:=(nil1_ok hb).1 h2; subst e1
    cases r
    · obtain ⟨_,e2⟩:=(nil1_ok ha).2 h1; subst e2; rfl
    · have e2:=(nil1_ok ha).1 h1; subst e2; rfl
theorem nilEq2 {S:Seal} {i:Emb} {a b:AV} {u v:Value} {r:Bool} {x y:Array TypeId} {z:Bool} (h:nilEq 2 a b = some r) (ha:V S i a u) (hb:V S i b v):eqA (.func x y z) u v = some r:=by
  rcases nilEq_ok h with ⟨h1,h2⟩ | ⟨h1,h2⟩
  · have e1:=(nil2_ok ha).1 h1; subst e1
    cases r
    · obtain ⟨_,_,_,e2⟩:=(nil2_ok hb).2 h2; subst e2; rfl
    · have e2:=(nil2_ok hb).1 h2; subst e2; rfl
  · have e1:=(nil2_ok hb).1 h2; subst e1
    cases r
    · obtain ⟨_,_,_,e2⟩:=(nil2_ok ha).2 h1; subst e2; rfl
    · have e2:=(nil2_ok ha).1 h1; subst e2; rfl

theorem und_some {t:TypeId} {d:TypeDesc} (h:und P t = d) (hd:d≠.invalid):P.underlying t = some d:=by
  unfold und at h
  cases hu:P.underlying t with
  | none=>rw [hu] at h; exact absurd h.symm hd
  | some e=>rw [hu] at h; simp at h; rw [h]

theorem ok_bin {op:BinOp} {t:TypeId} {x y:Operand} {t':TypeId} (hop:o.op = .binOp op t x y t') (h:evOp own nl (evA args) H (compOp P o.op) = some q) (hs:q.side) :
    OpT P (evL args) o q.hin q.r q.hout:=by
  rw [hop] at h
  simp only [compOp] at h
  cases hx:argA x <;> cases hy:argA y <;> rw [hx,hy] at h <;> try cases h
  rename_i x' y'
  have key:∀ (u v:D),evA args x' = some (.d u)→evA args y' = some (.d v)→∀ r s,binA op u v = some (r,s)→s→q = ⟨.d r,[],[],s⟩→OpT P (evL args) o q.hin q.r q.hout:=by
    intro u v hu hv r s hb hs hq
    subst hq
    refine .pure (by simp [hop]) fun S i w ρ hev hh=>?_
    have h1:=vD (argV hev hx hu)
    have h2:=vD (argV hev hy hv)
    obtain ⟨z,hz,hz'⟩:=binA_ok (P:=P) (w:=w) (t:=t) hb hs h1 h2
    refine ⟨z,?_,.d hz'⟩
    have hg:(eqGuard op t x y (ρ x) (ρ y)).run P w = .ok () w:=by
      refine run_eqGuard ?_ ?_
      · rintro a b ⟨ha,hb'⟩
        rw [ha] at h1
        cases h1
        simp [binA] at hb
      · rintro ⟨ha,hb'⟩
        rw [ha] at h1
        cases h1
        simp [binA] at hb
    simp only [execOp,hop,Sem.run_bind,hg,Result.andThen_ok,hz]
    rfl
  have go:∀ ao,(ao = AOp.bin op x' y')→evOp own nl (evA args) H ao = some q→OpT P (evL args) o q.hin q.r q.hout:=by
    intro ao hao h
    subst hao
    simp only [evOp] at h
    split at h
    · rename_i u v hu hv
      simp only [Option.bind_eq_some_iff,out] at h
      obtain ⟨⟨r,s⟩,hb,h⟩:=h
      cases h
      exact key u v hu hv r s hb hs rfl
    · cases h
  -- one of them is nil
  have nilCase:∀ c {d},P.underlying t = some d→(∀ {S i a b u v r},nilEq c a b = some r→V S i a u→V S i b v→eqA d u v = some r) →
      (op = .eql∧evOp own nl (evA args) H (.nileq c false x' y') = some q∨op = .neq∧evOp own nl (evA args) H (.nileq c true x' y') = some q)→OpT P (evL args) o q.hin q.r q.hout:=by
    intro c d hd hnil hcase
    have main:∀ neg,(op = .eql∧neg = false∨op = .neq∧neg = true)→evOp own nl (evA args) H (.nileq c neg x' y') = some q→OpT P (evL args) o q.hin q.r q.hout:=by
      intro neg hneg h
      simp only [evOp] at h
      split at h
      · rename_i a b ha hb
        simp only [Option.bind_eq_some_iff,out] at h
        obtain ⟨r,hr,h⟩:=h
        cases h
        refine .pure (by simp [hop]) fun S i w ρ hev hh=>⟨.bool (bif neg then !r else r),?_,.d .bool⟩
        have he:=hnil hr (argV hev hx ha) (argV hev hy hb)
        have hq:=run_equal (P:=P) (w:=w) hd he
        have hg:(eqGuard op t x y (ρ x) (ρ y)).run P w = .ok () w:=run_eqGuard (eqA_plain he).1 (eqA_plain he).2
        have hbin:=eqA_bin (P:=P) (w:=w) he hq
        rcases hneg with ⟨rfl,rfl⟩ | ⟨rfl,rfl⟩
        · simp only [execOp,hop,Sem.run_bind,hg,Result.andThen_ok,hbin.1]; rfl
        · simp only [execOp,hop,Sem.run_bind,hg,Result.andThen_ok,hbin.2]; rfl
      · cases h
    rcases hcase with ⟨ho,h⟩ | ⟨ho,h⟩
    · exact main false (.inl ⟨ho,rfl⟩) h
    · exact main true (.inr ⟨ho,rfl⟩) h
  simp only [compBin] at h
  split at h
  · exact go _ rfl h
  · exact go _ rfl h
  · -- bools
    rename_i hund
    have hu:=und_some hund (by simp)
    have go2:∀ neg,(op = .eql∧neg = false∨op = .neq∧neg = true)→evOp own nl (evA args) H (.beq neg x' y') = some q→OpT P (evL args) o q.hin q.r q.hout:=by
      intro neg hneg h
      simp only [evOp] at h
      split at h
      · rename_i a b ha hb
        cases h
        refine .pure (by simp [hop]) fun S i w ρ hev hh=>⟨.bool (bif neg then !(a == b) else a == b),?_,.d .bool⟩
        have h1:=vBool (argV hev hx ha)
        have h2:=vBool (argV hev hy hb)
        have hg:(eqGuard op t x y (ρ x) (ρ y)).run P w = .ok () w:=run_eqGuard (by rw [h1]; simp) (by rw [h1]; simp)
        have he:=run_equal (P:=P) (w:=w) (u:=.bool a) (v:=.bool b) (b:=a == b) hu rfl
        have hbin:=eqA_bin (P:=P) (w:=w) (d:=.bool) (u:=.bool a) (v:=.bool b) rfl he
        rw [←h1,←h2] at hbin
        rcases hneg with ⟨rfl,rfl⟩ | ⟨rfl,rfl⟩
        · simp only [execOp,hop,Sem.run_bind,hg,Result.andThen_ok,hbin.1]; rfl
        · simp only [execOp,hop,Sem.run_bind,hg,Result.andThen_ok,hbin.2]; rfl
      · cases h
    split at h
    · exact go2 _ (.inl ⟨rfl,rfl⟩) h
    · exact go2 _ (.inr ⟨rfl,rfl⟩) h
    · cases h
  · rename_i e hund
    refine nilCase 0 (und_some hund (by simp)) nilEq0 ?_
    split at h
    · exact .inl ⟨rfl,h⟩
    · exact .inr ⟨rfl,h⟩
    · cases h
  · rename_i e hund
    refine nilCase 1 (und_some hund (by simp)) nilEq1 ?_
    split at h
    · exact .inl ⟨rfl,h⟩
    · exact .inr ⟨rfl,h⟩
    · cases h
  · rename_i e1 e2 e3 hund
    refine nilCase 2 (und_some hund (by simp)) nilEq2 ?_
    split at h
    · exact .inl ⟨rfl,h⟩
    · exact .inr ⟨rfl,h⟩
    · cases h
  · rename_i k e hund
    refine nilCase 3 (und_some hund (by simp)) (fun h=>by simp [nilEq,nilOf] at h) ?_
    split at h
    · exact .inl ⟨rfl,h⟩
    · exact .inr ⟨rfl,h⟩
    · cases h
  · split at h
    · split at h
      · split at h <;> cases h
      · cases h
    · cases h
  · cases h
end
end Go.Proofs.Abs
end
section
namespace Go.Proofs.Abs
open Go
section
variable {P:Program} {args:List (Nat×AV)} {H:AHeap} {o:Oper} {own:Bool} {nl:Nat} {q:Out}

theorem ok_un {op:UnOp} {t:TypeId} {x:Operand} (hop:o.op = .unOp op t x) (h:evOp own nl (evA args) H (compOp P o.op) = some q):OpT P (evL args) o q.hin q.r q.hout:=by
  rw [hop] at h
  simp only [compOp] at h
  cases hx:argA x <;> rw [hx] at h <;> try cases h
  simp only [evOp] at h
  split at h <;> first | cases h | skip
  · rename_i b hb
    refine .pure (by simp [hop]) fun S i w ρ hev hh=>⟨_,?_,.d .bool⟩
    have:=vBool (argV hev hx hb)
    simp only [execOp,hop,this,Op.unary]; rfl
  · rename_i k n hb
    refine .pure (by simp [hop]) fun S i w ρ hev hh=>⟨_,?_,.d .int⟩
    have:=vInt (argV hev hx hb)
    simp only [execOp,hop,this,Op.unary,Op.intArith]; rfl
  · rename_i k n hb
    refine .pure (by simp [hop]) fun S i w ρ hev hh=>⟨_,?_,.d .int⟩
    have:=vInt (argV hev hx hb)
    simp only [execOp,hop,this,Op.unary,Op.intBits]; rfl

theorem ok_ext {x:Operand} {k:Nat} (hop:o.op = .extract x k) (h:evOp own nl (evA args) H (compOp P o.op) = some q):OpT P (evL args) o q.hin q.r q.hout:=by
  rw [hop] at h
  simp only [compOp] at h
  cases hx:argA x <;> rw [hx] at h <;> try cases h
  simp only [evOp] at h
  split at h <;> first | cases h | skip
  rename_i l hl
  simp only [Option.bind_eq_some_iff,out] at h
  obtain ⟨r,hr,h⟩:=h
  cases h
  refine .pure (by simp [hop]) fun S i w ρ hev hh=>?_
  have hv:=argV hev hx hl
  generalize hu:ρ x = u at hv
  cases hv with
  | tup hlen hall =>
    rename_i vs
    obtain ⟨hk,hr⟩:=List.getElem?_eq_some_iff.1 hr
    have hk':k < vs.length:=hlen ▸ hk
    refine ⟨vs[k],?_,hr ▸ hall k hk hk'⟩
    simp [execOp,hop,hu,Instr.extract,hk']

theorem run_und {t:TypeId} {d:TypeDesc} {w:World} (h:P.underlying t = some d):(underlying t).run P w = .ok d w:=by simp [underlying,h]
theorem run_sizeOf {t:TypeId} {j:TypeInfo} {w:World} (h:P.info? t = some j):(sizeOf t).run P w = .ok j.size w:=by simp [sizeOf,typeInfo,h]
theorem run_typeInfo {t:TypeId} {j:TypeInfo} {w:World} (h:P.info? t = some j):(typeInfo t).run P w = .ok j w:=by simp [typeInfo,h]

theorem argsA_all:∀ {l:List Operand} {as:List Arg},argsA l = some as→l.length = as.length∧∀ j (h1:j < l.length) (h2:j < as.length),argA l[j] = some as[j]
  | [],as,h=>by cases h; simp
  | x :: r,as,h=>by
    simp only [argsA] at h
    split at h <;> first | cases h | skip
    rename_i a l ha hl
    obtain ⟨h1,h2⟩:=argsA_all hl
    refine ⟨by simp [h1],fun j h3 h4=>?_⟩
    cases j with
    | zero=>exact ha
    | succ j=>exact h2 j (by simpa using h3) (by simpa using h4)
theorem argsA_one {l:List Operand} {a:Arg} (h:argsA l = some [a]):∃ x,l = [x]∧argA x = some a:=by
  obtain ⟨h1,h2⟩:=argsA_all h
  match l,h1 with
  | [x],_=>exact ⟨x,rfl,h2 0 (by simp) (by simp)⟩
theorem argsA_two {l:List Operand} {a b:Arg} (h:argsA l = some [a,b]):∃ x y,l = [x,y]∧argA x = some a∧argA y = some b:=by
  obtain ⟨h1,h2⟩:=argsA_all h
  match l,h1 with
  | [x,y],_=>exact ⟨x,y,rfl,h2 0 (by simp) (by simp),h2 1 (by simp) (by simp)⟩

inductive CallK (P:Program) (c:Call):AOp→Prop
  | len {x a t e ts} (hc:c.callee = .builtin .len) (ha:c.args.toList = [x]) (hx:argA x = some a) (ht:c.argTypes.toList = t :: ts) (hu:und P t = .slice e):CallK P c (.len a)
  | slen {x a t ts} (hc:c.callee = .builtin .len) (ha:c.args.toList = [x]) (hx:argA x = some a) (ht:c.argTypes.toList = t :: ts) (hu:und P t = .string):CallK P c (.slen a)
  | cap {x a t e ts} (hc:c.callee = .builtin .cap) (ha:c.args.toList = [x]) (hx:argA x = some a) (ht:c.argTypes.toList = t :: ts) (hu:und P t = .slice e):CallK P c (.cap a)
  | app {x y a b t u e ts zz j} (hc:c.callee = .builtin .append) (ha:c.args.toList = [x,y]) (hx:argA x = some a) (hy:argA y = some b) (ht:c.argTypes.toList = t :: u :: ts)
      (hu:und P t = .slice e) (hu2:(∃ e',und P u = .slice e')∨und P u = .string) (hz:zeroA P e = some zz) (hj:P.info? e = some j):CallK P c (.app a b j.size j.bytes zz)
  | grow {x y a b t u e k ts zz j} (hc:c.callee = .builtin .append) (ha:c.args.toList = [x,y]) (hx:argA x = some a) (hy:argA y = some b) (ht:c.argTypes.toList = t :: u :: ts)
      (hu:und P t = .slice e) (hu2:und P u = .int k) (hz:zeroA P e = some zz) (hj:P.info? e = some j):CallK P c (.grow a b j.size j.bytes zz)
  | copy {x y a b t e ts j} (hc:c.callee = .builtin .copy) (ha:c.args.toList = [x,y]) (hx:argA x = some a) (hy:argA y = some b) (ht:c.argTypes.toList = t :: ts)
      (hu:und P t = .slice e) (hj:P.info? e = some j):CallK P c (.copy a b j.size)
  | max {l} (hc:c.callee = .builtin .max) (ha:argsA c.args.toList = some l):CallK P c (.mm true l)
  | min {l} (hc:c.callee = .builtin .min) (ha:argsA c.args.toList = some l):CallK P c (.mm false l)
  | call {f g l} (hc:c.callee = .value f) (hf:argA f = some g) (ha:argsA c.args.toList = some l):CallK P c (.call g l)

theorem compCall_inv {c:Call}:compCall P c = .bad∨CallK P c (compCall P c):=by
  unfold compCall
  split
  · split
    · exact .inr (.call (by assumption) (by assumption) (by assumption))
    · exact .inl rfl
  · exact .inl rfl
  · rename_i b hc
    split
    · rename_i x t ts ha ht
      obtain ⟨y,h1,h2⟩:=argsA_one ha
      split
      · rename_i hu; exact .inr (.slen hc h1 h2 ht hu)
      · rename_i hu; exact .inr (.len hc h1 h2 ht hu)
      · exact .inl rfl
    · rename_i x t ts ha ht
      obtain ⟨y,h1,h2⟩:=argsA_one ha
      split
      · rename_i hu; exact .inr (.cap hc h1 h2 ht hu)
      · exact .inl rfl
    · rename_i x y t u ts ha ht
      obtain ⟨x',y',h1,h2,h3⟩:=argsA_two ha
      split
      · rename_i hu hu2
        split
        · rename_i hz
          unfold sbK
          split
          · rename_i hj; exact .inr (.app hc h1 h2 h3 ht hu (.inl ⟨_,hu2⟩) hz hj)
          · exact .inl rfl
        · exact .inl rfl
      · rename_i hu hu2
        split
        · rename_i hz
          unfold sbK
          split
          · rename_i hj; exact .inr (.app hc h1 h2 h3 ht hu (.inr hu2) hz hj)
          · exact .inl rfl
        · exact .inl rfl
      · rename_i hu hu2
        split
        · rename_i hz
          unfold sbK
          split
          · rename_i hj; exact .inr (.grow hc h1 h2 h3 ht hu hu2 hz hj)
          · exact .inl rfl
        · exact .inl rfl
      · exact .inl rfl
    · rename_i x y t ts ha ht
      obtain ⟨x',y',h1,h2,h3⟩:=argsA_two ha
      split
      · rename_i hu
        unfold szK
        split
        · rename_i hj; exact .inr (.copy hc h1 h2 h3 ht hu hj)
        · exact .inl rfl
      · exact .inl rfl
    · exact .inr (.max hc (by assumption))
    · exact .inr (.min hc (by assumption))
    · exact .inl rfl

theorem arr1 {α:Type} {a:Array α} {x:α} (h:a.toList = [x]):a = #[x]:=by rw [←Array.toList_inj]; simpa using h
theorem arr2 {α:Type} {a:Array α} {x y:α} (h:a.toList = [x,y]):a = #[x,y]:=by rw [←Array.toList_inj]; simpa using h
theorem arr0 {α:Type} {a:Array α} {x:α} {l:List α} (h:a.toList = x :: l):a[0]? = some x:=by rw [←Array.getElem?_toList,h]; rfl

theorem ok_len {c:Call} {a:Arg} {x:Operand} {t e:TypeId} {ts:List TypeId} (hop:o.op = .call c) (hc:c.callee = .builtin .len) (ha:c.args.toList = [x]) (hx:argA x = some a)
    (ht:c.argTypes.toList = t :: ts) (hu:und P t = .slice e) (h:evOp own nl (evA args) H (.len a) = some q):OpT P (evL args) o q.hin q.r q.hout:=by
  have hty:=arr0 ht
  have hund:=und_some hu (by simp)
  have key:∀ (y:AV) (n:Nat),evA args a = some y→q = ⟨.d (.int .i64 n),[],[],True⟩→(∀ {S i v},V S i y v→∃ b c,v = .slice b n c)→OpT P (evL args) o q.hin q.r q.hout:=by
    intro y n hy hq hv
    subst hq
    refine .pure (by simp [hop]) fun S i w ρ hev hh=>⟨_,?_,.d .int⟩
    obtain ⟨b,c',hval⟩:=hv (argV hev hx hy)
    simp only [execOp,hop,resolve,hc,arr1 ha,List.map_toArray,List.map_cons,List.map_nil,hval]
    simp [invoke,builtin,Builtin.len_,hty,run_und hund,goInt]
  simp only [evOp] at h
  split at h
  · rename_i l off n c z hy
    cases h
    exact key _ n hy rfl fun hv=>by cases hv; exact ⟨_,_,rfl⟩
  · rename_i y _ hy
    simp only [Option.bind_eq_some_iff,out] at h
    obtain ⟨l,hl,h⟩:=h
    cases h
    exact key _ _ hy rfl fun hv=>by
      rcases dSlice (toSl_ok hl hv) with ⟨rfl,h0⟩ | ⟨b,o,cap,z,f,h0,_⟩ | ⟨rfl,a,h0⟩
      · exact ⟨_,_,h0⟩
      · exact ⟨_,_,h0⟩
      · exact ⟨_,_,h0⟩
  · cases h
theorem ok_cap {c:Call} {a:Arg} {x:Operand} {t e:TypeId} {ts:List TypeId} (hop:o.op = .call c) (hc:c.callee = .builtin .cap) (ha:c.args.toList = [x]) (hx:argA x = some a)
    (ht:c.argTypes.toList = t :: ts) (hu:und P t = .slice e) (h:evOp own nl (evA args) H (.cap a) = some q):OpT P (evL args) o q.hin q.r q.hout:=by
  have hty:=arr0 ht
  have hund:=und_some hu (by simp)
  simp only [evOp] at h
  split at h
  · rename_i l off n c z hy
    cases h
    refine .pure (by simp [hop]) fun S i w ρ hev hh=>⟨_,?_,.d .int⟩
    have hv:=argV hev hx hy
    generalize hval:ρ x = u at hv
    cases hv
    simp only [execOp,hop,resolve,hc,arr1 ha,List.map_toArray,List.map_cons,List.map_nil,hval]
    simp [invoke,builtin,Builtin.cap_,hty,run_und hund,goInt]
  · rename_i xs n hy
    cases h
    refine .pure (by simp [hop]) fun S i w ρ hev hh=>⟨_,?_,.d .int⟩
    have hv:=argV hev hx hy
    generalize hval:ρ x = u at hv
    cases hv
    simp only [execOp,hop,resolve,hc,arr1 ha,List.map_toArray,List.map_cons,List.map_nil,hval]
    simp [invoke,builtin,Builtin.cap_,hty,run_und hund,goInt]
  · rename_i hy
    cases h
    refine .pure (by simp [hop]) fun S i w ρ hev hh=>⟨_,?_,.d .int⟩
    have hv:=argV hev hx hy
    generalize hval:ρ x = u at hv
    cases hv
    simp only [execOp,hop,resolve,hc,arr1 ha,List.map_toArray,List.map_cons,List.map_nil,hval]
    simp [invoke,builtin,Builtin.cap_,hty,run_und hund,goInt]
  · cases h
theorem ok_slen {c:Call} {a:Arg} {x:Operand} {t:TypeId} {ts:List TypeId} (hop:o.op = .call c) (hc:c.callee = .builtin .len) (ha:c.args.toList = [x]) (hx:argA x = some a)
    (ht:c.argTypes.toList = t :: ts) (hu:und P t = .string) (h:evOp own nl (evA args) H (.slen a) = some q):OpT P (evL args) o q.hin q.r q.hout:=by
  have hty:=arr0 ht
  have hund:=und_some hu (by simp)
  simp only [evOp] at h
  split at h
  · rename_i s hy
    cases h
    refine .pure (by simp [hop]) fun S i w ρ hev hh=>⟨.int .i64 s.length,?_,.d .int⟩
    have hval:=vStr (argV hev hx hy)
    simp only [execOp,hop,resolve,hc,arr1 ha,List.map_toArray,List.map_cons,List.map_nil,hval]
    have hsz:(⟨s.toArray⟩:ByteArray).size = s.length:=by simp [ByteArray.size]
    simp [invoke,builtin,Builtin.len_,hty,run_und hund,goInt,hsz]
  · cases h
end
end Go.Proofs.Abs
end
section
namespace Go.Proofs.Abs
open Go
section
variable {P:Program} {args:List (Nat×AV)} {H:AHeap} {o:Oper} {own:Bool} {nl:Nat} {q:Out}

theorem lkH_mem {H:AHeap} {l:Nat} {x:AObj} (h:lkH H l = some x):(l,x)∈H:=by
  induction H with
  | nil=>cases h
  | cons p r ih =>
    obtain ⟨k,v⟩:=p
    simp only [lkH] at h
    cases hb:Nat.beq k l with
    | true =>
      rw [hb] at h
      cases h
      cases Nat.eq_of_beq_eq_true hb
      exact List.mem_cons_self
    | false =>
      rw [hb] at h
      exact List.mem_cons_of_mem _ (ih h)

theorem run_isAgg {t:TypeId} {d:TypeDesc} {w:World} (h:P.underlying t = some d):(isAgg t).run P w = .ok (isAggD d) w:=by
  unfold isAgg
  rw [Sem.run_bind,run_und h]
  cases d <;> rfl

theorem run_loadAgg {t:TypeId} {d:TypeDesc} {j:TypeInfo} {w:World} {b off:Nat} {f:Nat→Value} (hd:P.underlying t = some d) (hj:P.info? t = some j) (ha:isAggD d = true)
    (h:∀ k,k < j.size→w.cell? ⟨b,off + k,none⟩ = some (f k)):(loadVar t ⟨b,off,none⟩).run P w = .ok (.agg ((List.range j.size).map f).toArray) w:=by
  unfold loadVar
  rw [Sem.run_bind,run_isAgg hd,Result.andThen_ok,ha]
  simp only [if_true,Sem.run_bind,run_sizeOf hj,Result.andThen_ok]
  rw [run_loadCells w _ j.size f (fun k hk=>by rw [addr_add]; exact h k hk)]
  rfl
theorem run_loadOne {t:TypeId} {d:TypeDesc} {w:World} {a:Addr} {v:Value} (hd:P.underlying t = some d) (ha:isAggD d = false) (h:w.cell? a = some v) :
    (loadVar t a).run P w = .ok v w:=by
  unfold loadVar
  rw [Sem.run_bind,run_isAgg hd,Result.andThen_ok,ha]
  simp [h]

theorem dAgg_cells {S:Seal} {l:List D} {v:Value} (h:DV S (.agg l) v):∃ vs:List Value,v = .agg vs.toArray∧l.length = vs.length∧(∀ d∈l,d.isAgg = false) ∧
    ∀ i (h1:i < l.length) (h2:i < vs.length),DV S l[i] vs[i]:=by
  cases h with
  | agg hl hs h=>exact ⟨_,rfl,hl,hs,h⟩

theorem mk_dagg {S:Seal} {l:List D} {f:Nat→Value} (hs:∀ d∈l,d.isAgg = false) (h:∀ m (hm:m < l.length),DV S l[m] (f m)) :
    DV S (.agg l) (.agg ((List.range l.length).map f).toArray):=by
  refine .agg (by simp) hs fun i h1 h2=>?_
  have:=h i h1
  simpa using this

theorem toD_ok {S:Seal} {i:Emb} {x:AV} {d:D} {v:Value} (h:toD x = some d) (hv:V S i x v):DV S d v∧d.isAgg = false:=by
  cases x <;> simp only [toD] at h <;> try cases h
  case d y =>
    cases hy:y.isAgg <;> rw [hy] at h <;> cases h
    exact ⟨vD hv,hy⟩
  case nils=>cases hv; exact ⟨.nilsl,rfl⟩
  case ap=>cases hv <;> first | exact ⟨.nilsl,rfl⟩ | exact ⟨by assumption,rfl⟩
  case win=>cases hv with | win h hn=>exact ⟨dv_take h hn,rfl⟩
  case dn=>cases hv with | dn h=>exact ⟨h,rfl⟩

theorem toDs_ok {S:Seal} {i:Emb} {f:Nat→Value}:∀ {l:List AV} {ds:List D} (k:Nat),toDs l = some ds→(∀ m (hm:m < l.length),V S i l[m] (f (k + m))) →
    ds.length = l.length∧(∀ d∈ds,d.isAgg = false)∧∀ m (hm:m < ds.length),DV S ds[m] (f (k + m))
  | [],ds,k,h,_=>by cases h; simp
  | x :: r,ds,k,h,hv=>by
    simp only [toDs] at h
    split at h <;> first | cases h | skip
    rename_i d l hd hl
    obtain ⟨h1,h2⟩:=toD_ok hd (hv 0 (by simp))
    obtain ⟨h3,h4,h5⟩:=toDs_ok (f:=f) (k + 1) hl fun m hm=>by
      have:=hv (m + 1) (by simpa using hm)
      rw [show k + 1 + m = k + (m + 1) by omega]
      exact this
    refine ⟨by simp [h3],by simpa using ⟨h2,h4⟩,fun m hm=>?_⟩
    cases m with
    | zero=>exact h1
    | succ m =>
      have:=h5 m (by simpa using hm)
      rw [show k + (m + 1) = k + 1 + m by omega]
      exact this

theorem mkAgg_ok {S:Seal} {i:Emb} {f:Nat→Value} {l:List AV} (hv:∀ m (hm:m < l.length),V S i l[m] (f m)):V S i (mkAgg l) (.agg ((List.range l.length).map f).toArray):=by
  unfold mkAgg
  split
  · rename_i ds hds
    obtain ⟨h1,h2,h3⟩:=toDs_ok (f:=f) 0 hds fun m hm=>by simpa using hv m hm
    rw [←h1]
    exact .d (mk_dagg h2 fun m hm=>by simpa using h3 m hm)
  · refine .agg (by simp) fun j h1 h2=>?_
    simpa using hv j h1

theorem loadA_ok {H:AHeap} {x:AV} {g:Bool} {t:TypeId} {d:TypeDesc} {j:TypeInfo} (hd:P.underlying t = some d) (hj:P.info? t = some j) (hg:isAggD d = g)
    (h:loadA H x j.size g = some q) (hs:q.side) {S:Seal} {i:Emb} {w:World} {v:Value} (hv:V S i x v) (hh:HeapRel S i q.hin w) :
    ∃ u,(Instr.loadAt t v).run P w = .ok u w∧V S i q.r u∧q.hin = q.hout:=by
  unfold loadA at h
  split at h
  · -- sealed cells
    rename_i y off
    cases hv with
    | cp f hga hsl hcl =>
      rename_i b o
      have hcell:∀ m,m < y.cells.length→w.cell? ⟨b,o + m,none⟩ = some (f m):=fun m hm=>hh.cell _ _ (hsl m hm)
      cases g with
      | true =>
        simp only [cond_true] at h
        cases hc:(Nat.beq off 0 && Nat.beq y.cells.length j.size) with
        | true =>
          rw [hc] at h
          cases h
          have h0:off = 0:=Nat.eq_of_beq_eq_true (by simp [Bool.and_eq_true] at hc; simpa using hc.1)
          have h1:y.cells.length = j.size:=Nat.eq_of_beq_eq_true (by simp [Bool.and_eq_true] at hc; simpa using hc.2)
          subst h0
          have hr:=run_loadAgg (P:=P) (w:=w) (b:=b) (off:=o) (f:=f) hd hj hg fun k hk=>hcell k (h1 ▸ hk)
          refine ⟨_,by simp only [Instr.loadAt,Instr.sureAddr,Sem.run_bind,Sem.run_pure,Result.andThen_ok]; exact hr,?_,rfl⟩
          rw [←h1]
          -- y is a struct
          have hy:y.isAgg = true:=hs
          cases y <;> simp only [D.isAgg] at hy <;> try cases hy
          rename_i l
          exact .d (mk_dagg hga hcl)
        | false =>
          rw [hc] at h
          cases h
          obtain ⟨hy,hle⟩:=hs
          have hr:=run_loadAgg (P:=P) (w:=w) (b:=b) (off:=o + off) (f:=fun k=>f (off + k)) hd hj hg fun k hk=>by
            rw [Nat.add_assoc]; exact hcell _ (by omega)
          refine ⟨_,by simp only [Instr.loadAt,Instr.sureAddr,Sem.run_bind,Sem.run_pure,Result.andThen_ok]; exact hr,?_,rfl⟩
          have hl:((y.cells.drop off).take j.size).length = j.size:=by simp; omega
          have:=mk_dagg (S:=S) (l:=(y.cells.drop off).take j.size) (f:=fun k=>f (off + k)) (fun d hd=>hga d (List.mem_of_mem_drop (List.mem_of_mem_take hd))) fun m hm=>by
            have:=hcl (off + m) (by omega)
            simpa using this
          rw [hl] at this
          exact .d this
      | false =>
        simp only [cond_false] at h
        split at h <;> first | cases h | skip
        rename_i c rest hdrop
        have hlt:off < y.cells.length:=by
          rcases Nat.lt_or_ge off y.cells.length with h | h
          · exact h
          · rw [List.drop_eq_nil_of_le h] at hdrop; cases hdrop
        have hc:y.cells[off] = c:=by
          rw [List.drop_eq_getElem_cons hlt] at hdrop
          injection hdrop
        have hr:=run_loadOne (P:=P) (w:=w) (a:=⟨b,o + off,none⟩) hd hg (hcell off hlt)
        refine ⟨_,by simp only [Instr.loadAt,Instr.sureAddr,Sem.run_bind,Sem.run_pure,Result.andThen_ok]; exact hr,?_,rfl⟩
        exact .d (hc ▸ hcl off hlt)
  · -- a block of our own
    rename_i l off
    split at h <;> first | cases h | skip
    rename_i L hL
    cases hv with
    | ptr hi =>
      rename_i b
      have hmem:∀ q':Out,q'.hin = [(l,.cells L)]→HeapRel S i q'.hin w→∃ c:Array Value,c.size = L.length∧(∀ k (h1:k < L.length) (h2:k < c.size),V S i L[k] c[k]) ∧
          ∀ k (h2:k < c.size),w.cell? ⟨b,k,none⟩ = some c[k]:=by
        intro q' hq' hh'
        rw [hq'] at hh'
        rcases hh'.obj l (.cells L) List.mem_cons_self with ⟨b',hb',c,e,hc,hsz,hval,_⟩ | ⟨hn,_⟩
        · rw [hi] at hb'
          cases hb'
          refine ⟨c,hsz,hval,fun k h2=>?_⟩
          simp [World.cell?,hc,h2]
        · rw [hi] at hn; cases hn
      cases g with
      | true =>
        simp only [cond_true] at h
        cases h
        obtain ⟨c,hsz,hval,hcell⟩:=hmem _ rfl hh
        have hle:off + j.size≤L.length:=hs
        have hr:=run_loadAgg (P:=P) (w:=w) (b:=b) (off:=off) (f:=fun k=>c.getD (off + k) undef) hd hj hg fun k hk=>by
          have h2:off + k < c.size:=by omega
          rw [hcell _ h2]; simp [h2]
        refine ⟨_,by simp only [Instr.loadAt,Instr.sureAddr,Sem.run_bind,Sem.run_pure,Result.andThen_ok]; exact hr,?_,rfl⟩
        have hl:((L.drop off).take j.size).length = j.size:=by simp; omega
        have:=mkAgg_ok (S:=S) (i:=i) (l:=(L.drop off).take j.size) (f:=fun k=>c.getD (off + k) undef) fun m hm=>by
          have h1:off + m < L.length:=by omega
          have h2:off + m < c.size:=by omega
          have:=hval (off + m) h1 h2
          simpa [h2] using this
        rw [hl] at this
        exact this
      | false =>
        simp only [cond_false] at h
        split at h <;> first | cases h | skip
        rename_i x rest hdrop
        obtain ⟨c,hsz,hval,hcell⟩:=hmem _ rfl hh
        have hlt:off < L.length:=by
          rcases Nat.lt_or_ge off L.length with h | h
          · exact h
          · rw [List.drop_eq_nil_of_le h] at hdrop; cases hdrop
        have hx:L[off] = x:=by
          rw [List.drop_eq_getElem_cons hlt] at hdrop
          injection hdrop
        have h2:off < c.size:=by omega
        have hr:=run_loadOne (P:=P) (w:=w) (a:=⟨b,off,none⟩) hd hg (hcell off h2)
        refine ⟨_,by simp only [Instr.loadAt,Instr.sureAddr,Sem.run_bind,Sem.run_pure,Result.andThen_ok]; exact hr,hx ▸ hval off hlt h2,rfl⟩
  · cases h

theorem ok_load {t:TypeId} {x:Operand} (hop:o.op = .load t x) (h:evOp own nl (evA args) H (compOp P o.op) = some q) (hs:q.side):OpT P (evL args) o q.hin q.r q.hout:=by
  rw [hop] at h
  simp only [compOp] at h
  cases hx:argA x <;> rw [hx] at h <;> try cases h
  simp only [szK,aggK] at h
  split at h <;> first | cases h | skip
  rename_i j hj
  split at h <;> first | cases h | skip
  rename_i d hd
  simp only [evOp,Option.bind_eq_some_iff] at h
  obtain ⟨y,hy,h⟩:=h
  refine ⟨by simp [hop],fun S i w ρ hev hh _=>?_⟩
  obtain ⟨u,hr,hv,hq⟩:=loadA_ok hd hj rfl h hs (argV hev hx hy) hh
  simp only [execOp,hop,Sem.run_bind,hr,Result.andThen_ok]
  rw [←hq]
  exact postSame hv hh

theorem ok_nilchk {x:Operand} (hop:o.op = .nilCheck x) (h:evOp own nl (evA args) H (compOp P o.op) = some q):OpT P (evL args) o q.hin q.r q.hout:=by
  rw [hop] at h
  simp only [compOp] at h
  cases hx:argA x <;> rw [hx] at h <;> try cases h
  simp only [evOp] at h
  split at h <;> first | cases h | skip
  all_goals
    rename_i hb
    refine .pure (by simp [hop]) fun S i w ρ hev hh=>⟨ρ x,?_,argV hev hx hb⟩
    have hv:=argV hev hx hb
    generalize hu:ρ x = u at hv
    first
      | (cases hv; simp only [execOp,hop,hu]; rfl)
      | (cases vD hv; simp only [execOp,hop,hu]; rfl)

theorem ok_faddr {s:TypeId} {x:Operand} {f:Nat} (hop:o.op = .fieldAddr s x f) (h:evOp own nl (evA args) H (compOp P o.op) = some q):OpT P (evL args) o q.hin q.r q.hout:=by
  rw [hop] at h
  simp only [compOp] at h
  split at h <;> first | cases h | skip
  rename_i a fs hx hund
  split at h <;> first | cases h | skip
  rename_i fd hfd
  simp only [szK] at h
  split at h <;> first | cases h | skip
  rename_i j hj
  split at h <;> first | cases h | skip
  rename_i hz
  have hu:=und_some hund (by simp)
  simp only [evOp] at h
  have hrun:∀ (ρ:Operand→Value) (w:World) b off,ρ x = .pointer (some ⟨b,off,none⟩)→(execOp ρ o).run P w = .ok (.value (.pointer (some ⟨b,off + fd.offset,none⟩))) w:=by
    intro ρ w b off hv
    simp only [execOp,hop,hv,Instr.fieldAt,Sem.run_bind,run_und hu,Result.andThen_ok,hfd,Instr.sureAddr,fieldPlace,run_sizeOf hj,hz,if_false,Sem.run_pure,addr_add]
  split at h <;> first | cases h | skip
  · rename_i y off hy
    refine .pure (by simp [hop]) fun S i w ρ hev hh=>?_
    have hv:=argV hev hx hy
    generalize hu':ρ x = u at hv
    cases hv with
    | cp f hg hs hc=>exact ⟨_,hrun ρ w _ _ hu',by rw [Nat.add_assoc]; exact .cp f hg hs hc⟩
  · rename_i l off hy
    refine .pure (by simp [hop]) fun S i w ρ hev hh=>?_
    have hv:=argV hev hx hy
    generalize hu':ρ x = u at hv
    cases hv with
    | ptr hi=>exact ⟨_,hrun ρ w _ _ hu',.ptr hi⟩
end
end Go.Proofs.Abs
end
section
namespace Go.Proofs.Abs
open Go

structure NewBlk (w w':World) (c:Array Value) (e:TypeId) (fr:Nat×Nat):Prop where
  size:w'.heap.size = w.heap.size + 1
  old:∀ b,b < w.heap.size→w'.heap[b]? = w.heap[b]?
  new:w'.heap[w.heap.size]? = some (.cells c e fr)
  os:w'.os = w.os
  out:w'.output = w.output
  tape:w'.tape = w.tape

theorem newblk_alloc (w:World) (c:Array Value) (e:TypeId):NewBlk w (w.alloc (.cells c e)) c e (0,0):=by
  refine ⟨by simp,fun b hb=>?_,?_,rfl,rfl,rfl⟩
  · show (w.heap.push _)[b]? = _
    rw [Array.getElem?_push,if_neg (by omega)]
  · show (w.heap.push _)[w.heap.size]? = _
    simp

theorem NewBlk.cell {w w':World} {c:Array Value} {e:TypeId} {fr:Nat×Nat} (h:NewBlk w w' c e fr) {a:Addr} {v:Value} (ha:w.cell? a = some v):w'.cell? a = some v:=by
  have hlt:=World.block_lt_of_cell? _ _ ha
  unfold World.cell? at *
  rw [h.old _ hlt]
  exact ha

def Emb.set (i:Emb) (l b:Nat):Emb:=fun k=>if k = l then some b else i k
theorem Emb.set_le {i:Emb} {l b:Nat} (h:i l = none):i.le (i.set l b):=by
  intro k c hc
  unfold Emb.set
  split
  · rename_i hk; subst hk; rw [h] at hc; cases hc
  · exact hc

theorem HeapRel.noSeal {S:Seal} {i:Emb} {H:AHeap} {w:World} (h:HeapRel S i H w) {a:Addr} (ha:w.heap.size≤a.block):S.cell a = none:=by
  cases hx:S.cell a with
  | none=>rfl
  | some v =>
    have:=World.block_lt_of_cell? _ _ (h.cell a v hx)
    omega

theorem post_own {S:Seal} {i:Emb} {w w':World} {c:Array Value} {e:TypeId} {nl:Nat} {L:List AV} {r:AV} {v:Value} (hh:HeapRel S i [] w) (hn:NewBlk w w' c e (0,0))
    (hf:i nl = none) (hsz:c.size = L.length) (hv:∀ j (h1:j < L.length) (h2:j < c.size),V S i L[j] c[j]) (hr:V S (i.set nl w.heap.size) r v) :
    Post S i [] w r [(nl,.cells L)] v w':=by
  have hle:i.le (i.set nl w.heap.size):=Emb.set_le hf
  have hset:∀ l b,i.set nl w.heap.size l = some b→(i l = some b∨(l = nl∧b = w.heap.size)):=by
    intro l b hb
    unfold Emb.set at hb
    split at hb
    · rename_i hk; cases hb; exact .inr ⟨hk,rfl⟩
    · exact .inl hb
  refine ⟨S,i.set nl w.heap.size,hr,⟨fun a v ha=>hn.cell (hh.cell a v ha),?_,?_,?_,?_,hh.gr⟩,hle,⟨.refl S,by have:=hn.size; omega,fun b hb _=>hn.old b hb,fun a v h=>.inl h,?_,?_,hn.os,hn.out,hn.tape⟩,?_⟩
  · intro b n hb
    obtain ⟨c',e',f,hc,hs⟩:=hh.size b n hb
    have hlt:=(Array.getElem?_eq_some_iff.1 hc).1
    exact ⟨c',e',f,by rw [hn.old b hlt]; exact hc,hs⟩
  · intro l o hm
    simp only [List.mem_singleton,Prod.mk.injEq] at hm
    obtain ⟨rfl,rfl⟩:=hm
    refine .inl ⟨w.heap.size,by simp [Emb.set],c,e,hn.new,hsz,fun j h1 h2=>(hv j h1 h2).mono (.refl S) hle,fun a ha=>hh.noSeal (by omega)⟩
  · intro l o l' o' b hm hm' _ _
    simp only [List.mem_singleton,Prod.mk.injEq] at hm hm'
    rw [hm.1,hm'.1]
  · intro l b hb
    have:=hn.size
    rcases hset l b hb with hb | ⟨_,hb⟩
    · have:=hh.dom l b hb; omega
    · omega
  · intro l b hb
    rcases hset l b hb with hb | ⟨_,hb⟩
    · exact .inl hb
    · exact .inr (.inr (by omega))
  · rintro b ⟨l,o,hm,hb⟩
    simp only [List.mem_singleton,Prod.mk.injEq] at hm
    rcases hset l b hb with hb | ⟨_,hb⟩
    · rw [hm.1,hf] at hb; cases hb
    · exact .inr (by omega)
  · intro l b hb
    rcases hset l b hb with hb | ⟨h1,_⟩
    · exact .inl hb
    · exact .inr ⟨by simp [AHeap.keys,h1],by simp [AHeap.keys]⟩

def Seal.add (S:Seal) (b k:Nat) (c:Array Value):Seal where
  cell a:=if a.block = b∧a.spot = none∧a.off < k then c[a.off]? else S.cell a
  size x:=if x = b then some c.size else S.size x

theorem Seal.add_le {S:Seal} {i:Emb} {H:AHeap} {w:World} (hh:HeapRel S i H w) (k:Nat) (c:Array Value):S.le (S.add w.heap.size k c):=by
  refine ⟨fun a v ha=>?_,fun b n hb=>?_⟩
  · have:=World.block_lt_of_cell? _ _ (hh.cell a v ha)
    simp only [Seal.add]
    rw [if_neg (by rintro ⟨h1,_⟩; omega)]
    exact ha
  · obtain ⟨c',e',f,hc,hs⟩:=hh.size b n hb
    have hlt:=(Array.getElem?_eq_some_iff.1 hc).1
    simp only [Seal.add]
    rw [if_neg (by omega)]
    exact hb

theorem heap_seal {S:Seal} {i:Emb} {w w':World} {c:Array Value} {e:TypeId} {fr:Nat×Nat} {k:Nat} (hh:HeapRel S i [] w) (hn:NewBlk w w' c e fr) :
    (∀ a v,(S.add w.heap.size k c).cell a = some v→w'.cell? a = some v)∧∀ b n,(S.add w.heap.size k c).size b = some n→∃ c e f,w'.heap[b]? = some (.cells c e f)∧c.size = n:=by
  refine ⟨fun a v ha=>?_,fun b n hb=>?_⟩
  · simp only [Seal.add] at ha
    split at ha
    · rename_i h
      obtain ⟨h1,h2,h3⟩:=h
      unfold World.cell?
      rw [h1,hn.new]
      simp [h2,ha]
    · exact hn.cell (hh.cell a v ha)
  · simp only [Seal.add] at hb
    split at hb
    · rename_i h; cases hb; subst h; exact ⟨c,e,fr,hn.new,rfl⟩
    · obtain ⟨c',e',f,hc,hs⟩:=hh.size b n hb
      have hlt:=(Array.getElem?_eq_some_iff.1 hc).1
      exact ⟨c',e',f,by rw [hn.old b hlt]; exact hc,hs⟩

theorem post_seal {S:Seal} {i:Emb} {w w':World} {c:Array Value} {e:TypeId} {fr:Nat×Nat} {k:Nat} {r:AV} {v:Value} (hh:HeapRel S i [] w) (hn:NewBlk w w' c e fr)
    (hr:V (S.add w.heap.size k c) i r v):Post S i [] w r [] v w':=by
  obtain ⟨h1,h2⟩:=heap_seal hh hn
  have:=hn.size
  refine ⟨_,i,hr,⟨h1,h2,fun l o hm=>(by cases hm),fun l o l' o' b hm=>(by cases hm),fun l b hb=>(by have:=hh.dom l b hb; omega),fun a v h=>(Seal.add_le hh k c).cell _ _ (hh.gr a v h)⟩,fun _ _ h=>h,
    ⟨Seal.add_le hh k c,(by omega),fun b hb _=>hn.old b hb,?_,fun l b h=>.inl h,fun b ⟨l,o,hm,_⟩=>(by cases hm),hn.os,hn.out,hn.tape⟩,fun l b h=>.inl h⟩
  intro a v ha
  simp only [Seal.add] at ha
  split at ha
  · rename_i h; exact .inr (.inr (by omega))
  · exact .inl ha

theorem post_tok {S:Seal} {i:Emb} {w w':World} {c:Array Value} {e:TypeId} {k nl:Nat} {r:AV} {v:Value} (hh:HeapRel S i [] w) (hn:NewBlk w w' c e (0,0))
    (hf:i nl = none) (hr:V (S.add w.heap.size k c) (i.set nl w.heap.size) r v):Post S i [] w r [(nl,.tok k)] v w':=by
  obtain ⟨h1,h2⟩:=heap_seal hh hn
  have hsz:=hn.size
  have hle:i.le (i.set nl w.heap.size):=Emb.set_le hf
  have hset:∀ l b,i.set nl w.heap.size l = some b→(i l = some b∨(l = nl∧b = w.heap.size)):=by
    intro l b hb
    unfold Emb.set at hb
    split at hb
    · rename_i hk; cases hb; exact .inr ⟨hk,rfl⟩
    · exact .inl hb
  refine ⟨_,i.set nl w.heap.size,hr,⟨h1,h2,?_,?_,?_,fun a v h=>(Seal.add_le hh k c).cell _ _ (hh.gr a v h)⟩,hle,⟨Seal.add_le hh k c,by omega,fun b hb _=>hn.old b hb,?_,?_,?_,hn.os,hn.out,hn.tape⟩,?_⟩
  · intro l o hm
    simp only [List.mem_singleton,Prod.mk.injEq] at hm
    obtain ⟨rfl,rfl⟩:=hm
    refine .inl ⟨w.heap.size,by simp [Emb.set],c,e,hn.new,fun a ha ho=>?_⟩
    simp only [Seal.add]
    rw [if_neg (by omega)]
    exact hh.noSeal (by omega)
  · intro l o l' o' b hm hm' _ _
    simp only [List.mem_singleton,Prod.mk.injEq] at hm hm'
    rw [hm.1,hm'.1]
  · intro l b hb
    rcases hset l b hb with hb | ⟨_,hb⟩
    · have:=hh.dom l b hb; omega
    · omega
  · intro a v ha
    simp only [Seal.add] at ha
    split at ha
    · rename_i h; exact .inr (.inr (by omega))
    · exact .inl ha
  · intro l b hb
    rcases hset l b hb with hb | ⟨_,hb⟩
    · exact .inl hb
    · exact .inr (.inr (by omega))
  · rintro b ⟨l,o,hm,hb⟩
    simp only [List.mem_singleton,Prod.mk.injEq] at hm
    rcases hset l b hb with hb | ⟨_,hb⟩
    · rw [hm.1,hf] at hb; cases hb
    · exact .inr (by omega)
  · intro l b hb
    rcases hset l b hb with hb | ⟨h1,_⟩
    · exact .inl hb
    · exact .inr ⟨by simp [AHeap.keys,h1],by simp [AHeap.keys]⟩

section
variable {P:Program} {args:List (Nat×AV)} {H:AHeap} {o:Oper} {own:Bool} {nl:Nat} {q:Out}

theorem constD_sl {v:Value} (h:constD v = some (.sl [])):v = .slice none 0 0:=by
  unfold constD at h
  split at h <;> first | (cases h; done) | (cases h; rfl)
theorem zAV_ok {S:Seal} {i:Emb} {v:Value} {x:D} (h:constD v = some x):V S i (zAV x) v:=by
  unfold zAV
  split
  · rw [constD_sl h]; exact .nils
  · exact .d (constD_ok h).1
theorem constDs_at:∀ {vs:List Value} {l:List D},constDs vs = some l→l.length = vs.length∧∀ j (h1:j < l.length) (h2:j < vs.length),constD vs[j] = some l[j]
  | [],l,h=>by cases h; simp
  | v :: r,l,h=>by
    simp only [constDs] at h
    split at h <;> first | cases h | skip
    rename_i d l' hd hl
    obtain ⟨h1,h2⟩:=constDs_at hl
    refine ⟨by simp [h1],fun j h3 h4=>?_⟩
    cases j with
    | zero=>exact hd
    | succ j=>exact h2 j (by simpa using h3) (by simpa using h4)
theorem zeroA_inv {t:TypeId} {zz:List D} (h:zeroA P t = some zz):∃ j v,P.info? t = some j∧j.zero = some v∧constDs v.cells.toList = some zz:=by
  unfold zeroA at h
  simp only [Option.bind_eq_some_iff] at h
  obtain ⟨j,hj,v,hv,h⟩:=h
  exact ⟨j,v,hj,hv,h⟩
theorem run_zeroValue {t:TypeId} {j:TypeInfo} {v:Value} {w:World} (hj:P.info? t = some j) (hv:j.zero = some v):(zeroValue t).run P w = .ok v w:=by
  simp [zeroValue,run_typeInfo hj,hv]

theorem ok_alloc {t:TypeId} (hop:o.op = .alloc t) (h:evOp own nl (evA args) H (compOp P o.op) = some q):OpT P (evL args) o q.hin q.r q.hout:=by
  rw [hop] at h
  simp only [compOp] at h
  cases hz:zeroA P t with
  | none=>rw [hz] at h; cases h
  | some zz =>
  rw [hz] at h
  cases h
  obtain ⟨j,v,hj,hv,hc⟩:=zeroA_inv hz
  obtain ⟨hl,hcd⟩:=constDs_at hc
  refine ⟨by simp [hop],fun S i w ρ hev hh hf=>?_⟩
  have hrun:(execOp ρ o).run P w = .ok (.value (.pointer (some ⟨w.heap.size,0,none⟩))) (w.alloc (.cells v.cells t)):=by
    simp only [execOp,hop,Instr.alloc,Sem.run_bind,run_zeroValue hj hv,Result.andThen_ok,newVar,newRow,run_newObj,Sem.run_pure]
    rfl
  rw [hrun]
  refine post_own hh (newblk_alloc w v.cells t) (hf nl (by simp [AHeap.keys]) (by simp [AHeap.keys])) (by simp [hl]) (fun k h1 h2=>?_) (.ptr (by simp [Emb.set]))
  have:=zAV_ok (S:=S) (i:=i) (hcd k (by simpa using h1) (by simpa using h2))
  simpa using this

theorem cellsAV_ok {S:Seal} {i:Emb} {x:AV} {cs:List AV} {v:Value} (h:cellsAV x = some cs) (hv:V S i x v):v.cells.size = cs.length ∧
    ∀ k (h1:k < cs.length) (h2:k < v.cells.size),V S i cs[k] v.cells[k]:=by
  cases x <;> simp only [cellsAV] at h <;> first | (injection h with h; subst h) | (cases h; done) | skip
  case d y =>
    have hd:=vD hv
    cases hd with
    | agg hl hs hall =>
      refine ⟨by simp [Value.cells,D.cells,hl],fun k h1 h2=>?_⟩
      have:=hall k (by simpa [D.cells] using h1) (by simpa [Value.cells] using h2)
      simpa [Value.cells,D.cells] using V.d (i:=i) this
    | _ =>
      refine ⟨by simp [Value.cells,D.cells],fun k h1 h2=>?_⟩
      have hk:k = 0:=by simp [D.cells] at h1; omega
      subst hk
      simpa [Value.cells,D.cells] using hv
  case agg l =>
    cases hb:l.all AV.scalar <;> rw [hb] at h <;> cases h
    cases hv with
    | agg hl hall=>exact ⟨by simp [Value.cells,hl],fun k h1 h2=>by simpa [Value.cells] using hall k h1 (by simpa [Value.cells] using h2)⟩
  all_goals
    have h0:v.cells = #[v]:=by cases hv <;> rfl
    refine ⟨by simp [h0],fun k h1 h2=>?_⟩
    have hk:k = 0:=by simp at h1; omega
    subst hk
    simpa [h0] using hv

theorem ok_box {t:TypeId} {x:Operand} (hop:o.op = .box t x) (h:evOp own nl (evA args) H (compOp P o.op) = some q):OpT P (evL args) o q.hin q.r q.hout:=by
  rw [hop] at h
  simp only [compOp] at h
  split at h <;> first | cases h | skip
  rename_i a hx
  simp only [evOp] at h
  split at h <;> first | cases h | skip
  rename_i cs hcs
  simp only [Option.bind_eq_some_iff] at hcs
  obtain ⟨y,hy,hcs⟩:=hcs
  refine ⟨by simp [hop],fun S i w ρ hev hh hf=>?_⟩
  have hv:=argV hev hx hy
  obtain ⟨h1,h2⟩:=cellsAV_ok hcs hv
  have hrun:(execOp ρ o).run P w = .ok (.value (.pointer (some ⟨w.heap.size,0,none⟩))) (w.alloc (.cells (ρ x).cells t)):=by
    simp only [execOp,hop,Instr.box,Sem.run_bind,newVar,newRow,run_newObj,Sem.run_pure]
    rfl
  rw [hrun]
  exact post_own hh (newblk_alloc w (ρ x).cells t) (hf nl (by simp [AHeap.keys]) (by simp [AHeap.keys])) h1 h2 (.ptr (by simp [Emb.set]))

theorem upd_at:∀ (L:List AV) (n:Nat) (cs:List AV),n + cs.length≤L.length→(upd L n cs).length = L.length ∧
    ∀ k (h1:k < (upd L n cs).length),(upd L n cs)[k] = if h:n≤k∧k < n + cs.length then cs[k - n]'(by omega) else L.getD k .any
  | L,n,[],h=>by
    have h0:upd L n [] = L:=by cases L <;> rfl
    rw [h0]
    refine ⟨rfl,fun k h1=>?_⟩
    rw [dif_neg (by simp only [List.length_nil]; omega)]
    have h2:k < L.length:=h1
    simp [List.getD,List.getElem?_eq_getElem h2,h0]
  | [],n,c :: cs,h=>by simp at h
  | x :: L,0,c :: cs,h=>by
    obtain ⟨h1,h2⟩:=upd_at L 0 cs (by simpa using h)
    refine ⟨by simp [upd,h1],fun k hk=>?_⟩
    cases k with
    | zero=>simp [upd]
    | succ k =>
      have:=h2 k (by simpa [upd] using hk)
      simp only [upd,List.getElem_cons_succ,this]
      by_cases hc:k < cs.length
      · rw [dif_pos ⟨by omega,by omega⟩,dif_pos ⟨by omega,by simp; omega⟩]
        simp
      · rw [dif_neg (by omega),dif_neg (by simp; omega)]
        simp
  | x :: L,n + 1,c :: cs,h=>by
    obtain ⟨h1,h2⟩:=upd_at L n (c :: cs) (by simp at h ⊢; omega)
    refine ⟨by simp [upd,h1],fun k hk=>?_⟩
    cases k with
    | zero=>rw [dif_neg (by omega)]; simp [upd]
    | succ k =>
      have:=h2 k (by simpa [upd] using hk)
      simp only [upd,List.getElem_cons_succ,this]
      by_cases hc:n≤k∧k < n + (c :: cs).length
      · rw [dif_pos hc,dif_pos ⟨by omega,by omega⟩]
        congr 1
        omega
      · rw [dif_neg hc,dif_neg (by omega)]
        simp

theorem one_scalar {S:Seal} {i:Emb} {x:AV} {v:Value} (h:x.scalar = true) (hv:V S i x v):v.oneCell' = true:=by
  cases hv <;> first | rfl | (simp [AV.scalar] at h; done) | skip
  rename_i x hd
  cases hd <;> first | rfl | (simp [AV.scalar,D.isAgg] at h; done)

theorem post_store {S:Seal} {i:Emb} {w w':World} {l b:Nat} {L L':List AV} {c c':Array Value} {e:TypeId} {r:AV} {v:Value} (hh:HeapRel S i [(l,.cells L)] w) (hi:i l = some b)
    (hc:w.heap[b]? = some (.cells c e (0,0))) (hns:∀ a:Addr,a.block = b→S.cell a = none) (hw:w' = w.setRow b c') (hsz:c'.size = c.size) (hL:L'.length = c'.size)
    (hv:∀ k (h1:k < L'.length) (h2:k < c'.size),V S i L'[k] c'[k]) (hr:V S i r v):Post S i [(l,.cells L)] w r [(l,.cells L')] v w':=by
  subst hw
  have hold:∀ k,k≠b→(w.setRow b c').heap[k]? = w.heap[k]?:=fun k hk=>setRow_other w b k c' hk
  have hnew:=setRow_heap w b c c' e (0,0) hc
  have hblk:blk i [(l,.cells L)] b:=⟨l,_,List.mem_cons_self,hi⟩
  refine ⟨S,i,hr,⟨fun a v ha=>?_,fun k n hk=>?_,?_,?_,fun l b hb=>(by rw [setRow_size]; exact hh.dom l b hb),hh.gr⟩,fun _ _ h=>h,
    ⟨.refl S,by rw [setRow_size]; exact Nat.le_refl _,fun k _ hk=>hold k fun hkb=>hk (hkb ▸ hblk),fun a v h=>.inl h,fun l b h=>.inl h,?_,rfl,rfl,rfl⟩,fun l b h=>.inl h⟩
  · by_cases hb:a.block = b
    · rw [hns a hb] at ha; cases ha
    · rw [cell_setRow_other w b c' a hb]; exact hh.cell a v ha
  · by_cases hb:k = b
    · subst hb
      obtain ⟨c0,e0,f0,h0,hs0⟩:=hh.size k n hk
      rw [hc] at h0
      cases h0
      exact ⟨c',e,(0,0),hnew,by omega⟩
    · rw [hold k hb]; exact hh.size k n hk
  · intro l' o' hm
    simp only [List.mem_singleton,Prod.mk.injEq] at hm
    obtain ⟨rfl,rfl⟩:=hm
    exact .inl ⟨b,hi,c',e,hnew,hL.symm,hv,hns⟩
  · intro l1 o1 l2 o2 b' hm hm' _ _
    simp only [List.mem_singleton,Prod.mk.injEq] at hm hm'
    rw [hm.1,hm'.1]
  · rintro b' ⟨l',o',hm,hb⟩
    simp only [List.mem_singleton,Prod.mk.injEq] at hm
    refine .inl ⟨l,_,List.mem_cons_self,?_⟩
    rw [←hm.1]; exact hb

theorem ok_store {t:TypeId} {x y:Operand} (hop:o.op = .store t x y) (h:evOp own nl (evA args) H (compOp P o.op) = some q) (hs:q.side):OpT P (evL args) o q.hin q.r q.hout:=by
  rw [hop] at h
  simp only [compOp] at h
  split at h <;> first | cases h | skip
  rename_i a b hx hy
  simp only [szK] at h
  split at h <;> first | cases h | skip
  rename_i j hj
  simp only [evOp] at h
  split at h <;> first | cases h | skip
  rename_i l off cs hax hcs
  split at h <;> first | cases h | skip
  rename_i L hL
  obtain ⟨hlen,hle,hsc⟩:=hs
  simp only [Option.bind_eq_some_iff] at hcs
  obtain ⟨yv,hyv,hcs⟩:=hcs
  refine ⟨by simp [hop],fun S i w ρ hev hh hf=>?_⟩
  have hvx:=argV hev hx hax
  have hvy:=argV hev hy hyv
  obtain ⟨h1,h2⟩:=cellsAV_ok hcs hvy
  generalize hux:ρ x = u at hvx
  cases hvx with
  | ptr hi =>
    rename_i blkn
    rcases hh.obj l (.cells L) List.mem_cons_self with ⟨b',hb',c,e,hc,hsz,hval,hns⟩ | ⟨hn,_⟩
    case inr=>rw [hi] at hn; cases hn
    rw [hi] at hb'
    cases hb'
    have hone:∀ v∈(ρ y).cells.toList,v.oneCell' = true:=by
      intro v hv
      obtain ⟨k,hk,rfl⟩:=List.getElem_of_mem hv
      have hk':k < cs.length:=by simpa [h1] using hk
      have:=h2 k hk' (by simpa using hk)
      refine one_scalar (List.all_eq_true.1 hsc _ (List.getElem_mem hk')) (by simpa using this)
    have hrun:=run_storeCells_at (P:=P) blkn off e (ρ y).cells.toList 0 c w hc (by simp [h1]; omega) hone
    have hex:(execOp ρ o).run P w = .ok .skip (w.setRow blkn (c.toList.take (off + 0) ++ (ρ y).cells.toList ++ c.toList.drop (off + 0 + (ρ y).cells.toList.length)).toArray):=by
      simp only [execOp,hop,Instr.storeAt,hux,Instr.sureAddr,Sem.run_bind,Sem.run_pure,Result.andThen_ok,storeVar,run_sizeOf hj]
      rw [if_neg (by rw [h1,hlen]; simp)]
      rw [hrun]
      rfl
    rw [hex]
    obtain ⟨hu1,hu2⟩:=upd_at L off cs (by omega)
    have hlen':(ρ y).cells.toList.length = cs.length:=by simpa using h1
    have hsize:((c.toList.take (off + 0) ++ (ρ y).cells.toList ++ c.toList.drop (off + 0 + (ρ y).cells.toList.length)).toArray).size = c.size:=by
      simp; omega
    refine post_store hh hi hc hns rfl hsize (by rw [hsize,hu1,hsz]) (fun k hk1 hk2=>?_) .any
    rw [hu2 k hk1]
    split
    · rename_i hkk
      have:=h2 (k - off) (by omega) (by omega)
      have he:((c.toList.take (off + 0) ++ (ρ y).cells.toList ++ c.toList.drop (off + 0 + (ρ y).cells.toList.length)).toArray)[k] = (ρ y).cells[k - off]'(by omega):=by
        simp only [List.getElem_toArray]
        rw [List.getElem_append_left (by simp; omega),List.getElem_append_right (by simp; omega)]
        simp
        congr 1
        omega
      rw [he]; exact this
    · rename_i hkk
      have hk3:k < L.length:=by omega
      have hk4:k < c.size:=by omega
      have:=hval k hk3 hk4
      have he:((c.toList.take (off + 0) ++ (ρ y).cells.toList ++ c.toList.drop (off + 0 + (ρ y).cells.toList.length)).toArray)[k] = c[k]:=by
        simp only [List.getElem_toArray]
        by_cases hko:k < off
        · rw [List.getElem_append_left (by simp; omega),List.getElem_append_left (by simp; omega)]
          simp
        · rw [List.getElem_append_right (by simp; omega)]
          simp
          congr 1
          omega
      rw [he]
      simpa [hk3] using this
end
end Go.Proofs.Abs
end
section
namespace Go.Proofs.Abs
open Go

section
variable {P:Program} {w:World}
theorem run_append_grows' {ats:Array TypeId} {t u ty e:TypeId} {j:TypeInfo} {z:Value} {d:TypeDesc} (h0:ats[0]? = some t) (h1:ats[1]? = some u) (ht:P.underlying t = some (.slice e))
    (hu:P.underlying u = some d) (hd:(∃ e',d = .slice e')∨d = .string) (hj:P.info? e = some j) (hz:j.zero = some z) {base:Option Addr} {sLen sCap n:Nat} {x:Value} {old new:Array Value}
    (hn:(Builtin.lenOf x).run P w = .ok n w) (hf:(Builtin.firstCells j.size n x).run P w.drew = .ok new w.drew) (ho:(Builtin.firstCells j.size sLen (.slice base sLen sCap)).run P w.drew = .ok old w.drew)
    (hg:sCap < sLen + n) (h63:sLen + n≤9223372036854775807) (hfit:Builtin.nextslicecap (sLen + n) sCap * j.bytes≤281474976710656) :
    (Builtin.append_ ats ty #[.slice base sLen sCap,x]).run P w =
      .ok (.slice (some ⟨w.heap.size,0,none⟩) (sLen + n) (grownCap w (sLen + n) sCap e))
        (w.drew.alloc (.cells (old ++ new ++ Builtin.zeroCells z.cells (grownCap w (sLen + n) sCap e - (sLen + n))) e)):=by
  have hn':¬ (sLen + n≤sCap):=by omega
  have h63':¬ (9223372036854775807 < ((sLen:Int) + (n:Int))):=by omega
  have h48':¬ (281474976710656 < Builtin.nextslicecap (sLen + n) sCap * j.bytes):=by omega
  rcases hd with ⟨e',rfl⟩ | rfl
  all_goals
    simp [Builtin.append_,h0,h1,run_underlying ht,run_underlying hu,sizeOf,typeInfo,zeroValue,hj,hz,hn,hn',h63',h48',Question.forced,hf,ho,newRow,grownCap]

theorem run_append_room' {ats:Array TypeId} {t u ty e:TypeId} {j:TypeInfo} {d:TypeDesc} (h0:ats[0]? = some t) (h1:ats[1]? = some u) (ht:P.underlying t = some (.slice e))
    (hu:P.underlying u = some d) (hd:(∃ e',d = .slice e')∨d = .string) (hj:P.info? e = some j) {g sLen sCap n:Nat} {x:Value} {cur:Array Value} {new:List Value}
    (hn:(Builtin.lenOf x).run P w = .ok n w) (hf:(Builtin.firstCells j.size n x).run P w = .ok new.toArray w) {e2:TypeId} (hg:w.heap[g]? = some (.cells cur e2 (0,0))) (hone:∀ u∈new,u.oneCell' = true)
    (hroom:sLen + n≤sCap) (hfit:sLen * j.size + new.length≤cur.size) :
    (Builtin.append_ ats ty #[.slice (some ⟨g,0,none⟩) sLen sCap,x]).run P w =
      .ok (.slice (some ⟨g,0,none⟩) (sLen + n) sCap) (w.setRow g (cur.toList.take (sLen * j.size) ++ new ++ cur.toList.drop (sLen * j.size + new.length)).toArray):=by
  have hst:=run_storeCells_at P g (sLen * j.size) e2 new 0 cur w hg (by simpa using hfit) hone
  simp only [Nat.add_zero] at hst
  rcases hd with ⟨e',rfl⟩ | rfl
  all_goals
    simp [Builtin.append_,h0,h1,run_underlying ht,run_underlying hu,sizeOf,typeInfo,hj,hn,hroom,hf,addr_add,hst]

theorem run_append_none' {ats:Array TypeId} {t u ty e:TypeId} {j:TypeInfo} {d:TypeDesc} (h0:ats[0]? = some t) (h1:ats[1]? = some u) (ht:P.underlying t = some (.slice e))
    (hu:P.underlying u = some d) (hd:(∃ e',d = .slice e')∨d = .string) (hj:P.info? e = some j) {x:Value} {new:Array Value}
    (hn:(Builtin.lenOf x).run P w = .ok 0 w) (hf:(Builtin.firstCells j.size 0 x).run P w = .ok new w) :
    (Builtin.append_ ats ty #[.slice none 0 0,x]).run P w = .ok (.slice none 0 0) w:=by
  rcases hd with ⟨e',rfl⟩ | rfl
  all_goals
    simp [Builtin.append_,h0,h1,run_underlying ht,run_underlying hu,sizeOf,typeInfo,hj,hn,hf]
end

theorem flat_len {l:List D} {z:Nat} (hz:∀ d∈l,d.cells.length = z):(flat l).length = l.length * z:=by
  induction l with
  | nil=>simp [flat]
  | cons x r ih =>
    have h1:=hz x List.mem_cons_self
    have h2:=ih fun d hd=>hz d (List.mem_cons_of_mem _ hd)
    simp only [flat,List.flatMap_cons,List.length_append,h1,List.length_cons] at *
    rw [h2,Nat.succ_mul]; omega
theorem flat_append (l m:List D):flat (l ++ m) = flat l ++ flat m:=by simp [flat]

theorem flat_bytes (s:List UInt8):flat (s.map byteD) = s.map byteD:=by
  induction s with
  | nil=>rfl
  | cons c r ih =>
    rw [List.map_cons]
    show D.cells (byteD c) ++ flat (r.map byteD) = _
    rw [ih]; rfl
theorem src_ok {P:Program} {S:Seal} {i:Emb} {x:AV} {ys:List D} {v:Value} {z:Nat} (h:toSrc x = some ys) (hv:V S i x v) (hz:∀ d∈ys,d.cells.length = z) :
    ∃ new:List Value,new.length = ys.length * z∧(∀ d∈flat ys,d.isAgg = false)∧(∀ m (h1:m < (flat ys).length) (h2:m < new.length),DV S (flat ys)[m] new[m]) ∧
      ∀ w:World,(∀ a v,S.cell a = some v→w.cell? a = some v)→(Builtin.lenOf v).run P w = .ok ys.length w∧(Builtin.firstCells z ys.length v).run P w = .ok new.toArray w:=by
  have slice:DV S (.sl ys) v→∃ new:List Value,new.length = ys.length * z∧(∀ d∈flat ys,d.isAgg = false)∧(∀ m (h1:m < (flat ys).length) (h2:m < new.length),DV S (flat ys)[m] new[m]) ∧
      ∀ w:World,(∀ a v,S.cell a = some v→w.cell? a = some v)→(Builtin.lenOf v).run P w = .ok ys.length w∧(Builtin.firstCells z ys.length v).run P w = .ok new.toArray w:=by
    intro hd
    rcases dSlice hd with ⟨rfl,rfl⟩ | ⟨b,o,cap,z',f,rfl,hz',hg,hc,hs,hall⟩ | ⟨rfl,a,rfl⟩
    case inr.inr=>exact ⟨[],by simp,by simp [flat],by simp,fun w _=>⟨rfl,by
      have h9:=run_loadCells (P:=P) w a (([]:List D).length * z) (fun _=>undef) fun k hk=>by simp at hk
      simp only [Builtin.firstCells]
      rw [h9]
      simp⟩⟩
    · exact ⟨[],by simp,by simp [flat],by simp,fun w _=>⟨rfl,by simp [Builtin.firstCells]⟩⟩
    · have hfl:=flat_len hz
      refine ⟨(List.range (ys.length * z)).map f,by simp,hg,fun m h1 h2=>by simpa using hall m h1,fun w hw=>⟨rfl,?_⟩⟩
      simp only [Builtin.firstCells]
      exact run_loadCells w _ (ys.length * z) f fun k hk=>by rw [addr_add]; exact hw _ _ (hs k (by omega))
  cases x <;> simp only [toSrc] at h
  case d y =>
    cases y <;> simp only at h <;> first | exact slice (toSl_ok h hv) | (cases h; done) | skip
    case str s =>
      cases h
      cases vStr hv
      refine ⟨s.map fun b=>.int .u8 b.toNat,?_,?_,?_,fun w _=>⟨by simp [Builtin.lenOf,ByteArray.size],?_⟩⟩
      · cases s with
        | nil=>simp
        | cons c r =>
          have:=hz (byteD c) (by simp)
          simp [byteD,D.cells] at this
          simp [←this]
      · intro d hd
        simp only [flat,List.mem_flatMap,List.mem_map] at hd
        obtain ⟨y,⟨b,_,rfl⟩,hd⟩:=hd
        simp [byteD,D.cells] at hd
        subst hd; rfl
      · intro m h1 h2
        have:∀ (k:Nat) (hk:k < (flat (s.map byteD)).length),(flat (s.map byteD))[k] = (s.map byteD)[k]'(by rw [flat_bytes] at hk; exact hk):=by
          intro k hk
          simp only [flat_bytes]
        rw [this]
        simp only [List.getElem_map]
        exact .int
      · simp only [Builtin.firstCells,List.length_map]
        have hx:(⟨s.toArray⟩:ByteArray).extract 0 s.length = ⟨s.toArray⟩:=by
          apply ByteArray.ext
          simp
        rw [hx]
        simp
  all_goals first | exact slice (toSl_ok h hv) | cases h

theorem Post.more {S:Seal} {i:Emb} {H H':AHeap} {w w':World} {r:AV} {v:Value} (h:Post S i [] w r H' v w') (hd:∀ l∈H'.keys,l ∉ H.keys):Post S i H w r H' v w':=by
  obtain ⟨S',i',hv,hh,hle,ht,hn⟩:=h
  refine ⟨S',i',hv,hh,hle,ht.perm (fun x hx=>by cases hx) (fun x hx=>hx),fun l b hb=>?_⟩
  rcases hn l b hb with h | h
  · exact .inl h
  · exact .inr ⟨h.1,hd l h.1⟩

theorem one_of_dv {S:Seal} {d:D} {v:Value} (h:DV S d v) (hd:d.isAgg = false):v.oneCell' = true:=by
  cases h <;> first | rfl | (simp [D.isAgg] at hd; done)

theorem dv_new {S:Seal} {i:Emb} {H:AHeap} {w:World} {xs:List D} {z cap:Nat} {c:Array Value} {cs:List Value} (hh:HeapRel S i H w) (hz:∀ d∈xs,d.cells.length = z)
    (hg:∀ d∈flat xs,d.isAgg = false) (hl:cs.length = xs.length * z) (hc:∀ m (h:m < cs.length),c[m]? = some cs[m])
    (hv:∀ m (h1:m < (flat xs).length) (h2:m < cs.length),DV S (flat xs)[m] cs[m]) (hcap:xs.length≤cap) :
    DV (S.add w.heap.size (xs.length * z) c) (.sl xs) (.slice (some ⟨w.heap.size,0,none⟩) xs.length cap):=by
  have hfl:=flat_len hz
  refine .sl (fun m=>cs.getD m undef) hz hg hcap (fun m hm=>?_) fun m hm=>?_
  · have h1:m < cs.length:=by omega
    simp only [Seal.add]
    rw [if_pos ⟨trivial,trivial,by show 0 + m < _; omega⟩]
    show c[0 + m]? = _
    rw [Nat.zero_add,hc m h1]
    simp [List.getD,h1]
  · have h1:m < cs.length:=by omega
    have:=(hv m hm h1).mono (Seal.add_le hh (xs.length * z) c)
    simpa [List.getD,h1] using this

def Seal.ext (S:Seal) (b lo hi:Nat) (c:Array Value):Seal where
  cell a:=if a.block = b∧a.spot = none∧lo≤a.off∧a.off < hi then c[a.off]? else S.cell a
  size:=S.size

theorem post_room {S:Seal} {i:Emb} {w:World} {l nl b n k:Nat} {c c':Array Value} {e:TypeId} {r:AV} {v:Value} (hh:HeapRel S i [(l,.tok n)] w) (hi:i l = some b)
    (hc:w.heap[b]? = some (.cells c e (0,0))) (hns:∀ a:Addr,a.block = b→n≤a.off→S.cell a = none) (hsz:c'.size = c.size) (hkeep:∀ m,m < n→c'[m]? = c[m]?)
    (hf:i nl = none) (hne:nl≠l) (hr:V (S.ext b n k c') (i.set nl b) r v) (hnk:n≤k):Post S i [(l,.tok n)] w r [(nl,.tok k)] v (w.setRow b c'):=by
  have hold:∀ m,m≠b→(w.setRow b c').heap[m]? = w.heap[m]?:=fun m hk=>setRow_other w b m c' hk
  have hnew:=setRow_heap w b c c' e (0,0) hc
  have hblk:blk i [(l,.tok n)] b:=⟨l,_,List.mem_cons_self,hi⟩
  have hup:S.le (S.ext b n k c'):=by
    refine ⟨fun a v ha=>?_,fun b n h=>h⟩
    simp only [Seal.ext]
    rw [if_neg]
    · exact ha
    · rintro ⟨h1,h2,h3,_⟩
      rw [hns a h1 h3] at ha; cases ha
  have hset:∀ l' b',i.set nl b l' = some b'→(i l' = some b'∨(l' = nl∧b' = b)):=by
    intro l' b' hb
    unfold Emb.set at hb
    split at hb
    · rename_i hk; cases hb; exact .inr ⟨hk,rfl⟩
    · exact .inl hb
  refine ⟨S.ext b n k c',i.set nl b,hr,⟨fun a v ha=>?_,fun m n' hm=>?_,?_,?_,fun l' b' hb=>?_,fun a v h=>hup.cell _ _ (hh.gr a v h)⟩,Emb.set_le hf,
    ⟨hup,by rw [setRow_size]; exact Nat.le_refl _,fun m _ hk=>hold m fun hkb=>hk (hkb ▸ hblk),fun a v ha=>?_,fun l' b' hb=>?_,?_,rfl,rfl,rfl⟩,fun l' b' hb=>?_⟩
  · simp only [Seal.ext] at ha
    split at ha
    · rename_i h
      obtain ⟨h1,h2,h3,h4⟩:=h
      unfold World.cell?
      rw [h1,hnew]
      simp [h2,ha]
    · rename_i h
      by_cases hb:a.block = b
      · have hoff:a.off < n:=by
          rcases Nat.lt_or_ge a.off n with h | h
          · exact h
          · rw [hns a hb h] at ha; cases ha
        have:=hh.cell a v ha
        unfold World.cell? at *
        rw [hb] at *
        rw [hc] at this
        rw [hnew]
        simp only at this ⊢
        rw [hkeep _ hoff]; exact this
      · rw [cell_setRow_other w b c' a hb]; exact hh.cell a v ha
  · by_cases hb:m = b
    · subst hb
      obtain ⟨c0,e0,f0,h0,hs0⟩:=hh.size m n' hm
      rw [hc] at h0
      cases h0
      exact ⟨c',e,(0,0),hnew,by omega⟩
    · rw [hold m hb]; exact hh.size m n' hm
  · intro l' o' hm
    simp only [List.mem_singleton,Prod.mk.injEq] at hm
    obtain ⟨rfl,rfl⟩:=hm
    refine .inl ⟨b,by simp [Emb.set],c',e,hnew,fun a ha ho=>?_⟩
    simp only [Seal.ext]
    rw [if_neg (by omega)]
    exact hns a ha (by omega)
  · intro l1 o1 l2 o2 b' hm hm' _ _
    simp only [List.mem_singleton,Prod.mk.injEq] at hm hm'
    rw [hm.1,hm'.1]
  · rw [setRow_size]
    rcases hset l' b' hb with hb | ⟨_,hb⟩
    · exact hh.dom l' b' hb
    · rw [hb]; exact hh.dom l b hi
  · simp only [Seal.ext] at ha
    split at ha
    · rename_i h; rw [h.1]; exact .inr (.inl hblk)
    · exact .inl ha
  · rcases hset l' b' hb with hb | ⟨_,hb⟩
    · exact .inl hb
    · rw [hb]; exact .inr (.inl hblk)
  · rintro b' ⟨l',o',hm,hb⟩
    simp only [List.mem_singleton,Prod.mk.injEq] at hm
    rcases hset l' b' hb with hb | ⟨_,hb⟩
    · rw [hm.1,hf] at hb; cases hb
    · rw [hb]; exact .inl hblk
  · rcases hset l' b' hb with hb | ⟨h1,_⟩
    · exact .inl hb
    · exact .inr ⟨by simp [AHeap.keys,h1],by simp [AHeap.keys,h1,hne]⟩
end Go.Proofs.Abs
end
section
namespace Go.Proofs.Abs
open Go
section
variable {P:Program} {args:List (Nat×AV)} {H:AHeap} {o:Oper} {own:Bool} {nl:Nat} {q:Out}

theorem app_new {S:Seal} {i:Emb} {w:World} {c:Call} {t u e:TypeId} {ts:List TypeId} {d:TypeDesc} {j:TypeInfo} {z0:Value} {zz:List D} {ty:TypeId}
    (ht:c.argTypes.toList = t :: u :: ts) (hut:P.underlying t = some (.slice e)) (huu:P.underlying u = some d) (hd:(∃ e',d = .slice e')∨d = .string) (hj:P.info? e = some j) (hz0:j.zero = some z0)
    (hzz:zz.length = z0.cells.size) (hzl:zz.length = j.size) {base:Option Addr} {sCap:Nat} {xs ys:List D} {vx vy:Value} (hvx:vx = .slice base xs.length sCap)
    (hx:DV S (.sl xs) vx) (hxz:∀ d∈xs,d.cells.length = j.size) {y:AV} (hsrc:toSrc y = some ys) (hvy:V S i y vy) (hyz:∀ d∈ys,d.cells.length = j.size) (hh:HeapRel S i [] w)
    (hg:sCap < xs.length + ys.length) (h63:xs.length + ys.length≤9223372036854775807) (hfit:Builtin.nextslicecap (xs.length + ys.length) sCap * j.bytes≤281474976710656) :
    ∃ v w',(Builtin.append_ c.argTypes ty #[vx,vy]).run P w = .ok v w'∧Post S i [] w (.d (.sl (xs ++ ys))) [] v w' ∧
      (i nl = none→Post S i [] w (.ap nl j.size (xs ++ ys)) [(nl,.tok ((xs ++ ys).length * j.size))] v w'):=by
  obtain ⟨new,hn1,hn2,hn3,hn4⟩:=src_ok (P:=P) hsrc hvy hyz
  obtain ⟨old,ho1,ho2,ho3,ho4⟩:=src_ok (P:=P) (x:=.d (.sl xs)) (i:=i) rfl (.d hx) hxz
  have hcell:∀ a v,S.cell a = some v→w.drew.cell? a = some v:=fun a v h=>by rw [World.cell?_drew]; exact hh.cell a v h
  subst hvx
  have h0:c.argTypes[0]? = some t:=arr0 ht
  have h1:c.argTypes[1]? = some u:=by rw [←Array.getElem?_toList,ht]; rfl
  have hrun:=run_append_grows' (P:=P) (w:=w) (ty:=ty) h0 h1 hut huu hd hj hz0 (hn4 w hh.cell).1 (hn4 w.drew hcell).2 (ho4 w.drew hcell).2 hg h63 hfit
  have hcap:=grownCap_ge w (xs.length + ys.length) sCap e
  generalize hgc:grownCap w (xs.length + ys.length) sCap e = cap at *
  generalize hC:old.toArray ++ new.toArray ++ Builtin.zeroCells z0.cells (cap - (xs.length + ys.length)) = C at *
  have hnb:NewBlk w (w.drew.alloc (.cells C e)) C e (0,0):=by
    have:=newblk_alloc w.drew C e
    exact ⟨this.size,this.old,this.new,this.os,this.out,this.tape⟩
  have hl:(old ++ new).length = (xs ++ ys).length * j.size:=by simp [ho1,hn1,Nat.add_mul]
  have hzs:∀ d∈xs ++ ys,d.cells.length = j.size:=fun d hd=>(List.mem_append.1 hd).elim (hxz d) (hyz d)
  have hdv:DV (S.add w.heap.size ((xs ++ ys).length * j.size) C) (.sl (xs ++ ys)) (.slice (some ⟨w.heap.size,0,none⟩) (xs ++ ys).length cap):=by
    refine dv_new (cs:=old ++ new) hh hzs (fun d hd=>?_) hl (fun m hm=>?_) (fun m h1 h2=>?_) (by simpa using hcap)
    · rw [flat_append] at hd
      exact (List.mem_append.1 hd).elim (ho2 d) (hn2 d)
    · rw [←hC]
      have:(old.toArray ++ new.toArray).toList = old ++ new:=by simp
      rw [Array.getElem?_append_left (by simpa using hm),←Array.getElem?_toList,this,List.getElem?_eq_getElem hm]
    · have hfx:=flat_len hxz
      simp only [flat_append]
      by_cases hm:m < (flat xs).length
      · rw [List.getElem_append_left hm,List.getElem_append_left (by omega)]
        exact ho3 m hm (by omega)
      · have h1':m < (flat xs).length + (flat ys).length:=by simpa [flat_append] using h1
        rw [List.getElem_append_right (by omega),List.getElem_append_right (by omega)]
        have:=hn3 (m - (flat xs).length) (by omega) (by simp at h2; omega)
        have he:m - old.length = m - (flat xs).length:=by omega
        simp only [he]
        exact this
  have hlen:(xs ++ ys).length = xs.length + ys.length:=by simp
  rw [←hlen] at hrun
  refine ⟨_,_,hrun,post_seal (k:=(xs ++ ys).length * j.size) hh hnb (.d hdv),fun hf=>post_tok (k:=(xs ++ ys).length * j.size) hh hnb hf ?_⟩
  refine .ap (n:=C.size) (by simp [Emb.set]) hdv hzs (by simp [Seal.add]) ?_
  rw [←hC]
  simp only [Array.size_append,size_zeroCells,←hzz,hzl,List.size_toArray,ho1,hn1]
  rw [←Nat.add_mul,←Nat.add_mul]
  exact Nat.mul_le_mul_right _ (by omega)

theorem ok_app {c:Call} {x y:Operand} {a b:Arg} {t u e:TypeId} {ts:List TypeId} {zz:List D} {j:TypeInfo} (hop:o.op = .call c) (hc:c.callee = .builtin .append)
    (ha:c.args.toList = [x,y]) (hx:argA x = some a) (hy:argA y = some b) (ht:c.argTypes.toList = t :: u :: ts) (hu:und P t = .slice e) (hu2:(∃ e',und P u = .slice e')∨und P u = .string)
    (hz:zeroA P e = some zz) (hj:P.info? e = some j) (h:evOp own nl (evA args) H (.app a b j.size j.bytes zz) = some q) (hs:q.side):OpT P (evL args) o q.hin q.r q.hout:=by
  obtain ⟨j',z0,hj',hz0,hcz⟩:=zeroA_inv hz
  rw [hj] at hj'
  cases hj'
  have hzz:zz.length = z0.cells.size:=by simpa using (constDs_at hcz).1
  have hut:=und_some hu (by simp)
  obtain ⟨d,hd,huu⟩:∃ d,((∃ e',d = .slice e')∨d = .string)∧P.underlying u = some d:=by
    rcases hu2 with ⟨e',h⟩ | h
    · exact ⟨_,.inl ⟨e',rfl⟩,und_some h (by simp)⟩
    · exact ⟨_,.inr rfl,und_some h (by simp)⟩
  have hexec:∀ (ρ:Operand→Value) (w:World),(execOp ρ o).run P w = ((Builtin.append_ c.argTypes o.type #[ρ x,ρ y]).run P w).andThen fun v w'=>.ok (.value v) w':=by
    intro ρ w
    simp only [execOp,hop,resolve,hc,arr2 ha,List.map_toArray,List.map_cons,List.map_nil,Sem.run_bind,Sem.run_pure,Result.andThen_ok,invoke,builtin]
  have h0:c.argTypes[0]? = some t:=arr0 ht
  have h1:c.argTypes[1]? = some u:=by rw [←Array.getElem?_toList,ht]; rfl
  -- onto nothing
  have onNil:∀ (own:Bool) (yv:AV) (ys:List D) (S:Seal) (i:Emb) (w:World) (ρ:Operand→Value),ρ x = .slice none 0 0→toSrc yv = some ys→V S i yv (ρ y)→HeapRel S i [] w →
      zz.length = j.size→0 < j.bytes→ys.length * j.bytes≤281474976710656→(∀ d∈ys,d.cells.length = j.size) →
      (own = true→i nl = none)→Ends P (Post S i [] w (bif own then .ap nl j.size ys else .d (.sl ys)) (bif own then [(nl,.tok (ys.length * j.size))] else [])) ((execOp ρ o).run P w):=by
    intro own yv ys S i w ρ hxn hsrc hvy hh hzl hb hfit hyz hf
    rw [hexec,hxn]
    cases ys with
    | nil =>
      obtain ⟨new,hn1,hn2,hn3,hn4⟩:=src_ok (P:=P) hsrc hvy hyz
      rw [run_append_none' h0 h1 hut huu hd hj (hn4 w hh.cell).1 (hn4 w hh.cell).2,Result.andThen_ok]
      cases own with
      | false=>exact postSame (.d .nilsl) hh
      | true =>
        have hf:=hf rfl
        refine ⟨S,i,.apn,⟨hh.cell,hh.size,fun l o hm=>?_,fun l o l' o' b hm hm' _ _=>?_,hh.dom,hh.gr⟩,fun _ _ h=>h,⟨.refl S,Nat.le_refl _,fun _ _ _=>rfl,fun _ _ h=>.inl h,fun _ _ h=>.inl h,?_,rfl,rfl,rfl⟩,fun _ _ h=>.inl h⟩
        · simp only [cond_true,List.mem_singleton,Prod.mk.injEq] at hm
          exact .inr ⟨by rw [hm.1]; exact hf,by rw [hm.2]; simp [AObj.nil0]⟩
        · simp only [cond_true,List.mem_singleton,Prod.mk.injEq] at hm hm'
          rw [hm.1,hm'.1]
        · rintro b ⟨l,o,hm,hb⟩
          simp only [cond_true,List.mem_singleton,Prod.mk.injEq] at hm
          rw [hm.1,hf] at hb; cases hb
    | cons y0 yr =>
      have hnc:Builtin.nextslicecap ((y0 :: yr).length) 0 = (y0 :: yr).length:=nextslicecap_zero (by simp)
      have hlen:(y0 :: yr).length≤281474976710656:=Nat.le_trans (Nat.le_mul_of_pos_right _ hb) hfit
      obtain ⟨v,w',hr,hp1,hp2⟩:=app_new (nl:=nl) (ty:=o.type) (base:=none) (xs:=[]) (sCap:=0) ht hut huu hd hj hz0 hzz hzl rfl .nilsl (by simp) hsrc hvy hyz hh (by simp)
        (by simp at hlen ⊢; omega) (by rw [show ([]:List D).length + (y0 :: yr).length = (y0 :: yr).length by simp,hnc]; exact hfit)
      simp only [List.length_nil] at hr
      rw [hr,Result.andThen_ok]
      cases own with
      | false=>exact hp1
      | true=>exact hp2 (hf rfl)
  simp only [evOp] at h
  split at h
  · -- nil
    rename_i ys hax hys
    simp only [Option.bind_eq_some_iff] at hys
    obtain ⟨yv,hyv,hsrc⟩:=hys
    cases own with
    | true =>
      simp only [cond_true] at h
      cases h
      obtain ⟨hs1,hs2,hs3,hs4⟩:=hs
      refine ⟨by simp [hop],fun S i w ρ hev hh hf=>?_⟩
      have hxv:ρ x = .slice none 0 0:=by
        have:=argV hev hx hax
        generalize ρ x = v at this
        cases this; rfl
      exact onNil true yv ys S i w ρ hxv hsrc (argV hev hy hyv) hh hs1 hs2 hs3 hs4 (fun _=>hf nl (by simp [AHeap.keys]) (by simp [AHeap.keys]))
    | false =>
      simp only [cond_false] at h
      cases h
      obtain ⟨hs1,hs2,hs3,hs4⟩:=hs
      refine ⟨by simp [hop],fun S i w ρ hev hh hf=>?_⟩
      have hxv:ρ x = .slice none 0 0:=by
        have:=argV hev hx hax
        generalize ρ x = v at this
        cases this; rfl
      exact onNil false yv ys S i w ρ hxv hsrc (argV hev hy hyv) hh hs1 hs2 hs3 hs4 (fun h=>by cases h)
  · rename_i l z' xs ys hax hys
    simp only [Option.bind_eq_some_iff] at hys
    obtain ⟨yv,hyv,hsrc⟩:=hys
    cases hzb:Nat.beq j.size z' <;> rw [hzb] at h <;> try cases h
    have hzeq:=Nat.eq_of_beq_eq_true hzb
    subst hzeq
    split at h <;> first | cases h | skip
    obtain ⟨hne,hn,hzl,hb,hfit,hyz⟩:=hs
    rename_i n _
    refine ⟨by simp [hop],fun S i w ρ hev hh hf=>?_⟩
    have hvx:=argV hev hx hax
    have hvy:=argV hev hy hyv
    have hnone:i nl = none:=hf nl (by simp [AHeap.keys]) (by simp [AHeap.keys,hne])
    have hh0:HeapRel S i [] w:=hh.perm (fun x hx=>by cases hx)
    have hkeys:∀ k∈AHeap.keys [(nl,AObj.tok ((xs ++ ys).length * j.size))],k ∉ AHeap.keys [(l,AObj.tok n)]:=by simp [AHeap.keys,hne]
    generalize hvx':ρ x = vx at hvx
    have hlen:xs.length + ys.length≤140737488355328:=by
      have h1:(xs.length + ys.length) * 2≤(xs.length + ys.length) * 2 * j.bytes:=Nat.le_mul_of_pos_right _ hb
      omega
    have hfit1:(xs.length + ys.length) * 2 * j.bytes = 2 * (xs.length + ys.length) * j.bytes:=by rw [Nat.mul_comm _ 2]
    cases hvx with
    | apn =>
      have hfit2:ys.length * j.bytes≤281474976710656:=by
        refine Nat.le_trans (Nat.mul_le_mul_right _ ?_) hfit
        simp; omega
      exact (onNil true yv ys S i w ρ hvx' hsrc hvy hh0 hzl hb hfit2 hyz (fun _=>hnone)).mono fun v w' hp=>hp.more hkeys
    | ap hi hdx hzx hNs hcN =>
      rename_i bb cap N
      rcases hh.obj l (.tok n) List.mem_cons_self with ⟨b',hb',C,eb,hC,hns⟩ | ⟨hno,_⟩
      case inr=>rw [hi] at hno; cases hno
      rw [hi] at hb'
      cases hb'
      obtain ⟨c1,e1,f1,h1',hN⟩:=hh.size _ _ hNs
      rw [hC] at h1'
      cases h1'
      have hcapx:xs.length≤cap:=by
        rcases dSlice hdx with ⟨h0,h00⟩ | ⟨_,_,_,_,_,h00,_,_,hle,_⟩ | ⟨h0,a,h00⟩
        · cases h00
        · cases h00; exact hle
        · rw [h0]; exact Nat.zero_le _
      by_cases hroom:xs.length + ys.length≤cap
      · -- there is room
        obtain ⟨new,hn1,hn2,hn3,hn4⟩:=src_ok (P:=P) hsrc hvy hyz
        have hone:∀ v∈new,v.oneCell' = true:=by
          intro v hv
          obtain ⟨m,hm,rfl⟩:=List.getElem_of_mem hv
          have hm':m < (flat ys).length:=by rw [flat_len hyz]; omega
          exact one_of_dv (hn3 m hm' hm) (hn2 _ (List.getElem_mem hm'))
        have hfitC:xs.length * j.size + new.length≤C.size:=by
          rw [hn1,←Nat.add_mul,hN]
          exact Nat.le_trans (Nat.mul_le_mul_right _ hroom) hcN
        rw [hexec,hvx',run_append_room' h0 h1 hut huu hd hj (hn4 w hh.cell).1 (hn4 w hh.cell).2 hC hone hroom hfitC,Result.andThen_ok]
        generalize hC':(C.toList.take (xs.length * j.size) ++ new ++ C.toList.drop (xs.length * j.size + new.length)).toArray = C'
        have hsz:C'.size = C.size:=by rw [←hC']; simp; omega
        have hkeep:∀ m,m < n→C'[m]? = C[m]?:=by
          intro m hm
          rw [←hC']
          simp only [List.getElem?_toArray]
          rw [List.getElem?_append_left (by simp; omega),List.getElem?_append_left (by simp; omega),List.getElem?_take]
          rw [if_pos (by omega)]
          simp
        have hat:∀ m (h:m < new.length),C'[n + m]? = some new[m]:=by
          intro m hm
          rw [←hC']
          simp only [List.getElem?_toArray]
          rw [List.getElem?_append_left (by simp; omega),List.getElem?_append_right (by simp; omega)]
          have:n + m - (List.take (xs.length * j.size) C.toList).length = m:=by simp; omega
          rw [this,List.getElem?_eq_getElem hm]
        have hzs:∀ d∈xs ++ ys,d.cells.length = j.size:=fun d hd=>(List.mem_append.1 hd).elim (hzx d) (hyz d)
        have hk:(xs ++ ys).length * j.size = n + new.length:=by simp [hn1,hn,Nat.add_mul]
        have hfx:=flat_len hzx
        have hup:S.le (S.ext bb n ((xs ++ ys).length * j.size) C'):=by
          refine ⟨fun a v ha=>?_,fun b n h=>h⟩
          simp only [Seal.ext]
          rw [if_neg]
          · exact ha
          · rintro ⟨h1,h2,h3,_⟩
            rw [hns a h1 h3] at ha; cases ha
        have hdv:DV (S.ext bb n ((xs ++ ys).length * j.size) C') (.sl (xs ++ ys)) (.slice (some ⟨bb,0,none⟩) (xs ++ ys).length cap):=by
          -- the old ones,and the new ones
          have hold:∃ f:Nat→Value,(∀ m,m < (flat xs).length→S.cell ⟨bb,0 + m,none⟩ = some (f m))∧(∀ m (hm:m < (flat xs).length),DV S (flat xs)[m] (f m))∧∀ d∈flat xs,d.isAgg = false:=by
            rcases dSlice hdx with ⟨h0,h00⟩ | ⟨b,o',cp,z',f,h00,_,hgx,_,hsx,hvx⟩ | ⟨h0,a,h00⟩
            · cases h00
            · cases h00; exact ⟨f,hsx,hvx,hgx⟩
            · subst h0; exact ⟨fun _=>undef,by simp [flat],by simp [flat],by simp [flat]⟩
          obtain ⟨f,hf1,hf2,hf3⟩:=hold
          refine .sl (fun m=>if m < n then f m else new.getD (m - n) undef) hzs (fun d hd=>?_) (by simpa using hroom) (fun m hm=>?_) fun m hm=>?_
          · rw [flat_append] at hd
            exact (List.mem_append.1 hd).elim (hf3 d) (hn2 d)
          · have hmk:m < n + new.length:=by rw [flat_len hzs] at hm; omega
            by_cases hmn:m < n
            · rw [if_pos hmn]
              exact hup.cell _ _ (hf1 m (by omega))
            · rw [if_neg hmn]
              simp only [Seal.ext]
              rw [if_pos ⟨trivial,trivial,by show n≤0 + m; omega,by show 0 + m < _; omega⟩]
              show C'[0 + m]? = _
              have h2:m - n < new.length:=by omega
              have:=hat (m - n) h2
              rw [show n + (m - n) = 0 + m by omega] at this
              rw [this]
              simp [List.getD,h2]
          · have hmk:m < n + new.length:=by rw [flat_len hzs] at hm; omega
            simp only [flat_append]
            by_cases hmn:m < n
            · rw [if_pos hmn,List.getElem_append_left (by omega)]
              exact (hf2 m (by omega)).mono hup
            · rw [if_neg hmn,List.getElem_append_right (by omega)]
              have h2:m - n < new.length:=by omega
              have h3:m - (flat xs).length < (flat ys).length:=by rw [flat_len hyz]; omega
              have:=(hn3 (m - (flat xs).length) h3 (by omega)).mono hup
              have he:m - n = m - (flat xs).length:=by omega
              simp only [he] at h2 ⊢
              simpa [List.getD,h2] using this
        refine post_room hh hi hC hns hsz hkeep hnone hne ?_ (by omega)
        have hr:V (S.ext bb n ((xs ++ ys).length * j.size) C') (i.set nl bb) (.ap nl j.size (xs ++ ys)) (.slice (some ⟨bb,0,none⟩) (xs ++ ys).length cap) :=
          .ap (n:=N) (by simp [Emb.set]) hdv hzs hNs hcN
        simpa using hr
      · -- there is none
        have hfitg:Builtin.nextslicecap (xs.length + ys.length) cap * j.bytes≤281474976710656 :=
          Nat.le_trans (Nat.mul_le_mul_right _ (nextslicecap_le (by omega))) (by omega)
        obtain ⟨v,w',hr,hp1,hp2⟩:=app_new (nl:=nl) (ty:=o.type) ht hut huu hd hj hz0 hzz hzl rfl hdx hzx hsrc hvy hyz hh0 (by omega) (by omega) hfitg
        rw [hexec,hvx',hr,Result.andThen_ok]
        exact (hp2 hnone).more hkeys
  · -- into a block of our own
    rename_i ys hax hys
    simp only [Option.bind_eq_some_iff] at hys
    obtain ⟨yv,hyv,hsrc⟩:=hys
    generalize hzb:Nat.beq j.size _ = bz at h
    cases bz
    · cases h
    simp only [cond_true] at h
    have hzeq:=Nat.eq_of_beq_eq_true hzb
    subst hzeq
    split at h <;> first | cases h | skip
    rename_i L _
    obtain ⟨hzl,hb,hroom,hfit,hyz⟩:=hs
    refine ⟨by simp [hop],fun S i w ρ hev hh hf=>?_⟩
    have hvx:=argV hev hx hax
    have hvy:=argV hev hy hyv
    generalize hvx':ρ x = vx at hvx
    cases hvx with
    | sl hi =>
      rename_i bb
      rcases hh.obj _ (.cells L) List.mem_cons_self with ⟨b',hb',C,eb,hC,hsz,hval,hns⟩ | ⟨hno,_⟩
      case inr=>rw [hi] at hno; cases hno
      rw [hi] at hb'
      cases hb'
      obtain ⟨new,hn1,hn2,hn3,hn4⟩:=src_ok (P:=P) hsrc hvy hyz
      have hfy:=flat_len hyz
      have hone:∀ v∈new,v.oneCell' = true:=by
        intro v hv
        obtain ⟨m,hm,rfl⟩:=List.getElem_of_mem hv
        have hm':m < (flat ys).length:=by omega
        exact one_of_dv (hn3 m hm' hm) (hn2 _ (List.getElem_mem hm'))
      have hle:=Nat.mul_le_mul_right j.size hroom
      rw [Nat.add_mul] at hle
      rw [hexec,hvx',run_append_room' h0 h1 hut huu hd hj (hn4 w hh.cell).1 (hn4 w hh.cell).2 hC hone hroom (by omega),Result.andThen_ok]
      rename_i n _ _ _
      obtain ⟨u1,u2⟩:=upd_at L (n * j.size) ((flat ys).map .d) (by simp only [List.length_map]; omega)
      refine post_store hh hi hC hns rfl (by simp; omega) (by rw [u1]; simp; omega) (fun k k1 k2=>?_) (.sl hi)
      rw [u2 k k1]
      have hk:k < C.size:=by rw [u1] at k1; omega
      by_cases hin:n * j.size≤k∧k < n * j.size + ((flat ys).map AV.d).length
      · rw [dif_pos hin]
        obtain ⟨q1,q2⟩:=hin
        simp only [List.length_map] at q2
        have hm:k - n * j.size < new.length:=by omega
        have:=hn3 (k - n * j.size) (by omega) hm
        have e:(C.toList.take (n * j.size) ++ new ++ C.toList.drop (n * j.size + new.length)).toArray[k]? = some new[k - n * j.size]:=by
          simp only [List.getElem?_toArray]
          rw [List.getElem?_append_left (by simp; omega),List.getElem?_append_right (by simp; omega)]
          have:k - (List.take (n * j.size) C.toList).length = k - n * j.size:=by simp; omega
          rw [this,List.getElem?_eq_getElem hm]
        have e2:=(Array.getElem?_eq_some_iff.1 e).2
        rw [e2]
        simp only [List.getElem_map]
        exact .d this
      · rw [dif_neg hin]
        simp only [List.length_map] at hin
        have:=hval k (by omega) hk
        have e:(C.toList.take (n * j.size) ++ new ++ C.toList.drop (n * j.size + new.length)).toArray[k]? = some C[k]:=by
          simp only [List.getElem?_toArray]
          by_cases hlt:k < n * j.size
          · rw [List.getElem?_append_left (by simp; omega),List.getElem?_append_left (by simp; omega),List.getElem?_take,if_pos hlt]
            simp [hk]
          · rw [List.getElem?_append_right (by simp; omega),List.getElem?_drop]
            have:n * j.size + new.length + (k - (List.take (n * j.size) C.toList ++ new).length) = k:=by simp; omega
            rw [this]
            simp [hk]
        have e2:=(Array.getElem?_eq_some_iff.1 e).2
        rw [e2]
        have hL:k < L.length:=by omega
        simpa [hL] using this
  · cases h
end
end Go.Proofs.Abs
end
section
namespace Go.Proofs.Abs
open Go
section
variable {P:Program} {args:List (Nat×AV)} {H:AHeap} {o:Oper} {own:Bool} {nl:Nat} {q:Out}

theorem DV.plain {S:Seal} {d:D} {v:Value} (h:DV S d v):∀ c∈d.cells,c.isAgg = false:=by
  intro c hc
  cases h with
  | agg hl hs _=>exact hs c hc
  | _=>simp [D.cells] at hc; subst hc; rfl

theorem flat_at {l:List D} {z:Nat} (hz:∀ d∈l,d.cells.length = z):∀ {n m:Nat} (hn:n < l.length) (_:m < z),∃ h1:n * z + m < (flat l).length,∃ h2:m < l[n].cells.length,(flat l)[n * z + m] = l[n].cells[m]:=by
  induction l with
  | nil=>intro n m hn; simp at hn
  | cons x r ih =>
    intro n m hn hm
    have hx:=hz x List.mem_cons_self
    have hr:∀ {n m:Nat} (hn:n < r.length) (_:m < z),∃ h1:n * z + m < (flat r).length,∃ h2:m < r[n].cells.length,(flat r)[n * z + m] = r[n].cells[m] :=
      fun hn hm=>ih (fun d hd=>hz d (List.mem_cons_of_mem _ hd)) hn hm
    have hfl:flat (x :: r) = x.cells ++ flat r:=rfl
    cases n with
    | zero =>
      refine ⟨by rw [hfl,List.length_append]; omega,by simp; omega,?_⟩
      simp only [hfl,Nat.zero_mul,Nat.zero_add,List.getElem_cons_zero]
      rw [List.getElem_append_left (by omega)]
    | succ n =>
      obtain ⟨h1,h2,h3⟩:=hr (n:=n) (m:=m) (by simpa using hn) hm
      refine ⟨by rw [hfl,List.length_append,Nat.succ_mul]; omega,by simpa using h2,?_⟩
      simp only [hfl,List.getElem_cons_succ]
      rw [List.getElem_append_right (by rw [Nat.succ_mul]; omega)]
      have:(n + 1) * z + m - x.cells.length = n * z + m:=by rw [Nat.succ_mul]; omega
      simp only [this]
      exact h3

theorem ok_iaddr {t e:TypeId} {x k:Operand} {a b:Arg} {j:TypeInfo} (hop:o.op = .indexAddr t x k) (hx:argA x = some a) (hk:argA k = some b) (hu:und P t = .slice e) (hj:P.info? e = some j)
    (h:evOp own nl (evA args) H (.iaddr a b j.size) = some q) (hs:q.side):OpT P (evL args) o q.hin q.r q.hout:=by
  have hund:=und_some hu (by simp)
  have hrun:∀ (ρ:Operand→Value) (w:World) bl off len cap kk n,ρ x = .slice (some ⟨bl,off,none⟩) len cap→ρ k = .int kk n→0≤n→n < (len:Int) →
      (execOp ρ o).run P w = .ok (.value (.pointer (some ⟨bl,off + n.toNat * j.size,none⟩))) w:=by
    intro ρ w bl off len cap kk n h1 h2 h3 h4
    simp only [execOp,hop,Instr.indexAt,h1,h2,asIntOf,Sem.run_bind,Sem.run_pure,Result.andThen_ok,run_und hund]
    rw [if_pos ⟨h3,h4⟩]
    simp only [Sem.run_bind,run_sizeOf hj,Result.andThen_ok,Sem.run_pure,addr_add]
  simp only [evOp] at h
  split at h
  · rename_i l off len cap z' kk n hax hbn
    cases hzb:Nat.beq j.size z' <;> rw [hzb] at h <;> try cases h
    obtain ⟨h1,h2⟩:=hs
    refine .pure (by simp [hop]) fun S i w ρ hev hh=>?_
    have hv:=argV hev hx hax
    have hn:=vInt (argV hev hk hbn)
    generalize hux:ρ x = u at hv
    cases hv with
    | sl hi=>exact ⟨_,hrun ρ w _ _ _ _ _ _ hux hn h1 h2,.ptr hi⟩
  · rename_i y kk n hne hax hbn
    simp only [Option.bind_eq_some_iff,out] at h
    obtain ⟨l,hl,h⟩:=h
    cases h
    obtain ⟨h1,h2,h3⟩:=hs
    refine .pure (by simp [hop]) fun S i w ρ hev hh=>?_
    have hd:=toSl_ok hl (argV hev hx hax)
    have hn:=vInt (argV hev hk hbn)
    rcases dSlice hd with ⟨rfl,_⟩ | ⟨bl,off,cap,z,f,hv,hz,hg,hc,hsl,hall⟩ | ⟨rfl,_⟩
    case inr.inr=>simp at h2; omega
    · simp at h2; omega
    · have hlt:n.toNat < l.length:=by omega
      have hat:at' l n.toNat = l[n.toNat]:=by simp [at',List.getD,hlt]
      have hzz:z = j.size:=by rw [←h3,hat]; exact (hz _ (List.getElem_mem hlt)).symm
      subst hzz
      refine ⟨_,hrun ρ w _ _ _ _ _ _ hv hn h1 (by omega),?_⟩
      rw [hat]
      rw [hat] at h3
      have:=V.cp (S:=S) (i:=i) (x:=l[n.toNat]) (b:=bl) (o:=off + n.toNat * j.size) (off:=0) (fun m=>f (n.toNat * j.size + m)) (fun c hc=>hg c (List.mem_flatMap.2 ⟨_,List.getElem_mem hlt,hc⟩))
        (fun m hm=>by
          obtain ⟨q1,q2,q3⟩:=flat_at hz hlt (m:=m) (by omega)
          rw [Nat.add_assoc]
          exact hsl _ q1)
        (fun m hm=>by
          obtain ⟨q1,q2,q3⟩:=flat_at hz hlt (m:=m) (by omega)
          rw [←q3]
          exact hall _ q1)
      simpa using this
  · cases h

theorem ok_idx {t:TypeId} {x k:Operand} {a b:Arg} (hop:o.op = .index t x k) (hx:argA x = some a) (hk:argA k = some b) (hu:und P t = .string)
    (h:evOp own nl (evA args) H (.idx a b) = some q) (hs:q.side):OpT P (evL args) o q.hin q.r q.hout:=by
  have hund:=und_some hu (by simp)
  simp only [evOp] at h
  split at h <;> first | cases h | skip
  rename_i s kk n hax hbn
  obtain ⟨h1,h2⟩:=hs
  refine .pure (by simp [hop]) fun S i w ρ hev hh=>⟨_,?_,.d .int⟩
  have hv:=vStr (argV hev hx hax)
  have hn:=vInt (argV hev hk hbn)
  have hlt:n.toNat < s.length:=by omega
  have hq:(⟨s.toArray⟩:ByteArray)[n.toNat]? = some (s.getD n.toNat 0):=by
    have h3:n.toNat < (⟨s.toArray⟩:ByteArray).size:=by simpa [ByteArray.size] using hlt
    rw [getElem?_pos (⟨s.toArray⟩:ByteArray) n.toNat h3]
    simp [List.getD,hlt,ByteArray.getElem_eq_getElem_data]
  simp only [execOp,hop,Instr.index,hv,hn,asIntOf,Sem.run_bind,Sem.run_pure,Result.andThen_ok,run_und hund,if_pos h1,hq]

theorem ok_fld {s:TypeId} {x:Operand} {f:Nat} {a:Arg} {fs:Array Field} {fd:Field} {j:TypeInfo} {d:TypeDesc} (hop:o.op = .field s x f) (hx:argA x = some a) (hu:und P s = .struct fs) (hfd:fs[f]? = some fd)
    (hj:P.info? fd.type = some j) (hd:P.underlying fd.type = some d) (h:evOp own nl (evA args) H (.fld a fd.offset j.size (isAggD d)) = some q) (hs:q.side):OpT P (evL args) o q.hin q.r q.hout:=by
  have hund:=und_some hu (by simp)
  simp only [evOp] at h
  split at h <;> first | cases h | skip
  rename_i cs hcs
  have base:∀ (S:Seal) (i:Emb) (w:World) (ρ:Operand→Value),(∀ x a,evL args x = some a→V S i a (ρ x))→∃ vs:List Value,cs.length = vs.length∧(∀ d∈cs,d.isAgg = false) ∧
      (∀ i (h1:i < cs.length) (h2:i < vs.length),DV S cs[i] vs[i])∧(execOp ρ o).run P w = ((part fd.type vs.toArray fd.offset).run P w).andThen fun v w'=>.ok (.value v) w':=by
    intro S i w ρ hev
    obtain ⟨vs,hv,h1,h2,h3⟩:=dAgg_cells (vD (argV hev hx hcs))
    refine ⟨vs,h1,h2,h3,?_⟩
    simp only [execOp,hop,Instr.field,Sem.run_bind,run_und hund,Result.andThen_ok,hfd,hv,asAgg,Sem.run_pure]
  cases hg:isAggD d with
  | true =>
    rw [hg] at h
    cases h
    have hle:fd.offset + j.size≤cs.length:=hs
    refine .pure (by simp [hop]) fun S i w ρ hev hh=>?_
    obtain ⟨vs,h1,h2,h3,h4⟩:=base S i w ρ hev
    refine ⟨.agg ((vs.drop fd.offset).take j.size).toArray,?_,.d (.agg (by simp; omega) (fun d hd=>h2 d (List.mem_of_mem_drop (List.mem_of_mem_take hd))) fun k k1 k2=>?_)⟩
    · rw [h4]
      simp only [part,Sem.run_bind,run_isAgg hd,hg,if_true,run_sizeOf hj,Result.andThen_ok,Sem.run_pure]
      congr 3
      simp only [List.extract_toArray,List.extract_eq_take_drop]
      congr 2
      omega
    · have:=h3 (fd.offset + k) (by simp at k1; omega) (by simp at k2; omega)
      simpa using this
  | false =>
    rw [hg] at h
    simp only [cond_false] at h
    split at h <;> first | cases h | skip
    rename_i c rest hdrop
    have hlt:fd.offset < cs.length:=by
      rcases Nat.lt_or_ge fd.offset cs.length with h | h
      · exact h
      · rw [List.drop_eq_nil_of_le h] at hdrop; cases hdrop
    have hc:cs[fd.offset] = c:=by
      rw [List.drop_eq_getElem_cons hlt] at hdrop
      injection hdrop
    refine .pure (by simp [hop]) fun S i w ρ hev hh=>?_
    obtain ⟨vs,h1,h2,h3,h4⟩:=base S i w ρ hev
    have hlt':fd.offset < vs.length:=by omega
    refine ⟨vs[fd.offset],?_,.d (hc ▸ h3 _ hlt hlt')⟩
    rw [h4]
    simp [part,run_isAgg hd,hg,hlt']

theorem ok_mkfn {f:FuncId} {caps:Array Operand} {l:List Arg} {first:Array Operand} (hop:o.op = .makeFunc (.func f) first caps) (hfirst:first.size = 0) (hl:argsA caps.toList = some l)
    (h:evOp own nl (evA args) H (.mkfn f l) = some q):OpT P (evL args) o q.hin q.r q.hout:=by
  have all:∀ {l:List Arg} {os:List Operand} {vs:List AV},argsA os = some l→allAV (evA args) l = some vs→os.length = vs.length∧∀ {S:Seal} {i:Emb} {ρ:Operand→Value},
      (∀ x a,evL args x = some a→V S i a (ρ x))→∀ k (h1:k < vs.length) (h2:k < os.length),V S i vs[k] (ρ os[k]):=by
    intro l
    induction l with
    | nil =>
      intro os vs h1 h2
      cases h2
      have:=(argsA_all h1).1
      cases os <;> simp at this
      exact ⟨rfl,fun _ k h1=>by simp at h1⟩
    | cons a r ih =>
      intro os vs h1 h2
      simp only [allAV] at h2
      split at h2 <;> first | cases h2 | skip
      rename_i x l' hx hl'
      cases os with
      | nil=>cases h1
      | cons y ys =>
        simp only [argsA] at h1
        split at h1 <;> first | cases h1 | skip
        rename_i hy hys
        obtain ⟨k1,k2⟩:=ih hys hl'
        refine ⟨by simp [k1],fun hev k h1 h2=>?_⟩
        cases k with
        | zero=>exact argV hev hy hx
        | succ k=>exact k2 hev k (by simpa using h1) (by simpa using h2)
  have hf0:first = #[]:=by
    apply Array.eq_empty_of_size_eq_zero hfirst
  simp only [evOp] at h
  split at h <;> first | cases h | skip
  · rename_i hvs
    obtain ⟨h1,h2⟩:=all hl hvs
    refine .pure (by simp [hop]) fun S i w ρ hev hh=>⟨.func (.func f) #[] #[],?_,.d .fn⟩
    have:caps = #[]:=by
      apply Array.eq_empty_of_size_eq_zero; simpa using h1
    simp [execOp,hop,Instr.makeFunc,hf0,this]
  · rename_i vs hvs
    obtain ⟨h1,h2⟩:=all hl hvs
    refine .pure (by simp [hop]) fun S i w ρ hev hh=>⟨.func (.func f) #[] (caps.toList.map ρ).toArray,?_,.fn (by simpa using h1.symm) fun k k1 k2=>?_⟩
    · simp only [execOp,hop,Instr.makeFunc,hf0]
      have:Array.map ρ caps = (List.map ρ caps.toList).toArray:=by apply Array.ext'; simp
      simp [this]
    · have:=h2 hev k k1 (by simpa using k2)
      simpa using this

theorem ok_cvi {s d:TypeId} {x:Operand} {a:Arg} {k k0:IntKind} (hop:o.op = .convert s d x) (hx:argA x = some a) (hs:und P s = .int k0) (hd:und P d = .int k)
    (h:evOp own nl (evA args) H (.cvi k a) = some q):OpT P (evL args) o q.hin q.r q.hout:=by
  have h1:=und_some hs (by simp)
  have h2:=und_some hd (by simp)
  simp only [evOp] at h
  split at h <;> first | cases h | skip
  rename_i k' n hn
  refine .pure (by simp [hop]) fun S i w ρ hev hh=>⟨_,?_,.d .int⟩
  have hv:=vInt (argV hev hx hn)
  simp only [execOp,hop,hv,convert,Sem.run_bind,run_und h1,run_und h2,Result.andThen_ok,Conv.intToInt]
  rfl

theorem ok_s2bs {s d e:TypeId} {x:Operand} {a:Arg} (hop:o.op = .convert s d x) (hx:argA x = some a) (hs:und P s = .string) (hd:und P d = .slice e) (he:und P e = .int .u8)
    (h:evOp own nl (evA args) H (.s2bs a) = some q):OpT P (evL args) o q.hin q.r q.hout:=by
  have h1:=und_some hs (by simp)
  have h2:=und_some hd (by simp)
  have h3:=und_some he (by simp)
  simp only [evOp] at h
  split at h <;> first | cases h | skip
  rename_i s' hn
  refine ⟨by simp [hop],fun S i w ρ hev hh _=>?_⟩
  have hv:=vStr (argV hev hx hn)
  simp only [execOp,hop,hv,Sem.run_bind,Lib.run_convert_string_bytes w s d e _ h1 h2 h3,Result.andThen_ok,Sem.run_pure,Ends]
  have hnb:NewBlk w (Lib.bytesWorld w e ⟨s'.toArray⟩) (Lib.bytesCells w e ⟨s'.toArray⟩) e _ :=
    ⟨Lib.bytesWorld_size w e _,fun b hb=>Lib.bytesWorld_at_old w e _ b hb,Lib.bytesWorld_at_new w e _,by simp [Lib.bytesWorld,World.freeze,World.alloc,World.drew,-World.alloc_eq,-World.drew_eq],by simp [Lib.bytesWorld,World.freeze,World.alloc,World.drew,-World.alloc_eq,-World.drew_eq],
      by simp [Lib.bytesWorld,World.freeze,World.alloc,World.drew,-World.alloc_eq,-World.drew_eq]⟩
  have hsz:(⟨s'.toArray⟩:ByteArray).size = s'.length:=by simp [ByteArray.size]
  have hcap:=grownCap_ge w s'.length 0 e
  refine post_seal (k:=s'.length) hh hnb (.d ?_)
  have:=dv_new (S:=S) (i:=i) (H:=[]) (w:=w) (xs:=s'.map byteD) (z:=1) (cap:=grownCap w s'.length 0 e) (c:=Lib.bytesCells w e ⟨s'.toArray⟩) (cs:=s'.map fun b=>.int .u8 b.toNat) hh
    (by intro d hd; simp at hd; obtain ⟨b,_,rfl⟩:=hd; rfl) (by rw [flat_bytes]; intro d hd; simp at hd; obtain ⟨b,_,rfl⟩:=hd; rfl) (by simp) (fun m hm=>?_) (fun m h1 h2=>?_) (by simpa using hcap)
  · simp only [List.length_map,Nat.mul_one] at this
    rw [hsz]
    exact this
  · have hm':m < s'.length:=by simpa using hm
    have hm2:m < (Array.map (fun b:UInt8=>Value.int .u8 (b.toNat:Int)) s'.toArray).size:=by simpa using hm'
    simp only [Lib.bytesCells]
    rw [Array.getElem?_append_left hm2]
    simp [hm']
  · have:∀ (k:Nat) (hk:k < (flat (s'.map byteD)).length),(flat (s'.map byteD))[k] = (s'.map byteD)[k]'(by rw [flat_bytes] at hk; exact hk):=by
      intro k hk
      simp only [flat_bytes]
    rw [this]
    simp only [List.getElem_map]
    exact .int

theorem fold_set:∀ (v:List Value) (k off:Nat) (cells:Array Value),off + k + v.length≤cells.size →
    ((v.zipIdx k).foldl (fun cs (x:Value×Nat)=>cs.setIfInBounds (off + x.2) x.1) cells).size = cells.size ∧
    ∀ t,((v.zipIdx k).foldl (fun cs (x:Value×Nat)=>cs.setIfInBounds (off + x.2) x.1) cells)[t]? = if off + k≤t∧t < off + k + v.length then v[t - (off + k)]? else cells[t]?
  | [],k,off,cells,h=>by
    refine ⟨rfl,fun t=>?_⟩
    rw [if_neg (by simp only [List.length_nil]; omega)]
    rfl
  | x :: r,k,off,cells,h=>by
    simp only [List.length_cons] at h
    obtain ⟨h1,h2⟩:=fold_set r (k + 1) off (cells.setIfInBounds (off + k) x) (by rw [Array.size_setIfInBounds]; omega)
    simp only [List.zipIdx_cons,List.foldl_cons]
    refine ⟨by rw [h1]; simp,fun t=>?_⟩
    rw [h2 t]
    by_cases ht:t = off + k
    · subst ht
      rw [if_neg (by omega),if_pos (by simp)]
      have hlt:off + k < cells.size:=by omega
      rw [Array.getElem?_setIfInBounds_self,if_pos hlt]
      simp
    · by_cases hr:off + (k + 1)≤t∧t < off + (k + 1) + r.length
      · rw [if_pos hr,if_pos (by simp; omega)]
        have:t - (off + k) = (t - (off + (k + 1))) + 1:=by omega
        rw [this]; simp
      · rw [if_neg hr,if_neg (by simp; omega)]
        exact Array.getElem?_setIfInBounds_ne (Ne.symm ht)

theorem fill_seq {z:Nat}:∀ (vs:List Value) (k:Nat) (cells:Array Value),(∀ v∈vs,v.cells.size = z)→(k + vs.length) * z≤cells.size →
    ∃ out,Instr.fill (fun i=>some (i * z,z)) cells ((List.range' k vs.length).zip vs) = some out∧out.size = cells.size∧(∀ t,t < k * z→out[t]? = cells[t]?) ∧
      (∀ n m (hn:n < vs.length),m < z→out[(k + n) * z + m]? = vs[n].cells[m]?)∧∀ t,(k + vs.length) * z≤t→out[t]? = cells[t]?
  | [],k,cells,_,h=>⟨cells,rfl,rfl,fun _ _=>rfl,fun n m hn=>by simp at hn,fun _ _=>rfl⟩
  | v :: r,k,cells,hv,h=>by
    have hv0:=hv v List.mem_cons_self
    simp only [List.length_cons] at h
    have hm:(k + (r.length + 1)) * z = k * z + (r.length * z + z):=by rw [Nat.add_mul,Nat.succ_mul]
    have hm2:(k + 1 + r.length) * z = k * z + (r.length * z + z):=by rw [Nat.add_mul,Nat.succ_mul]; omega
    have hle:k * z + v.cells.size≤cells.size:=by omega
    obtain ⟨hs,hset⟩:=fold_set v.cells.toList 0 (k * z) cells (by simp; omega)
    generalize hC:(v.cells.toList.zipIdx 0).foldl (fun cs (x:Value×Nat)=>cs.setIfInBounds (k * z + x.2) x.1) cells = C at hs hset
    obtain ⟨out,ho,h1,h2,h3,h4⟩:=fill_seq r (k + 1) C (fun u hu=>hv u (List.mem_cons_of_mem _ hu)) (by omega)
    refine ⟨out,?_,by omega,fun t ht=>?_,fun n m hn hmz=>?_,fun t ht=>?_⟩
    · simp only [List.length_cons,List.range'_succ,List.zip_cons_cons,Instr.fill]
      rw [if_neg (by simp [hv0]; omega)]
      have:Array.foldl (fun cs (x:Value×Nat)=>cs.setIfInBounds (k * z + x.2) x.1) cells v.cells.zipIdx = C:=by
        rw [←hC,←Array.foldl_toList]
        congr 1
        simp
      have h':(Array.foldl (fun cs x=>match x with | (c,j)=>cs.setIfInBounds (k * z + j) c) cells v.cells.zipIdx) = C:=this
      rw [h']
      exact ho
    · rw [h2 t (by rw [Nat.succ_mul]; omega),hset t,if_neg (by omega)]
    · cases n with
      | zero =>
        rw [h2 _ (by rw [Nat.succ_mul]; simp; omega),hset,if_pos (by simp [hv0]; omega)]
        simp
      | succ n =>
        have:=h3 n m (by simpa using hn) hmz
        rw [show k + 1 + n = k + (n + 1) by omega] at this
        simpa using this
    · simp only [List.length_cons] at ht
      rw [h4 t (by omega),hset t,if_neg (by simp [hv0]; omega)]
end
end Go.Proofs.Abs
end
section
namespace Go.Proofs.Abs
open Go
section
variable {P:Program} {args:List (Nat×AV)} {H:AHeap} {o:Oper} {own:Bool} {nl:Nat} {q:Out}

theorem all_ok:∀ {l:List Arg} {os:List Operand} {vs:List AV},argsA os = some l→allAV (evA args) l = some vs→os.length = vs.length∧∀ {S:Seal} {i:Emb} {ρ:Operand→Value},
    (∀ x a,evL args x = some a→V S i a (ρ x))→∀ k (h1:k < vs.length) (h2:k < os.length),V S i vs[k] (ρ os[k]):=by
  intro l
  induction l with
  | nil =>
    intro os vs h1 h2
    cases h2
    have:=(argsA_all h1).1
    cases os <;> simp at this
    exact ⟨rfl,fun _ k h1=>by simp at h1⟩
  | cons a r ih =>
    intro os vs h1 h2
    simp only [allAV] at h2
    split at h2 <;> first | cases h2 | skip
    rename_i x l' hx hl'
    cases os with
    | nil=>cases h1
    | cons y ys =>
      simp only [argsA] at h1
      split at h1 <;> first | cases h1 | skip
      rename_i hy hys
      obtain ⟨k1,k2⟩:=ih hys hl'
      refine ⟨by simp [k1],fun hev k h1 h2=>?_⟩
      cases k with
      | zero=>exact argV hev hy hx
      | succ k=>exact k2 hev k (by simpa using h1) (by simpa using h2)

theorem partsA_all:∀ {ps:List (Nat×Operand)} {l:List (Nat×Arg)},partsA ps = some l→argsA (ps.map (·.2)) = some (l.map (·.2))∧ps.map (·.1) = l.map (·.1)
  | [],l,h=>by cases h; exact ⟨rfl,rfl⟩
  | (n,x) :: r,l,h=>by
    simp only [partsA] at h
    split at h <;> first | cases h | skip
    rename_i a l' ha hl
    obtain ⟨h1,h2⟩:=partsA_all hl
    exact ⟨by simp only [List.map_cons,argsA,ha,h1],by simp [h2]⟩

theorem natListBeq_eq:∀ {a b:List Nat},natListBeq a b = true→a = b
  | [],[],_=>rfl
  | [],_ :: _,h=>by cases h
  | _ :: _,[],h=>by cases h
  | a :: x,b :: y,h=>by
    simp only [natListBeq] at h
    cases hb:Nat.beq a b <;> rw [hb] at h
    · cases h
    · rw [Nat.eq_of_beq_eq_true hb,natListBeq_eq h]

theorem toE_ok {S:Seal} {i:Emb} {x:AV} {d:D} {v:Value} (h:toE x = some d) (hv:V S i x v):DV S d v:=by
  cases x <;> simp only [toE] at h <;> first | (cases h; done) | (injection h with h; subst h) | skip
  · exact vD hv
  · cases hv <;> first | exact .nilsl | assumption
  · cases hv with | win h hn=>exact dv_take h hn
  · cases hv; exact .nilsl
  · cases hv with | dn h=>exact h
theorem toEs_ok:∀ {l:List AV} {ds:List D},toEs l = some ds→ds.length = l.length∧∀ k (h1:k < ds.length) (h2:k < l.length),toE l[k] = some ds[k]
  | [],ds,h=>by cases h; simp
  | x :: r,ds,h=>by
    simp only [toEs] at h
    split at h <;> first | cases h | skip
    rename_i d l hd hl
    obtain ⟨h1,h2⟩:=toEs_ok hl
    refine ⟨by simp [h1],fun k k1 k2=>?_⟩
    cases k with
    | zero=>exact hd
    | succ k=>exact h2 k (by simpa using k1) (by simpa using k2)
theorem cellsAll_ok {z:Nat}:∀ {l:List AV} {cs:List AV},cellsAll l = some cs→(∀ x∈l,(cellsAV x).map (·.length) = some z)→cs.length = l.length * z ∧
    ∀ n m (hn:n < l.length) (_:m < z),∃ c,cellsAV l[n] = some c∧∃ h1:n * z + m < cs.length,∃ h2:m < c.length,cs[n * z + m] = c[m]
  | [],cs,h,_=>by cases h; simp
  | x :: r,cs,h,hz=>by
    simp only [cellsAll] at h
    split at h <;> first | cases h | skip
    rename_i c l hc hl
    obtain ⟨h1,h2⟩:=cellsAll_ok hl fun y hy=>hz y (List.mem_cons_of_mem _ hy)
    have hcz:c.length = z:=by
      have:=hz x List.mem_cons_self
      rw [hc] at this
      simpa using this
    refine ⟨by simp [h1,hcz,Nat.succ_mul]; omega,fun n m hn hm=>?_⟩
    cases n with
    | zero=>exact ⟨c,hc,by simp; omega,by omega,by simp only [Nat.zero_mul,Nat.zero_add]; rw [List.getElem_append_left (by omega)]⟩
    | succ n =>
      obtain ⟨c',q1,q2,q3,q4⟩:=h2 n m (by simpa using hn) hm
      refine ⟨c',q1,by rw [List.length_append,Nat.succ_mul]; omega,q3,?_⟩
      rw [List.getElem_append_right (by rw [Nat.succ_mul]; omega)]
      have:(n + 1) * z + m - c.length = n * z + m:=by rw [Nat.succ_mul]; omega
      simp only [this]
      exact q4

theorem dv_size {S:Seal} {d:D} {v:Value} (h:DV S d v):v.cells.size = d.cells.length∧∀ k (h1:k < d.cells.length) (h2:k < v.cells.size),DV S d.cells[k] v.cells[k]:=by
  cases h with
  | agg hl hs hall=>exact ⟨by simp [Value.cells,D.cells,hl],fun k h1 h2=>by simp only [D.cells,Value.cells,List.getElem_toArray]; exact hall k _ _⟩
  | _ =>
    refine ⟨by simp [Value.cells,D.cells],fun k h1 h2=>?_⟩
    have hk:k = 0:=by simp [D.cells] at h1; omega
    subst hk
    simp only [Value.cells,D.cells,List.getElem_cons_zero]
    first
      | exact .int | exact .bool | exact .str | exact .nilsl | exact .emp | exact .nilp | exact .nilf | exact .nili | exact .nilm | exact .fn
      | (exact .sl (by assumption) (by assumption) (by assumption) (by assumption) (by assumption) (by assumption))

theorem ok_bslice {t e:TypeId} {n:Nat} {parts:Array (Nat×Operand)} {ps:List (Nat×Arg)} {zz:List D} {j:TypeInfo} (hop:o.op = .buildSlice t n parts) (hu:und P t = .slice e)
    (hps:partsA parts.toList = some ps) (hz:zeroA P e = some zz) (hj:P.info? e = some j) (h:evOp own nl (evA args) H (.bslice n j.size zz ps) = some q) (hs:q.side) :
    OpT P (evL args) o q.hin q.r q.hout:=by
  have hund:=und_some hu (by simp)
  obtain ⟨j',z0,hj',hz0,hcz⟩:=zeroA_inv hz
  rw [hj] at hj'
  cases hj'
  have hzz:zz.length = z0.cells.size:=by simpa using (constDs_at hcz).1
  obtain ⟨hp1,hp2⟩:=partsA_all hps
  simp only [evOp] at h
  cases hb:natListBeq (ps.map (·.1)) (List.range n) <;> rw [hb] at h <;> try cases h
  have hidx:=natListBeq_eq hb
  split at h <;> first | cases h | skip
  rename_i vs hvs
  obtain ⟨hlen,hall⟩:=all_ok hp1 hvs
  have hn:vs.length = n:=by
    rw [←hlen]
    have:(ps.map (·.1)).length = n:=by rw [hidx]; simp
    simp only [List.length_map] at this ⊢
    rw [←this]
    have h2:=congrArg List.length hp2
    simpa using h2
  -- the run
  have run:∀ (S:Seal) (i:Emb) (w:World) (ρ:Operand→Value),(∀ x a,evL args x = some a→V S i a (ρ x))→(∀ k (h2:k < (parts.toList.map (·.2)).length),(ρ (parts.toList.map (·.2))[k]).cells.size = j.size) →
      n * j.size≤16777216→zz.length = j.size →
      ∃ C:Array Value,C.size = n * j.size∧(∀ k m (h2:k < (parts.toList.map (·.2)).length),m < j.size→C[k * j.size + m]? = (ρ (parts.toList.map (·.2))[k]).cells[m]?) ∧
        (execOp ρ o).run P w = .ok (.value (.slice (some ⟨w.heap.size,0,none⟩) n n)) (w.alloc (.cells C e)):=by
    intro S i w ρ hev hsz hle hzl
    have hpl:(parts.toList.map (·.2)).length = n:=by rw [hlen]; exact hn
    let us:=(parts.toList.map (·.2)).map ρ
    have hus:us.length = n:=by simp only [us,List.length_map]; simpa using hpl
    have hcs:∀ v∈us,v.cells.size = j.size:=by
      intro v hv
      obtain ⟨k,hk,rfl⟩:=List.getElem_of_mem hv
      have h1:=hsz k (by simpa [us] using hk)
      simp only [us,List.getElem_map] at h1 ⊢
      exact h1
    let zc:Array Value:=if n * j.size = 0 then #[] else z0.cells
    let C0:Array Value:=(Array.range (n * j.size)).map (fun x=>zc[x % zc.size]!)
    have hC0:C0.size = n * j.size:=by simp [C0]
    obtain ⟨C,hC,q1,q2,q3,q4⟩:=fill_seq (z:=j.size) us 0 C0 hcs (by rw [hus,Nat.zero_add,hC0]; exact Nat.le_refl _)
    refine ⟨C,by omega,fun k m h2 hm=>?_,?_⟩
    · have:=q3 k m (by rw [hus]; omega) hm
      simpa [us] using this
    · have hparts:(parts.map fun (p:Nat×Operand)=>(p.1,ρ p.2)).toList = (List.range' 0 us.length).zip us:=by
        have h1:parts.toList.map (·.1) = List.range n:=by rw [hp2]; exact hidx
        rw [hus,←List.range_eq_range',←h1]
        simp only [us,Array.toList_map]
        rw [List.map_map]
        rw [List.zip_map']
        rfl
      simp only [execOp,hop,Instr.buildSlice,Sem.run_bind,run_und hund,Result.andThen_ok,run_sizeOf hj]
      rw [if_neg (by omega)]
      have hC':Instr.fill (fun i=>some (i * j.size,j.size)) ((Array.range (n * j.size)).map (fun x=>zc[x % zc.size]!)) (parts.map fun (p:Nat×Operand)=>(p.1,ρ p.2)).toList = some C:=by
        rw [hparts]; exact hC
      by_cases hnz:n * j.size = 0
      · have hzc:zc = #[]:=by simp only [zc,if_pos hnz]
        rw [hzc] at hC'
        rw [if_pos hnz]
        simp only [Sem.run_bind,Sem.run_pure,Result.andThen_ok]
        rw [hC']
        rfl
      · have hzc:zc = z0.cells:=by simp only [zc,if_neg hnz]
        rw [hzc] at hC'
        rw [if_neg hnz]
        simp only [Sem.run_bind,Sem.run_pure,Result.andThen_ok,run_zeroValue hj hz0]
        rw [hC']
        rfl
  cases own with
  | false =>
    simp only [cond_false] at h
    split at h <;> first | cases h | skip
    rename_i ds hds
    obtain ⟨hzl,hle,hcells⟩:=hs
    obtain ⟨hd1,hd2⟩:=toEs_ok hds
    refine ⟨by simp [hop],fun S i w ρ hev hh _=>?_⟩
    have hel:∀ k (h1:k < ds.length) (h2:k < (parts.toList.map (·.2)).length),DV S ds[k] (ρ (parts.toList.map (·.2))[k]):=fun k h1 h2 =>
      toE_ok (hd2 k h1 (by omega)) (hall hev k (by omega) h2)
    obtain ⟨C,hC1,hC2,hC3⟩:=run S i w ρ hev (fun k h2=>by
      have h1:k < ds.length:=by omega
      rw [(dv_size (hel k h1 h2)).1,hcells _ (List.getElem_mem h1)]) hle hzl
    rw [hC3]
    refine post_seal (k:=ds.length * j.size) hh (newblk_alloc w C e) (.d ?_)
    have hnl:ds.length = n:=by omega
    have hfl:=flat_len hcells
    have hCs:C.toList.length = ds.length * j.size:=by simp [hC1,hnl]
    have:=dv_new (S:=S) (i:=i) (H:=[]) (w:=w) (xs:=ds) (cap:=n) (c:=C) (cs:=C.toList) hh hcells (fun d hd=>?_) hCs (fun m hm=>by simp at hm; simp [hm]) (fun m h1 h2=>?_) (by omega)
    · rw [hnl] at this ⊢
      exact this
    · obtain ⟨d',hd',hdc⟩:=List.mem_flatMap.1 hd
      obtain ⟨k,hk,rfl⟩:=List.getElem_of_mem hd'
      exact (hel k hk (by omega)).plain d hdc
    · have hjz:0 < j.size:=by
        rcases Nat.eq_zero_or_pos j.size with h0 | h0
        · rw [hfl,h0] at h1; simp at h1
        · exact h0
      have hdiv:m / j.size < ds.length:=by rw [hfl] at h1; exact (Nat.div_lt_iff_lt_mul hjz).2 h1
      have hmod:m % j.size < j.size:=Nat.mod_lt _ hjz
      have hm:m / j.size * j.size + m % j.size = m:=by rw [Nat.mul_comm]; exact Nat.div_add_mod m j.size
      obtain ⟨q1,q2,q3⟩:=flat_at hcells hdiv hmod
      have h3:=hC2 (m / j.size) (m % j.size) (by omega) hmod
      have h4:=dv_size (hel (m / j.size) hdiv (by omega))
      have h5:=h4.2 (m % j.size) q2 (by omega)
      simp only [hm] at q3 h3
      rw [q3]
      have h6:m < C.size:=by simpa using h2
      have h7:C.toList[m] = (ρ (parts.toList.map (·.2))[m / j.size]).cells[m % j.size]'(by omega):=by
        rw [getElem?_pos C m h6] at h3
        rw [getElem?_pos _ _ (by omega)] at h3
        simpa using h3
      rw [h7]
      exact h5
  | true =>
    simp only [cond_true] at h
    split at h <;> first | cases h | skip
    rename_i cs hcs
    obtain ⟨hzl,hle,hcells⟩:=hs
    obtain ⟨hk1,hk2⟩:=cellsAll_ok hcs hcells
    refine ⟨by simp [hop],fun S i w ρ hev hh hf=>?_⟩
    have hsize:∀ k (h2:k < (parts.toList.map (·.2)).length),(ρ (parts.toList.map (·.2))[k]).cells.size = j.size:=fun k h2=>by
      have h1:k < vs.length:=by omega
      have h3:=hcells _ (List.getElem_mem h1)
      simp only [Option.map_eq_some_iff] at h3
      obtain ⟨c,hc,hcl⟩:=h3
      rw [(cellsAV_ok hc (hall hev k h1 h2)).1,hcl]
    obtain ⟨C,hC1,hC2,hC3⟩:=run S i w ρ hev hsize hle hzl
    rw [hC3]
    refine post_own hh (newblk_alloc w C e) (hf nl (by simp [AHeap.keys]) (by simp [AHeap.keys])) (by rw [hC1,hk1,hn]) (fun m h1 h2=>?_) (.sl (by simp [Emb.set]))
    have hjz:0 < j.size:=by
      rcases Nat.eq_zero_or_pos j.size with h0 | h0
      · rw [hk1,h0] at h1; simp at h1
      · exact h0
    have hdiv:m / j.size < vs.length:=by rw [hk1] at h1; exact (Nat.div_lt_iff_lt_mul hjz).2 h1
    have hmod:m % j.size < j.size:=Nat.mod_lt _ hjz
    have hm:m / j.size * j.size + m % j.size = m:=by rw [Nat.mul_comm]; exact Nat.div_add_mod m j.size
    obtain ⟨c,q1,q2,q3,q4⟩:=hk2 (m / j.size) (m % j.size) hdiv hmod
    have h3:=hC2 (m / j.size) (m % j.size) (by omega) hmod
    have h4:=cellsAV_ok q1 (hall hev (m / j.size) hdiv (by omega))
    have h5:=h4.2 (m % j.size) q3 (by rw [hsize _ (by omega)]; exact hmod)
    simp only [hm] at q4 h3
    rw [q4]
    have h7:C[m] = (ρ (parts.toList.map (·.2))[m / j.size]).cells[m % j.size]'(by rw [hsize _ (by omega)]; exact hmod):=by
      rw [getElem?_pos C m h2] at h3
      rw [getElem?_pos _ _ (by rw [hsize _ (by omega)]; exact hmod)] at h3
      simpa using h3
    rw [h7]
    exact h5
end
end Go.Proofs.Abs
end
section
namespace Go.Proofs.Abs
open Go
section
variable {P:Program} {args:List (Nat×AV)} {H:AHeap} {o:Oper} {own:Bool} {nl:Nat} {q:Out}

theorem wrap_small {n:Int} (h0:0≤n) (h:n≤281474976710656):IntKind.i64.wrap n = n:=by
  rw [IntWalk.i64_left]; exact IntWalk.wrap64_in n (by omega)

theorem rep_at {α:Type} (n:Nat) (l:List α):∀ k (h:k < (List.replicate n l).flatten.length),∃ h2:k % l.length < l.length,(List.replicate n l).flatten[k] = l[k % l.length]:=by
  induction n with
  | zero=>intro k h; simp at h
  | succ n ih =>
    intro k h
    have hlen:(List.replicate (n + 1) l).flatten.length = l.length + (List.replicate n l).flatten.length:=by simp [List.replicate_succ]
    by_cases hk:k < l.length
    · have hm:k % l.length = k:=Nat.mod_eq_of_lt hk
      refine ⟨by omega,?_⟩
      simp only [hm,List.replicate_succ,List.flatten_cons]
      rw [List.getElem_append_left hk]
    · obtain ⟨h2,h3⟩:=ih (k - l.length) (by omega)
      have hm:k % l.length = (k - l.length) % l.length:=by
        rw [Nat.mod_eq_sub_mod (by omega)]
      refine ⟨by rw [hm]; exact h2,?_⟩
      simp only [List.replicate_succ,List.flatten_cons]
      rw [List.getElem_append_right (by omega),h3]
      simp only [hm]

theorem ok_mksl {t e:TypeId} {l c:Operand} {a b:Arg} {zz:List D} {j:TypeInfo} (hop:o.op = .makeSlice t l c) (hu:und P t = .slice e) (hl:argA l = some a) (hc:argA c = some b)
    (hz:zeroA P e = some zz) (hj:P.info? e = some j) (h:evOp own nl (evA args) H (.mksl a b j.size j.bytes zz) = some q) (hs:q.side):OpT P (evL args) o q.hin q.r q.hout:=by
  have hund:=und_some hu (by simp)
  obtain ⟨j',z0,hj',hz0,hcz⟩:=zeroA_inv hz
  rw [hj] at hj'
  cases hj'
  obtain ⟨hzz0,hzat⟩:=constDs_at hcz
  have hzz:zz.length = z0.cells.size:=by simpa using hzz0
  simp only [evOp] at h
  split at h <;> first | cases h | skip
  rename_i lk' ln ck cn hln hcn
  have run:∀ (S:Seal) (i:Emb) (w:World) (ρ:Operand→Value),(∀ x a,evL args x = some a→V S i a (ρ x))→0≤ln→ln≤cn→cn * j.bytes≤281474976710656→0 < j.bytes→zz.length = j.size →
      ∃ C:Array Value,C.size = cn.toNat * j.size∧(∀ k (h:k < C.size),∃ h2:k % zz.length < z0.cells.size,C[k] = z0.cells[k % zz.length]) ∧
        (execOp ρ o).run P w = .ok (.value (.slice (some ⟨w.heap.size,0,none⟩) ln.toNat cn.toNat)) (w.alloc (.cells C e)):=by
    intro S i w ρ hev h0 h1 h2 h3 h4
    have hlv:=vInt (argV hev hl hln)
    have hcv:=vInt (argV hev hc hcn)
    have hb:(1:Int)≤j.bytes:=by exact_mod_cast h3
    have hcn1:cn≤cn * j.bytes:=by
      have:=Int.mul_le_mul_of_nonneg_left hb (by omega:(0:Int)≤cn)
      omega
    have hw1:=wrap_small h0 (by omega:ln≤281474976710656)
    have hw2:=wrap_small (by omega:(0:Int)≤cn) (by omega:cn≤281474976710656)
    have hmc:(j.bytes:Int) * cn≤281474976710656:=by rw [Int.mul_comm]; exact h2
    have hlb:(j.bytes:Int) * ln≤(j.bytes:Int) * cn:=Int.mul_le_mul_of_nonneg_left h1 (by omega)
    let zc:Array Value:=if cn.toNat * j.size = 0 then #[] else z0.cells
    refine ⟨(Array.range (cn.toNat * j.size)).map (fun x=>zc[x % zc.size]!),by simp,fun k hk=>?_,?_⟩
    · have hk':k < cn.toNat * j.size:=by simpa using hk
      have hnz:¬ cn.toNat * j.size = 0:=by omega
      have hjz:0 < j.size:=by
        rcases Nat.eq_zero_or_pos j.size with h | h
        · rw [h] at hk'; simp at hk'
        · exact h
      have hmod:k % zz.length < z0.cells.size:=by rw [←hzz]; exact Nat.mod_lt _ (by omega)
      refine ⟨hmod,?_⟩
      have hzc:zc = z0.cells:=by simp only [zc,if_neg hnz]
      simp only [Array.getElem_map,Array.getElem_range,hzc,←hzz]
      exact getElem!_pos z0.cells (k % zz.length) hmod
    · simp only [execOp,hop,Instr.makeSlice,Sem.run_bind,run_und hund,Result.andThen_ok,hlv,hcv,asInt,asIntOf,Sem.run_pure,run_typeInfo hj,hw1,hw2]
      rw [if_neg (by simp; omega)]
      simp only [Sem.run_bind,run_askRoom,Result.andThen_ok,run_sizeOf hj]
      by_cases hnz:cn.toNat * j.size = 0
      · rw [if_pos hnz]
        have hzc:zc = #[]:=by simp only [zc,if_pos hnz]
        simp only [Sem.run_bind,Sem.run_pure,Result.andThen_ok,newRow,run_newObj,hzc]
        rfl
      · rw [if_neg hnz]
        have hzc:zc = z0.cells:=by simp only [zc,if_neg hnz]
        simp only [Sem.run_bind,Sem.run_pure,Result.andThen_ok,newRow,run_newObj,run_zeroValue hj hz0,hzc]
        rfl
  cases own with
  | true =>
    simp only [cond_true] at h
    cases h
    obtain ⟨h0,h1,h2,h3,h4⟩:=hs
    refine ⟨by simp [hop],fun S i w ρ hev hh hf=>?_⟩
    obtain ⟨C,hC1,hC2,hC3⟩:=run S i w ρ hev h0 h1 h2 h3 h4
    rw [hC3]
    refine post_own hh (newblk_alloc w C e) (hf nl (by simp [AHeap.keys]) (by simp [AHeap.keys])) (by simp [hC1,h4]) (fun m m1 m2=>?_) (.sl (by simp [Emb.set]))
    obtain ⟨q1,q2⟩:=rep_at cn.toNat (zz.map zAV) m m1
    obtain ⟨q3,q4⟩:=hC2 m m2
    rw [q2,q4]
    simp only [List.length_map] at q1 ⊢
    simp only [List.getElem_map]
    have:=zAV_ok (S:=S) (i:=i) (hzat (m % zz.length) q1 (by simpa using q3))
    simpa using this
  | false =>
    simp only [cond_false] at h
    cases h
    obtain ⟨h0,h1,h2,h3,h4,h5⟩:=hs
    refine ⟨by simp [hop],fun S i w ρ hev hh hf=>?_⟩
    obtain ⟨C,hC1,hC2,hC3⟩:=run S i w ρ hev h0 h1 h2 h3 h4
    rw [hC3]
    obtain ⟨g1,g2,g3⟩:=constDs_ok (S:=S) hcz
    -- the cells of an element
    have hzc:(zElem zz).cells = zz:=by
      unfold zElem
      split
      · rename_i x
        have:=g2 x List.mem_cons_self
        cases x <;> first | rfl | (simp [D.isAgg] at this; done)
      · rfl
    have hz':∀ d∈List.replicate ln.toNat (zElem zz),d.cells.length = j.size:=by
      intro d hd
      rw [(List.mem_replicate.1 hd).2,hzc,h4]
    have hle:ln.toNat * j.size≤cn.toNat * j.size:=Nat.mul_le_mul_right _ (by omega)
    have hfe:flat (List.replicate ln.toNat (zElem zz)) = (List.replicate ln.toNat zz).flatten:=by
      unfold flat
      rw [List.flatMap_def,List.map_replicate,hzc]
    have hCl:(C.toList.take (ln.toNat * j.size)).length = ln.toNat * j.size:=by rw [List.length_take,Array.length_toList,hC1]; exact Nat.min_eq_left hle
    refine post_seal (k:=ln.toNat * j.size) hh (newblk_alloc w C e) (.d ?_)
    have:=dv_new (S:=S) (i:=i) (H:=[]) (w:=w) (xs:=List.replicate ln.toNat (zElem zz)) (cap:=cn.toNat) (c:=C) (cs:=C.toList.take (ln.toNat * j.size)) hh hz' (fun d hd=>?_) (by rw [hCl]; simp)
      (fun m hm=>by
        have:m < ln.toNat * j.size:=by rw [hCl] at hm; exact hm
        have h3:m < C.size:=by omega
        simp [h3]) (fun m m1 m2=>?_) (by simp; omega)
    · simpa using this
    · rw [hfe] at hd
      obtain ⟨l',hl',hd'⟩:=List.mem_flatten.1 hd
      rw [(List.mem_replicate.1 hl').2] at hd'
      exact g2 d hd'
    · have m3:m < ((List.replicate ln.toNat zz).flatten).length:=by rw [←hfe]; exact m1
      obtain ⟨q1,q2⟩:=rep_at ln.toNat zz m m3
      have m4:m < C.size:=by rw [hCl] at m2; omega
      obtain ⟨q3,q4⟩:=hC2 m m4
      have e1:(flat (List.replicate ln.toNat (zElem zz)))[m] = zz[m % zz.length]:=by
        simp only [hfe]; exact q2
      have e2:(C.toList.take (ln.toNat * j.size))[m] = z0.cells[m % zz.length]:=by
        rw [List.getElem_take]; simpa using q4
      rw [e1,e2]
      have:=g3 (m % zz.length) q1 (by simpa using q3)
      simpa using this

theorem oInt_ok {S:Seal} {i:Emb} {ρ:Operand→Value} (hev:∀ x a,evL args x = some a→V S i a (ρ x)) {d n:Int} {oa:Option Arg} {ox:Option Operand} (ho:oargA ox = some oa) (h:oInt (evA args) d oa = some n) :
    (ox = none∧n = d)∨∃ x k,ox = some x∧ρ x = .int k n:=by
  cases ox with
  | none =>
    cases ho
    cases h
    exact .inl ⟨rfl,rfl⟩
  | some x =>
    simp only [oargA,Option.map_eq_some_iff] at ho
    obtain ⟨a,ha,rfl⟩:=ho
    simp only [oInt] at h
    split at h <;> first | cases h | skip
    rename_i k hk
    exact .inr ⟨x,k,rfl,vInt (argV hev ha hk)⟩

theorem run_sliceBound {w:World} {k:IntKind} {n:Int} {y:Nat} {code:BoundsCode} (h0:0≤n) (h1:n≤y):(Instr.sliceBound (.int k n) y code).run P w = .ok n.toNat w:=by
  simp only [Instr.sliceBound,asIntOf,Sem.run_bind,Sem.run_pure,Result.andThen_ok,if_pos (⟨h0,h1⟩:0≤n∧n≤(y:Int))]

theorem run_sliceBounds {w:World} {isS:Bool} {len cap:Nat} {lo hi:Option Value} {l h:Int} (hl:(lo = none∧l = 0)∨∃ k,lo = some (.int k l)) (hh:(hi = none∧h = len)∨∃ k,hi = some (.int k h))
    (h0:0≤l) (h1:l≤h) (h2:h≤cap):(Instr.sliceBounds isS len cap lo hi none).run P w = .ok (l.toNat,h.toNat,cap) w:=by
  have hhn:((h.toNat:Nat):Int) = h:=Int.toNat_of_nonneg (by omega)
  rcases hh with ⟨rfl,rfl⟩ | ⟨k,rfl⟩
  · rcases hl with ⟨rfl,rfl⟩ | ⟨k',rfl⟩
    · simp [Instr.sliceBounds]
    · simp only [Instr.sliceBounds,Sem.run_bind,Sem.run_pure,Result.andThen_ok,run_sliceBound h0 h1,Int.toNat_natCast]
  · rcases hl with ⟨rfl,rfl⟩ | ⟨k',rfl⟩
    · simp only [Instr.sliceBounds,Sem.run_bind,Sem.run_pure,Result.andThen_ok,run_sliceBound (by omega) h2,Int.toNat_zero]
    · simp only [Instr.sliceBounds,Sem.run_bind,Sem.run_pure,Result.andThen_ok,run_sliceBound (by omega:0≤h) h2,run_sliceBound h0 (by rw [hhn]; exact h1)]

theorem ok_ssl {t:TypeId} {x:Operand} {lo hi:Option Operand} {a:Arg} {la ha:Option Arg} (hop:o.op = .slice t x lo hi none) (hx:argA x = some a) (hlo:oargA lo = some la) (hhi:oargA hi = some ha)
    (hu:und P t = .string) (h:evOp own nl (evA args) H (.ssl a la ha) = some q) (hs:q.side):OpT P (evL args) o q.hin q.r q.hout:=by
  have hund:=und_some hu (by simp)
  simp only [evOp] at h
  split at h <;> first | cases h | skip
  rename_i s l hax hl
  simp only [Option.bind_eq_some_iff,out] at h
  obtain ⟨hv,hh,h⟩:=h
  cases h
  obtain ⟨h0,h1,h2⟩:=hs
  refine .pure (by simp [hop]) fun S i w ρ hev _=>⟨_,?_,.d .str⟩
  have hsv:=vStr (argV hev hx hax)
  have hsz:(⟨s.toArray⟩:ByteArray).size = s.length:=by simp [ByteArray.size]
  have b1:(lo.map ρ = none∧l = 0)∨∃ k,lo.map ρ = some (.int k l):=by
    rcases oInt_ok hev hlo hl with ⟨rfl,hl⟩ | ⟨x,k,rfl,hxk⟩
    · exact .inl ⟨rfl,hl⟩
    · exact .inr ⟨k,by simp [hxk]⟩
  have b2:(hi.map ρ = none∧hv = (⟨s.toArray⟩:ByteArray).size)∨∃ k,hi.map ρ = some (.int k hv):=by
    rcases oInt_ok hev hhi hh with ⟨rfl,hl⟩ | ⟨x,k,rfl,hxk⟩
    · exact .inl ⟨rfl,by rw [hsz]; exact hl⟩
    · exact .inr ⟨k,by simp [hxk]⟩
  have hb:=run_sliceBounds (P:=P) (w:=w) (isS:=false) (cap:=(⟨s.toArray⟩:ByteArray).size) b1 b2 h0 h1 (by rw [hsz]; exact h2)
  have hx2:(⟨s.toArray⟩:ByteArray).extract l.toNat hv.toNat = ⟨((s.take hv.toNat).drop l.toNat).toArray⟩:=by
    apply ByteArray.ext
    simp [List.extract_eq_take_drop,List.drop_take]
  simp only [execOp,hop,Instr.sliceAt,Sem.run_bind,run_und hund,Result.andThen_ok,hsv,Instr.slice,Option.map_none,Option.isSome_none,Bool.false_eq_true,if_false,hb,Sem.run_pure,hx2]

theorem flat_take {l:List D} {z n:Nat} (hz:∀ d∈l,d.cells.length = z) (hn:n≤l.length):flat l = flat (l.take n) ++ flat (l.drop n)∧(flat (l.take n)).length = n * z:=by
  refine ⟨by rw [←flat_append,List.take_append_drop],?_⟩
  rw [flat_len fun d hd=>hz d (List.mem_of_mem_take hd)]
  simp [Nat.min_eq_left hn]

theorem ok_slc {t e:TypeId} {x:Operand} {lo hi:Option Operand} {a:Arg} {la ha:Option Arg} {j:TypeInfo} (hop:o.op = .slice t x lo hi none) (hx:argA x = some a) (hlo:oargA lo = some la)
    (hhi:oargA hi = some ha) (hu:und P t = .slice e) (hj:P.info? e = some j) (h:evOp own nl (evA args) H (.slc a la ha none j.size) = some q) (hs:q.side) :
    OpT P (evL args) o q.hin q.r q.hout:=by
  have hund:=und_some hu (by simp)
  have run:∀ (w:World) (ρ:Operand→Value) (base:Option Addr) (len cap:Nat) (l h:Int),ρ x = .slice base len cap→((lo.map ρ = none∧l = 0)∨∃ k,lo.map ρ = some (.int k l)) →
      ((hi.map ρ = none∧h = len)∨∃ k,hi.map ρ = some (.int k h))→0≤l→l≤h→h≤cap →
      (execOp ρ o).run P w = .ok (.value (.slice (if cap = l.toNat then base else base.map (·.add (l.toNat * j.size))) (h.toNat - l.toNat) (cap - l.toNat))) w:=by
    intro w ρ base len cap l h hxv b1 b2 h0 h1 h2
    have hb:=run_sliceBounds (P:=P) (w:=w) (isS:=true) b1 b2 h0 h1 h2
    simp only [execOp,hop,Instr.sliceAt,Sem.run_bind,run_und hund,Result.andThen_ok,hxv,Instr.slice,Option.map_none,hb,run_sizeOf hj,Sem.run_pure]
  have bounds:∀ {S:Seal} {i:Emb} {ρ:Operand→Value},(∀ x a,evL args x = some a→V S i a (ρ x))→∀ {d n:Int} {oa:Option Arg} {ox:Option Operand},oargA ox = some oa→oInt (evA args) d oa = some n →
      (ox.map ρ = none∧n = d)∨∃ k,ox.map ρ = some (.int k n):=by
    intro S i ρ hev d n oa ox ho hn
    rcases oInt_ok hev ho hn with ⟨rfl,hl⟩ | ⟨x,k,rfl,hxk⟩
    · exact .inl ⟨rfl,hl⟩
    · exact .inr ⟨k,by simp [hxk]⟩
  have key:∀ (y:AV) (ys:List D) (l hv:Int),evA args a = some y→toSl y = some ys→oInt (evA args) 0 la = some l→oInt (evA args) ys.length ha = some hv →
      (0≤l∧l≤hv∧hv≤ys.length∧∀ d∈ys,d.cells.length = j.size)→OpT P (evL args) o [] (.d (.sl ((ys.take hv.toNat).drop l.toNat))) []:=by
    intro y ys l hv hax hys hl hh hs
    obtain ⟨h0,h1,h2,hz1⟩:=hs
    refine .pure (by simp [hop]) fun S i w ρ hev _=>?_
    have hd:=toSl_ok hys (argV hev hx hax)
    rcases dSlice hd with ⟨rfl,hxv⟩ | ⟨bl,off,cap,z₀,f,hxv,_,hg,hc,hsl,hall⟩ | ⟨rfl,a0,hxv⟩
    case inr.inr =>
      simp only [List.length_nil] at h2
      have e1:l = 0:=by omega
      have e2:hv = 0:=by simp at h2; omega
      subst e1 e2
      refine ⟨_,run w ρ _ _ _ 0 0 hxv (bounds hev hlo hl) (bounds hev hhi hh) h0 h1 (by simp),?_⟩
      simpa using V.d (i:=i) (DV.emp (S:=S) (a:=a0))
    · simp only [List.length_nil] at h2
      have e1:l = 0:=by omega
      have e2:hv = 0:=by simp at h2; omega
      subst e1 e2
      refine ⟨_,run w ρ _ _ _ 0 0 hxv (bounds hev hlo hl) (bounds hev hhi hh) h0 h1 (by simp),?_⟩
      simpa using V.d (i:=i) (DV.nilsl (S:=S))
    · obtain ⟨z,hzz,hz⟩:∃ z,z = j.size∧∀ d∈ys,d.cells.length = z:=⟨_,rfl,hz1⟩
      refine ⟨_,run w ρ _ _ _ l hv hxv (bounds hev hlo hl) (bounds hev hhi hh) h0 h1 (by omega),.d ?_⟩
      have hlen:((ys.take hv.toNat).drop l.toNat).length = hv.toNat - l.toNat:=by simp; omega
      have hz':∀ d∈(ys.take hv.toNat).drop l.toNat,d.cells.length = z:=fun d hd=>hz d (List.mem_of_mem_take (List.mem_of_mem_drop hd))
      -- the piece's cells are the slice's
      obtain ⟨q1,q2⟩:=flat_take hz (n:=hv.toNat) (by omega)
      obtain ⟨q3,q4⟩:=flat_take (l:=ys.take hv.toNat) (fun d hd=>hz d (List.mem_of_mem_take hd)) (n:=l.toNat) (by simp; omega)
      have hcell:∀ m (hm:m < (flat ((ys.take hv.toNat).drop l.toNat)).length),∃ h:l.toNat * z + m < (flat ys).length,(flat ((ys.take hv.toNat).drop l.toNat))[m] = (flat ys)[l.toNat * z + m]:=by
        intro m hm
        have e:flat ys = (flat ((ys.take hv.toNat).take l.toNat) ++ flat ((ys.take hv.toNat).drop l.toNat)) ++ flat (ys.drop hv.toNat):=by rw [←q3,←q1]
        refine ⟨by rw [e]; simp only [List.length_append,q4]; omega,?_⟩
        simp only [e]
        rw [List.getElem_append_left (by simp only [List.length_append,q4]; omega),List.getElem_append_right (by omega)]
        simp only [q4]
        congr 1
        omega
      by_cases hcap:cap = l.toNat
      · have e0:(ys.take hv.toNat).drop l.toNat = []:=by
          apply List.eq_nil_of_length_eq_zero; omega
        have e3:hv.toNat - l.toNat = 0:=by omega
        rw [if_pos hcap,e0,e3]
        have:=DV.sl (S:=S) (l:=[]) (z:=z) (b:=bl) (o:=off) (cap:=cap - l.toNat) f (by simp) (by simp [flat]) (by simp) (by simp [flat]) (by simp [flat])
        simpa using this
      · rw [if_neg hcap]
        simp only [Option.map_some,addr_add]
        have:=DV.sl (S:=S) (l:=(ys.take hv.toNat).drop l.toNat) (z:=z) (b:=bl) (o:=off + l.toNat * z) (cap:=cap - l.toNat) (fun m=>f (l.toNat * z + m)) hz'
          (fun c hc=>by
            obtain ⟨d,hd,hdc⟩:=List.mem_flatMap.1 hc
            exact hg c (List.mem_flatMap.2 ⟨d,List.mem_of_mem_take (List.mem_of_mem_drop hd),hdc⟩)) (by omega)
          (fun m hm=>by
            obtain ⟨h,_⟩:=hcell m hm
            rw [Nat.add_assoc]
            exact hsl _ h)
          (fun m hm=>by
            obtain ⟨h,he⟩:=hcell m hm
            rw [he]
            exact hall _ h)
        rw [hlen] at this
        rw [←hzz]; exact this
  simp only [evOp] at h
  split at h <;> first | cases h | skip
  · rename_i b off len cap z' l hax hl
    cases hzb:Nat.beq j.size z' <;> rw [hzb] at h <;> try cases h
    simp only [cond_true,Option.bind_eq_some_iff,out] at h
    obtain ⟨hv,hh,h⟩:=h
    cases h
    obtain ⟨h0,h1,h2,h3⟩:=hs
    refine .pure (by simp [hop]) fun S i w ρ hev _=>?_
    have hvx:=argV hev hx hax
    generalize hxv:ρ x = u at hvx
    cases hvx with
    | sl hi' =>
      rename_i bb
      refine ⟨_,run w ρ _ _ _ l hv hxv (bounds hev hlo hl) (bounds hev hhi hh) h0 h1 h2,?_⟩
      by_cases hc:cap = l.toNat
      · rw [if_pos hc]
        have:l = 0:=by omega
        subst this
        simpa using V.sl (S:=S) hi'
      · rw [if_neg hc]
        simp only [Option.map_some,addr_add]
        exact .sl hi'
  · rename_i xs n l hax hl
    split at h
    · simp only [Option.bind_eq_some_iff,out] at h
      obtain ⟨hv,hh,h⟩:=h
      cases h
      obtain ⟨h1,h2⟩:=hs
      cases hl
      refine .pure (by simp [hop]) fun S i w ρ hev _=>?_
      have hvx:=argV hev hx hax
      generalize hxv:ρ x = u at hvx
      cases hvx with
      | win hd hn =>
        refine ⟨_,run w ρ _ _ _ 0 hv hxv (bounds hev hlo rfl) (bounds hev hhi hh) (by omega) h1 h2,?_⟩
        by_cases hc:xs.length = 0
        · rw [if_pos (by simpa using hc)]
          have:=V.win (S:=S) (i:=i) (n:=hv.toNat) hd (by omega)
          simpa using this
        · rw [if_neg (by simpa using hc)]
          have:=V.win (S:=S) (i:=i) (n:=hv.toNat) hd (by omega)
          simpa [Addr.add] using this
    · simp only [Option.bind_eq_some_iff,out] at h
      obtain ⟨hv,hh,h⟩:=h
      cases h
      exact key _ _ l hv hax rfl hl hh hs
  · rename_i y l _ _ hax hl
    simp only [Option.bind_eq_some_iff,out] at h
    obtain ⟨ys,hys,hv,hh,h⟩:=h
    cases h
    exact key _ _ l hv hax hys hl hh hs
end
end Go.Proofs.Abs
end
section
namespace Go.Proofs.Abs
open Go
section
variable {P:Program} {args:List (Nat×AV)} {H:AHeap} {o:Oper} {own:Bool} {nl:Nat} {q:Out}

theorem mmL_ok {S:Seal} {i:Emb} {w:World} {b:Bool}:∀ {vs:List AV} {us:List Value} {k k':IntKind} {n n':Int},mmL b (k,n) vs = some (k',n')→vs.length = us.length →
    (∀ j (h1:j < vs.length) (h2:j < us.length),V S i vs[j] us[j])→(us.foldlM (if b then Builtin.max2 else Builtin.min2) (.int k n)).run P w = .ok (.int k' n') w
  | [],us,k,k',n,n',h,hl,_=>by
    cases us <;> simp at hl
    cases h
    rfl
  | v :: vs,us,k,k',n,n',h,hl,hv=>by
    cases us with
    | nil=>simp at hl
    | cons u us =>
      unfold mmL at h
      split at h <;> first | cases h | skip
      · rename_i heq; cases heq
      · rename_i k1 n1 k2 m r h1 h2
        cases h1
        cases h2
        have hu:=vInt (hv 0 (by simp) (by simp))
        simp only [List.getElem_cons_zero] at hu
        subst hu
        have hrec:=mmL_ok (w:=w) (us:=us) h (by simpa using hl) fun j h1 h2=>by
          have:=hv (j + 1) (by simpa using h1) (by simpa using h2)
          simpa using this
        rw [List.foldlM_cons,Sem.run_bind]
        cases b with
        | true =>
          have:((if true = true then Builtin.max2 else Builtin.min2) (.int k n) (.int k2 m)).run P w = .ok (.int k (max n m)) w:=by
            simp only [if_true,Builtin.max2]
            have:(if m > n then m else n) = max n m:=by split <;> omega
            rw [this]; rfl
          rw [this,Result.andThen_ok]
          exact hrec
        | false =>
          have:((if false = true then Builtin.max2 else Builtin.min2) (.int k n) (.int k2 m)).run P w = .ok (.int k (min n m)) w:=by
            simp only [Bool.false_eq_true,if_false,Builtin.min2]
            have:(if m < n then m else n) = min n m:=by split <;> omega
            rw [this]; rfl
          rw [this,Result.andThen_ok]
          exact hrec

theorem ok_mm {c:Call} {l:List Arg} {b:Bool} (hop:o.op = .call c) (hc:c.callee = .builtin (if b then .max else .min)) (hl:argsA c.args.toList = some l) (h:evOp own nl (evA args) H (.mm b l) = some q) :
    OpT P (evL args) o q.hin q.r q.hout:=by
  simp only [evOp] at h
  split at h <;> first | cases h | skip
  rename_i k n hkn
  simp only [Option.bind_eq_some_iff] at hkn
  obtain ⟨vs,hvs,hm⟩:=hkn
  obtain ⟨hlen,hall⟩:=all_ok hl hvs
  refine .pure (by simp [hop]) fun S i w ρ hev hh=>⟨_,?_,.d .int⟩
  cases vs with
  | nil=>cases hm
  | cons v vs =>
    cases hos:c.args.toList with
    | nil=>rw [hos] at hlen; simp at hlen
    | cons x xs =>
      unfold mmA at hm
      split at hm <;> first | cases hm | skip
      rename_i k0 n0 r heq
      cases heq
      have hlen':c.args.toList.length = (AV.d (.int k0 n0) :: vs).length:=hlen
      have h0:=vInt (hall hev 0 (by simp) (by rw [hlen]; simp))
      simp only [hos,List.getElem_cons_zero] at h0
      have hf:=mmL_ok (P:=P) (w:=w) (us:=xs.map ρ) hm (by rw [hos] at hlen; simpa using hlen.symm) fun j h1 h2=>by
        have:=hall hev (j + 1) (by simpa using h1) (by rw [hlen]; simpa using h1)
        simp only [hos,List.getElem_cons_succ] at this
        simpa using this
      have hargs:(Array.map ρ c.args).toList = .int k0 n0 :: xs.map ρ:=by simp [hos,h0]
      cases b with
      | true =>
        simp only [execOp,hop,resolve,hc,if_true,Sem.run_bind,Sem.run_pure,Result.andThen_ok,invoke,builtin,Builtin.max_,hargs]
        simp only [if_true] at hf
        rw [hf]; rfl
      | false =>
        simp only [execOp,hop,resolve,hc,Bool.false_eq_true,if_false,Sem.run_bind,Sem.run_pure,Result.andThen_ok,invoke,builtin,Builtin.min_,hargs]
        simp only [Bool.false_eq_true,if_false] at hf
        rw [hf]; rfl

theorem ok_bs2s {s d e:TypeId} {x:Operand} {a:Arg} (hop:o.op = .convert s d x) (hx:argA x = some a) (hs':und P s = .slice e) (hd:und P d = .string) (he:und P e = .int .u8)
    (h:evOp own nl (evA args) H (.bs2s a) = some q) (hs:q.side):OpT P (evL args) o q.hin q.r q.hout:=by
  have h1:=und_some hs' (by simp)
  have h2:=und_some hd (by simp)
  have h3:=und_some he (by simp)
  simp only [evOp] at h
  split at h <;> first | cases h | skip
  rename_i l hl
  simp only [Option.bind_eq_some_iff] at hl
  obtain ⟨y,hy,hl⟩:=hl
  have hb:∀ d∈l,isByte d:=hs
  refine .pure (by simp [hop]) fun S i w ρ hev hh=>?_
  have hdv:=toSl_ok hl (argV hev hx hy)
  have hcells:∀ d∈l,d.cells = [d]:=by
    intro d hd
    have:=hb d hd
    cases d <;> first | rfl | (simp [isByte] at this; done)
  have hflat:flat l = l:=by
    have gen:∀ r:List D,(∀ d∈r,d.cells = [d])→flat r = r:=by
      intro r
      induction r with
      | nil=>intro _; rfl
      | cons x r ih =>
        intro hr
        show x.cells ++ flat r = _
        rw [hr x List.mem_cons_self,ih fun d hd=>hr d (List.mem_cons_of_mem _ hd)]
        rfl
    exact gen l hcells
  let xs:List Int:=l.map fun d=>match d with
    | .int _ n=>n
    | _=>0
  have hstr:strOfNums xs = ⟨(l.map byteOf).toArray⟩:=by
    unfold strOfNums
    congr 2
    simp only [xs,List.map_map]
    apply List.map_congr_left
    intro d hd
    have:=hb d hd
    cases d <;> first | rfl | (simp [isByte] at this; done)
  rcases dSlice hdv with ⟨rfl,hv⟩ | ⟨bl,off,cap,z,f,hv,hz,hg,hc,hsl,hall⟩ | ⟨rfl,a0,hv⟩
  case inr.inr =>
    have hl0:(loadCells a0 0).run P w = .ok (([]:List Int).map (Value.int .u8)).toArray w:=by
      have:=run_loadCells_list (P:=P) w a0 ([]:List Value) (fun j v hj=>by simp at hj)
      simpa using this
    refine ⟨.string (strOfNums []),?_,?_⟩
    · simp only [execOp,hop,hv,Sem.run_bind]
      rw [run_convert_bytes_string (P:=P) w s d e (some a0) 0 0 h1 h3 h2,run_bytesToString (P:=P) w a0 0 0 [] hl0]
      rfl
    · exact .d .str
  · refine ⟨.string ⟨#[]⟩,?_,.d .str⟩
    simp only [execOp,hop,hv,Sem.run_bind]
    rw [run_convert_bytes_nil (P:=P) (w:=w) s e h1 h3 0 0 d h2]
    rfl
  · refine ⟨.string (strOfNums xs),?_,?_⟩
    · simp only [execOp,hop,hv,Sem.run_bind]
      rw [run_convert_bytes_arg (P:=P) (w:=w) s e h1 h3 bl off l.length cap xs (by simp [xs]) (fun k hk=>?_) d h2]
      · rfl
      · have hk':k < (flat l).length:=by rw [hflat]; exact hk
        rw [hh.cell _ _ (hsl k hk')]
        have:=hall k hk'
        have he:(flat l)[k] = l[k]:=by simp only [hflat]
        rw [he] at this
        have hby:=hb l[k] (List.getElem_mem hk)
        generalize hlk:l[k] = y at *
        cases y <;> simp only [isByte] at hby <;> try cases hby
        rename_i kk n
        have hk8:kk = .u8:=by cases kk <;> first | rfl | cases hby
        subst hk8
        rw [dInt this]
        have:xs.getD k 0 = n:=by
          simp only [xs,List.getD,List.getElem?_map,List.getElem?_eq_getElem hk,hlk,Option.map_some,Option.getD_some]
        rw [this]
    · rw [hstr]; exact .d .str

theorem fold_set0 (v:Array Value) (off:Nat) (cells:Array Value) (h:off + v.size≤cells.size) :
    (v.zipIdx.foldl (fun cs (x:Value×Nat)=>match x with | (c,j)=>cs.setIfInBounds (off + j) c) cells).size = cells.size ∧
    ∀ t,(v.zipIdx.foldl (fun cs (x:Value×Nat)=>match x with | (c,j)=>cs.setIfInBounds (off + j) c) cells)[t]? = if off≤t∧t < off + v.size then v[t - off]? else cells[t]?:=by
  have:=fold_set v.toList 0 off cells (by simpa using h)
  have he:Array.foldl (fun cs (x:Value×Nat)=>cs.setIfInBounds (off + x.2) x.1) cells v.zipIdx = (v.toList.zipIdx 0).foldl (fun cs (x:Value×Nat)=>cs.setIfInBounds (off + x.2) x.1) cells:=by
    rw [←Array.foldl_toList]
    congr 1
    simp
  have he':(v.zipIdx.foldl (fun cs (x:Value×Nat)=>match x with | (c,j)=>cs.setIfInBounds (off + j) c) cells) = (v.toList.zipIdx 0).foldl (fun cs (x:Value×Nat)=>cs.setIfInBounds (off + x.2) x.1) cells:=he
  rw [he']
  simpa using this

theorem fill_build {fs:Array Field} {place:Nat→Option (Nat×Nat)} (hplace:∀ (n:Nat) (f:Field) (j:TypeInfo),fs[n]? = some f→P.info? f.type = some j→place n = some (f.offset,j.size)) {S:Seal} {i:Emb} {ρ:Operand→Value}
    (hev:∀ x a,evL args x = some a→V S i a (ρ x)):∀ {parts:List (Nat×Operand)} {ps:List (Nat×Arg)} {pl:List (Nat×Nat×Arg)} {L L':List AV} {s:Prop} {cells:Array Value},
    partsA parts = some ps→placesA P fs ps = some pl→buildF (evA args) L pl = some (L',s)→s→cells.size = L.length→(∀ k (h1:k < L.length) (h2:k < cells.size),V S i L[k] cells[k]) →
    ∃ C,Instr.fill place cells (parts.map fun p=>(p.1,ρ p.2)) = some C∧C.size = L'.length∧∀ k (h1:k < L'.length) (h2:k < C.size),V S i L'[k] C[k]
  | [],ps,pl,L,L',s,cells,h1,h2,h3,_,hsz,hv=>by
    cases h1
    cases h2
    cases h3
    exact ⟨cells,rfl,hsz,hv⟩
  | (n,x) :: r,ps,pl,L,L',s,cells,h1,h2,h3,hs,hsz,hv=>by
    simp only [partsA] at h1
    split at h1 <;> first | cases h1 | skip
    rename_i a l ha hl
    simp only [placesA] at h2
    split at h2 <;> first | cases h2 | skip
    rename_i f l' hf hl'
    simp only [Option.map_eq_some_iff] at h2
    obtain ⟨j,hj,rfl⟩:=h2
    simp only [buildF] at h3
    split at h3 <;> first | cases h3 | skip
    rename_i cs hcs
    split at h3 <;> first | cases h3 | skip
    rename_i L2 s2 hrec
    obtain ⟨⟨q1,q2⟩,q3⟩:=hs
    simp only [Option.bind_eq_some_iff] at hcs
    obtain ⟨y,hy,hcs⟩:=hcs
    obtain ⟨c1,c2⟩:=cellsAV_ok hcs (argV hev ha hy)
    obtain ⟨u1,u2⟩:=upd_at L f.offset cs (by omega)
    obtain ⟨g1,g2⟩:=fold_set0 (ρ x).cells f.offset cells (by omega)
    have hp:=hplace n f j hf hj
    generalize hC:((ρ x).cells.zipIdx.foldl (fun cs (x:Value×Nat)=>match x with | (c,j)=>cs.setIfInBounds (f.offset + j) c) cells) = C1 at g1 g2
    obtain ⟨C,hC1,hC2,hC3⟩:=fill_build hplace hev (cells:=C1) hl hl' hrec q3 (by omega) fun k k1 k2=>by
      have hk:=g2 k
      rw [getElem?_pos C1 k k2] at hk
      rw [u2 k k1]
      split
      · rename_i hb
        rw [if_pos (by omega)] at hk
        rw [getElem?_pos (ρ x).cells (k - f.offset) (by omega)] at hk
        injection hk with hk
        rw [hk]
        exact c2 _ _ _
      · rename_i hb
        rw [if_neg (by omega)] at hk
        rw [getElem?_pos cells k (by omega)] at hk
        injection hk with hk
        rw [hk]
        have h3:k < L.length:=by omega
        simpa [List.getD,h3] using hv k h3 (by omega)
    refine ⟨C,?_,hC2,hC3⟩
    simp only [List.map_cons,Instr.fill,hp]
    rw [if_neg (by simp; omega)]
    rw [hC]
    exact hC1

theorem ok_build {t:TypeId} {parts:Array (Nat×Operand)} {fs:Array Field} {zz:List D} {ps:List (Nat×Arg)} {pl:List (Nat×Nat×Arg)} (hop:o.op = .build t parts) (hu:und P t = .struct fs)
    (hz:zeroA P t = some zz) (hps:partsA parts.toList = some ps) (hall:fs.toList.all (fun (f:Field)=>(P.info? f.type).isSome) = true) (hpl:placesA P fs ps = some pl)
    (h:evOp own nl (evA args) H (.build zz pl) = some q) (hs:q.side):OpT P (evL args) o q.hin q.r q.hout:=by
  have hund:=und_some hu (by simp)
  obtain ⟨j0,z0,hj0,hz0,hcz⟩:=zeroA_inv hz
  obtain ⟨hzz0,hzat⟩:=constDs_at hcz
  simp only [evOp] at h
  split at h <;> first | cases h | skip
  rename_i L s hL
  refine .pure (by simp [hop]) fun S i w ρ hev hh=>?_
  -- where each field lies
  let pls:List (Nat×Nat):=fs.toList.map fun (f:Field)=>(f.offset,((P.info? f.type).map (·.size)).getD 0)
  have hpls:fs.toList.mapM (fun (f:Field)=>(P.info? f.type).map fun i=>(f.offset,i.size)) = some pls:=by
    have gen:∀ l:List Field,l.all (fun (f:Field)=>(P.info? f.type).isSome) = true→l.mapM (fun (f:Field)=>(P.info? f.type).map fun i=>(f.offset,i.size)) = some (l.map fun (f:Field)=>(f.offset,((P.info? f.type).map (·.size)).getD 0)):=by
      intro l
      induction l with
      | nil=>intro _; rfl
      | cons f r ih =>
        intro h
        simp only [List.all_cons,Bool.and_eq_true] at h
        obtain ⟨j,hj⟩:=Option.isSome_iff_exists.1 h.1
        simp only [List.mapM_cons,hj,Option.map_some,ih h.2,List.map_cons,Option.getD_some]
        rfl
    exact gen _ hall
  have hplace:∀ (n:Nat) (f:Field) (j:TypeInfo),fs[n]? = some f→P.info? f.type = some j→pls.toArray[n]? = some (f.offset,j.size):=by
    intro n f j hf hj
    simp only [pls,List.getElem?_toArray,List.getElem?_map,Array.getElem?_toList,hf,Option.map_some,hj,Option.getD_some]
  obtain ⟨C,hC1,hC2,hC3⟩:=fill_build (place:=(pls.toArray[·]?)) (cells:=z0.cells) hplace hev hps hpl hL hs (by simpa using hzz0.symm) fun k h1 h2=>by
    have:=zAV_ok (S:=S) (i:=i) (hzat k (by simpa using h1) (by simpa using h2))
    simpa using this
  have hmk:=mkAgg_ok (S:=S) (i:=i) (l:=L) (f:=fun k=>C.getD k undef) fun m hm=>by
    have:=hC3 m hm (by omega)
    have h2:m < C.size:=by omega
    simpa [h2] using this
  have hCC:((List.range L.length).map fun k=>C.getD k undef).toArray = C:=by
    apply Array.ext
    · simp [hC2]
    · intro k h1 h2
      simp [h2]
  rw [hCC] at hmk
  refine ⟨.agg C,?_,hmk⟩
  have hbuilt:P.built t (parts.map fun (p:Nat×Operand)=>(p.1,ρ p.2)).toList = some C:=by
    simp only [Program.built,hj0,hund,hz0,hpls,Array.toList_map]
    exact hC1
  have:=run_build (P:=P) w t (parts.map fun (p:Nat×Operand)=>(p.1,ρ p.2)) C hbuilt
  simp only [execOp,hop,Sem.run_bind]
  have he:(Instr.build t (parts.map fun x=>match x with | (i,x)=>(i,ρ x))).run P w = .ok (.agg C) w:=this
  rw [he]
  rfl
end
end Go.Proofs.Abs
end
section
namespace Go.Proofs.Abs
open Go
section
variable {P:Program} {args:List (Nat×AV)} {H:AHeap} {o:Oper} {own:Bool} {nl:Nat} {q:Out}

theorem flat_scalar:∀ {l:List D},(∀ d∈l,d.isAgg = false)→flat l = l
  | [],_=>rfl
  | x :: r,h=>by
    show x.cells ++ flat r = _
    have hx:=h x List.mem_cons_self
    rw [flat_scalar fun d hd=>h d (List.mem_cons_of_mem _ hd)]
    cases x <;> first | rfl | (simp [D.isAgg] at hx; done)

theorem ok_bs2bs {s d e1 e:TypeId} {x:Operand} {a:Arg} (hop:o.op = .convert s d x) (hx:argA x = some a) (hs':und P s = .slice e1) (hd:und P d = .slice e) (he:und P e = .int .u8) (hsd:s = d)
    (h:evOp own nl (evA args) H (.bs2bs a) = some q) (hs:q.side):OpT P (evL args) o q.hin q.r q.hout:=by
  have h1:=und_some hs' (by simp)
  have h2:=und_some hd (by simp)
  have h3:=und_some he (by simp)
  subst hsd
  rw [h1] at h2
  cases h2
  simp only [evOp] at h
  split at h <;> first | cases h | skip
  rename_i l n cap hax
  split at h <;> first | cases h | skip
  rename_i L hL
  split at h <;> first | cases h | skip
  rename_i ds hds
  obtain ⟨hn,hcap⟩:=hs
  refine ⟨by simp [hop],fun S i w ρ hev hh _=>?_⟩
  have hv:=argV hev hx hax
  generalize hxv:ρ x = u at hv
  cases hv with
  | sl hi =>
    rename_i b
    rcases hh.obj l (.cells L) List.mem_cons_self with ⟨b',hb',c,e',hc,hsz,hval,hns⟩ | ⟨hno,_⟩
    case inr=>rw [hi] at hno; cases hno
    rw [hi] at hb'
    cases hb'
    have hsh:w.shape? b = some (e',c.size):=by simp [World.shape?,hc]
    obtain ⟨t1,t2,t3⟩:=toDs_ok (S:=S) (i:=i) (f:=fun k=>c.getD k undef) 0 hds fun m hm=>by
      have:=hval m hm (by omega)
      have h2:m < c.size:=by omega
      simpa [h2] using this
    let w':=w.freeze ⟨b,c.size,none⟩ 1
    have hrun:(execOp ρ o).run P w = .ok (.value (.slice (some ⟨b,0,none⟩) n cap)) w':=by
      simp [execOp,hop,hxv,convert,run_und h1,run_und h3,markStringish,hsh,w']
    rw [hrun]
    have hlt:=hh.dom l b hi
    have hold:∀ k,k≠b→w'.heap[k]? = w.heap[k]?:=by
      intro k hk
      simp only [w',World.freeze]
      rw [if_neg (by decide)]
      simp [Array.getElem?_modify,Ne.symm hk]
    have hnew:w'.heap[b]? = some (.cells c e' (c.size,c.size + 1)):=by
      simp only [w',World.freeze]
      rw [if_neg (by decide)]
      simp [Array.getElem?_modify,hc]
    have hsize:w'.heap.size = w.heap.size:=by
      simp only [w',World.freeze]
      rw [if_neg (by decide)]
      simp
    have hblk:blk i [(l,.cells L)] b:=⟨l,_,List.mem_cons_self,hi⟩
    have hup:S.le (S.ext b 0 c.size c):=by
      refine ⟨fun a v ha=>?_,fun b n h=>h⟩
      simp only [Seal.ext]
      rw [if_neg]
      · exact ha
      · rintro ⟨q1,_⟩
        rw [hns a q1] at ha; cases ha
    have hfl:=flat_scalar t2
    refine ⟨S.ext b 0 c.size c,i,?_,⟨fun a v ha=>?_,fun m n' hm=>?_,fun l' o' hm=>(by cases hm),fun l1 o1 l2 o2 b' hm=>(by cases hm),fun l' b' hb=>(by rw [hsize]; exact hh.dom l' b' hb),fun a v h=>hup.cell _ _ (hh.gr a v h)⟩,fun _ _ h=>h,
      ⟨hup,by rw [hsize]; exact Nat.le_refl _,fun k _ hk=>hold k fun hkb=>hk (hkb ▸ hblk),fun a v ha=>?_,fun _ _ h=>.inl h,fun b' ⟨l',o',hm,_⟩=>(by cases hm),?_,?_,?_⟩,fun _ _ h=>.inl h⟩
    · have hdv:DV (S.ext b 0 c.size c) (.sl ds) (.slice (some ⟨b,0,none⟩) ds.length cap):=by
        refine .sl (z:=1) (fun k=>c.getD k undef) (fun d hd=>?_) (by rw [hfl]; exact t2) (by omega) (fun m hm=>?_) (fun m hm=>?_)
        · have:=t2 d hd
          cases d <;> first | rfl | (simp [D.isAgg] at this; done)
        · rw [hfl] at hm
          have hmc:m < c.size:=by omega
          simp only [Seal.ext]
          rw [if_pos ⟨trivial,trivial,Nat.zero_le _,by show 0 + m < _; omega⟩]
          simp [hmc]
        · have hm':m < ds.length:=by rw [hfl] at hm; exact hm
          have he:(flat ds)[m] = ds[m]:=by simp only [hfl]
          rw [he]
          have:=(t3 m hm').mono hup
          simpa using this
      rw [hn]
      exact .d hdv
    · simp only [Seal.ext] at ha
      split at ha
      · rename_i hq
        obtain ⟨q1,q2,q3,q4⟩:=hq
        unfold World.cell?
        rw [q1,hnew]
        simp [q2,ha]
      · rename_i hq
        have hb:a.block≠b:=by
          intro hb
          rw [hns a hb] at ha; cases ha
        have:=hh.cell a v ha
        unfold World.cell? at *
        rw [hold _ hb]; exact this
    · by_cases hb:m = b
      · subst hb
        obtain ⟨c0,e0,f0,q0,qs0⟩:=hh.size m n' hm
        rw [hc] at q0
        cases q0
        exact ⟨c,e',_,hnew,qs0⟩
      · rw [hold m hb]; exact hh.size m n' hm
    · simp only [Seal.ext] at ha
      split at ha
      · rename_i hq; rw [hq.1]; exact .inr (.inl hblk)
      · exact .inl ha
    · simp only [w',World.freeze]; rw [if_neg (by decide)]
    · simp only [w',World.freeze]; rw [if_neg (by decide)]
    · simp only [w',World.freeze]; rw [if_neg (by decide)]

theorem evOp_bad:evOp own nl (evA args) H .bad = some q→False:=by simp [evOp]

theorem ok_conv {s d:TypeId} {x:Operand} (hop:o.op = .convert s d x) (h:evOp own nl (evA args) H (compOp P o.op) = some q) (hs:q.side):OpT P (evL args) o q.hin q.r q.hout:=by
  rw [hop] at h
  simp only [compOp] at h
  cases hx:argA x <;> rw [hx] at h <;> try cases h
  simp only [compConv] at h
  split at h <;> first | cases h | skip
  · rename_i h1 h2; exact ok_cvi hop hx h1 h2 h
  · rename_i e h1 h2
    split at h <;> first | cases h | skip
    rename_i h3
    exact ok_bs2s hop hx h1 h2 h3 h hs
  · rename_i e h1 h2
    split at h <;> first | cases h | skip
    · rename_i h3; exact ok_s2bs hop hx h1 h2 h3 h
  · rename_i e1 e2 h1 h2
    split at h <;> first | cases h | skip
    rename_i h3
    split at h <;> first | cases h | skip
    rename_i h4
    exact ok_bs2bs hop hx h1 h2 h3 h4 h hs

theorem ok_call {c:Call} (hop:o.op = .call c) (h:evOp own nl (evA args) H (compOp P o.op) = some q) (hs:q.side):OpT P (evL args) o q.hin q.r q.hout:=by
  rw [hop] at h
  simp only [compOp] at h
  rcases compCall_inv (P:=P) (c:=c) with hb | hk
  · rw [hb] at h; exact (evOp_bad h).elim
  · generalize hao:compCall P c = ao at h hk
    cases hk with
    | len hc ha hx ht hu=>exact ok_len hop hc ha hx ht hu h
    | slen hc ha hx ht hu=>exact ok_slen hop hc ha hx ht hu h
    | cap hc ha hx ht hu=>exact ok_cap hop hc ha hx ht hu h
    | app hc ha hx hy ht hu hu2 hz hj=>exact ok_app hop hc ha hx hy ht hu hu2 hz hj h hs
    | copy=>simp [evOp] at h
    | grow=>simp [evOp] at h
    | max hc ha=>exact ok_mm (b:=true) hop hc ha h
    | min hc ha=>exact ok_mm (b:=false) hop hc ha h
    | call=>simp [evOp] at h

theorem evOp_ok {ao:AOp} (h:evOp own nl (evA args) H ao = some q) (hs:q.side):AOpT P ao args q.hin q.r q.hout:=by
  refine ⟨fun x hx hb=>?_,fun o hao=>?_⟩
  · subst hx; rw [hb] at h; exact evOp_bad h
  subst hao
  cases hop:o.op with
  | move x=>exact ok_mv (.inl hop) h
  | assign x=>exact ok_mv (.inr hop) h
  | pick c a b=>exact ok_pick hop h
  | alloc t=>exact ok_alloc hop h
  | box t x=>exact ok_box hop h
  | build t parts =>
    rw [hop] at h
    simp only [compOp] at h
    split at h <;> first | exact (evOp_bad h).elim | skip
    rename_i fs zz ps hu hz hps
    split at h <;> first | exact (evOp_bad h).elim | skip
    rename_i hall
    split at h <;> first | exact (evOp_bad h).elim | skip
    rename_i l hl
    exact ok_build hop hu hz hps hall hl h hs
  | buildSlice t n parts =>
    rw [hop] at h
    simp only [compOp] at h
    split at h <;> first | exact (evOp_bad h).elim | skip
    rename_i e ps hu hps
    split at h <;> first | exact (evOp_bad h).elim | skip
    rename_i zz hz
    simp only [szK] at h
    split at h <;> first | exact (evOp_bad h).elim | skip
    rename_i j hj
    exact ok_bslice hop hu hps hz hj h hs
  | load t x=>exact ok_load hop h hs
  | store t x v=>exact ok_store hop h hs
  | nilCheck x=>exact ok_nilchk hop h
  | binOp op t x y t'=>exact ok_bin hop h hs
  | unOp op t x=>exact ok_un hop h
  | convert s d x=>exact ok_conv hop h hs
  | makeFunc fn first caps =>
    rw [hop] at h
    cases fn with
    | func f =>
      simp only [compOp] at h
      split at h <;> first | exact (evOp_bad h).elim | skip
      rename_i hf
      split at h <;> first | exact (evOp_bad h).elim | skip
      rename_i l hl
      exact ok_mkfn hop hf hl h
    | _=>exact (evOp_bad h).elim
  | makeSlice t l c =>
    rw [hop] at h
    simp only [compOp] at h
    split at h <;> first | exact (evOp_bad h).elim | skip
    rename_i e a b hu hl hc
    split at h <;> first | exact (evOp_bad h).elim | skip
    rename_i zz hz
    simp only [sbK] at h
    split at h <;> first | exact (evOp_bad h).elim | skip
    rename_i j hj
    exact ok_mksl hop hu hl hc hz hj h hs
  | slice t x lo hi mx =>
    rw [hop] at h
    simp only [compOp] at h
    split at h <;> first | exact (evOp_bad h).elim | skip
    · rename_i a la ha hx hlo hhi hmx hu
      cases mx with
      | some m=>simp only [oargA,Option.map_eq_some_iff] at hmx; obtain ⟨_,_,hmx⟩:=hmx; cases hmx
      | none=>exact ok_ssl hop hx hlo hhi hu h hs
    · rename_i a la ha ma e hx hlo hhi hmx hu
      simp only [szK] at h
      split at h <;> first | exact (evOp_bad h).elim | skip
      rename_i j hj
      cases mx with
      | some m =>
        simp only [oargA,Option.map_eq_some_iff] at hmx
        obtain ⟨_,_,rfl⟩:=hmx
        simp [evOp] at h
      | none =>
        cases hmx
        exact ok_slc hop hx hlo hhi hu hj h hs
  | fieldAddr s x f=>exact ok_faddr hop h
  | field s x f =>
    rw [hop] at h
    simp only [compOp] at h
    split at h <;> first | exact (evOp_bad h).elim | skip
    rename_i a fs hx hu
    split at h <;> first | exact (evOp_bad h).elim | skip
    rename_i fd hfd
    simp only [szK,aggK] at h
    split at h <;> first | exact (evOp_bad h).elim | skip
    rename_i j hj
    split at h <;> first | exact (evOp_bad h).elim | skip
    rename_i d hd
    exact ok_fld hop hx hu hfd hj hd h hs
  | indexAddr t x k =>
    rw [hop] at h
    simp only [compOp] at h
    split at h <;> first | exact (evOp_bad h).elim | skip
    · rename_i a b e hx hk hu
      simp only [szK] at h
      split at h <;> first | exact (evOp_bad h).elim | skip
      rename_i j hj
      exact ok_iaddr hop hx hk hu hj h hs
    · simp only [szK] at h
      split at h <;> first | exact (evOp_bad h).elim | (simp [evOp] at h; done)
  | index t x k =>
    rw [hop] at h
    simp only [compOp] at h
    split at h <;> first | exact (evOp_bad h).elim | skip
    · rename_i a b hx hk hu
      exact ok_idx hop hx hk hu h hs
    · simp only [szK,aggK] at h
      split at h <;> first | exact (evOp_bad h).elim | skip
      split at h <;> first | exact (evOp_bad h).elim | (simp [evOp] at h; done)
  | extract x k=>exact ok_ext hop h
  | call c=>exact ok_call hop h hs
  | makeMap t r =>
    exfalso
    rw [hop] at h
    cases r <;> simp [compOp,evOp] at h
  | lookup t x i ok =>
    exfalso
    rw [hop] at h
    simp only [compOp] at h
    repeat' split at h
    all_goals simp [evOp] at h
  | mapUpdate t x k v =>
    exfalso
    rw [hop] at h
    simp only [compOp] at h
    repeat' split at h
    all_goals simp [evOp] at h
  | mapEntry t x k =>
    exfalso
    rw [hop] at h
    simp only [compOp] at h
    repeat' split at h
    all_goals simp [evOp] at h
  | entryStore t x s v =>
    exfalso
    rw [hop] at h
    simp only [compOp] at h
    repeat' split at h
    all_goals simp [evOp] at h
  | _=>rw [hop] at h; exact (evOp_bad h).elim
end
end Go.Proofs.Abs
end
