/- Abstract data, abstract values, what a Go value and a heap are for them; how they are carried along. -/
import Derived.CallsIn
namespace Go.Proofs.Abs
open Go

/-- plain data: what a Go value says, without where it lies -/
inductive D where
  | int (k : IntKind) (n : Int)
  | bool (b : Bool)
  | str (s : List UInt8)
  | agg (l : List D)
  | sl (l : List D)
  | nilp
  | nilf
  | nili
  | nilm
  | fn (f : FuncId)

def D.isAgg : D → Bool
  | .agg _ => true
  | _ => false
def D.cells : D → List D
  | .agg l => l
  | d => [d]
def flat (l : List D) : List D := l.flatMap D.cells

/-- cells that nobody writes any more, and sizes of blocks -/
structure Seal where
  cell : Addr → Option Value
  size : Nat → Option Nat
structure Seal.le (S T : Seal) : Prop where
  cell : ∀ a v, S.cell a = some v → T.cell a = some v
  size : ∀ b n, S.size b = some n → T.size b = some n
theorem Seal.le.refl (S : Seal) : S.le S := ⟨fun _ _ h => h, fun _ _ h => h⟩
theorem Seal.le.trans {S T U : Seal} (h : S.le T) (h' : T.le U) : S.le U := ⟨fun a v x => h'.cell a v (h.cell a v x), fun b n x => h'.size b n (h.size b n x)⟩

inductive DV (S : Seal) : D → Value → Prop
  | int {k n} : DV S (.int k n) (.int k n)
  | bool {b} : DV S (.bool b) (.bool b)
  | str {s} : DV S (.str s) (.string ⟨s.toArray⟩)
  | agg {l : List D} {vs : List Value} (hl : l.length = vs.length) (hs : ∀ d ∈ l, d.isAgg = false)
      (h : ∀ i (h1 : i < l.length) (h2 : i < vs.length), DV S l[i] vs[i]) : DV S (.agg l) (.agg vs.toArray)
  | nilsl : DV S (.sl []) (.slice none 0 0)
  | emp {a : Addr} : DV S (.sl []) (.slice (some a) 0 0)
  | sl {z : Nat} {l : List D} {b o cap : Nat} (f : Nat → Value) (hz : ∀ d ∈ l, d.cells.length = z) (hg : ∀ c ∈ flat l, c.isAgg = false) (hc : l.length ≤ cap)
      (hs : ∀ m, m < (flat l).length → S.cell ⟨b, o + m, none⟩ = some (f m)) (h : ∀ m (hm : m < (flat l).length), DV S (flat l)[m] (f m)) :
      DV S (.sl l) (.slice (some ⟨b, o, none⟩) l.length cap)
  | nilp : DV S .nilp (.pointer none)
  | nilf : DV S .nilf .nilFunc
  | nili : DV S .nili .nilIface
  | nilm : DV S .nilm (.map none)
  | fn {f} : DV S (.fn f) (.func (.func f) #[] #[])

theorem DV.mono {S T : Seal} (hl : S.le T) {x : D} {v : Value} (h : DV S x v) : DV T x v := by
  induction h with
  | int => exact .int
  | bool => exact .bool
  | str => exact .str
  | agg hl hs _ ih => exact .agg hl hs ih
  | nilsl => exact .nilsl
  | emp => exact .emp
  | sl f hz hg hc hs _ ih => exact .sl f hz hg hc (fun m hm => hl.cell _ _ (hs m hm)) ih
  | nilp => exact .nilp
  | nilf => exact .nilf
  | nili => exact .nili
  | nilm => exact .nilm
  | fn => exact .fn

/-- abstract values -/
inductive AV where
  | d (x : D)
  | cp (x : D) (off : Nat)
  | ptr (l off : Nat)
  | sl (l off len cap z : Nat)
  | ap (l z : Nat) (xs : List D)
  | win (xs : List D) (n : Nat)
  | nils
  | agg (l : List AV)
  | tup (l : List AV)
  | fn (f : FuncId) (caps : List AV)
  | mp (l : Nat)
  | lf (l : Nat)
  | dn (xs : List D)
  | row (l z n : Nat)
  | any

abbrev Emb := Nat → Option Nat
def Emb.le (i j : Emb) : Prop := ∀ l b, i l = some b → j l = some b

inductive V (S : Seal) (i : Emb) : AV → Value → Prop
  | d {x v} (h : DV S x v) : V S i (.d x) v
  | cp {x : D} {b o off : Nat} (f : Nat → Value) (hg : ∀ c ∈ x.cells, c.isAgg = false) (hs : ∀ m, m < x.cells.length → S.cell ⟨b, o + m, none⟩ = some (f m))
      (h : ∀ m (hm : m < x.cells.length), DV S x.cells[m] (f m)) : V S i (.cp x off) (.pointer (some ⟨b, o + off, none⟩))
  | ptr {l b off} (h : i l = some b) : V S i (.ptr l off) (.pointer (some ⟨b, off, none⟩))
  | sl {l b off len cap z} (h : i l = some b) : V S i (.sl l off len cap z) (.slice (some ⟨b, off, none⟩) len cap)
  | apn {l z} : V S i (.ap l z []) (.slice none 0 0)
  | ap {l b z cap n} {xs : List D} (h : i l = some b) (hd : DV S (.sl xs) (.slice (some ⟨b, 0, none⟩) xs.length cap)) (hz : ∀ x ∈ xs, x.cells.length = z) (hn : S.size b = some n) (hc : cap * z ≤ n) :
      V S i (.ap l z xs) (.slice (some ⟨b, 0, none⟩) xs.length cap)
  | win {xs : List D} {n : Nat} {a : Addr} (h : DV S (.sl xs) (.slice (some a) xs.length xs.length)) (hn : n ≤ xs.length) : V S i (.win xs n) (.slice (some a) n xs.length)
  | nils : V S i .nils (.slice none 0 0)
  | agg {l : List AV} {vs : List Value} (hl : l.length = vs.length) (h : ∀ j (h1 : j < l.length) (h2 : j < vs.length), V S i l[j] vs[j]) : V S i (.agg l) (.agg vs.toArray)
  | tup {l : List AV} {vs : List Value} (hl : l.length = vs.length) (h : ∀ j (h1 : j < l.length) (h2 : j < vs.length), V S i l[j] vs[j]) : V S i (.tup l) (.tuple vs.toArray)
  | fn {f} {l : List AV} {vs : List Value} (hl : l.length = vs.length) (h : ∀ j (h1 : j < l.length) (h2 : j < vs.length), V S i l[j] vs[j]) :
      V S i (.fn f l) (.func (.func f) #[] vs.toArray)
  | mp {l b} (h : i l = some b) : V S i (.mp l) (.map (some b))
  | lf {l b} (h : i l = some b) : V S i (.lf l) (.func (.yield b) #[] #[])
  | dn {xs : List D} {a : Addr} {cap : Nat} (h : DV S (.sl xs) (.slice (some a) xs.length cap)) : V S i (.dn xs) (.slice (some a) xs.length cap)
  | rown {l z} : V S i (.row l z 0) (.slice none 0 0)
  | row {l b z n cap m} (h : i l = some b) (hn : S.size b = some m) (hc : cap * z ≤ m) (hl : n ≤ cap) : V S i (.row l z n) (.slice (some ⟨b, 0, none⟩) n cap)
  | any {v} : V S i .any v

theorem V.mono {S T : Seal} {i j : Emb} (hl : S.le T) (hi : i.le j) {x : AV} {v : Value} (h : V S i x v) : V T j x v := by
  induction h with
  | d h => exact .d (h.mono hl)
  | cp f hg hs h => exact .cp f hg (fun m hm => hl.cell _ _ (hs m hm)) (fun m hm => (h m hm).mono hl)
  | ptr h => exact .ptr (hi _ _ h)
  | sl h => exact .sl (hi _ _ h)
  | apn => exact .apn
  | ap h hd hz hn hc => exact .ap (hi _ _ h) (hd.mono hl) hz (hl.size _ _ hn) hc
  | win h hn => exact .win (h.mono hl) hn
  | nils => exact .nils
  | agg hl _ ih => exact .agg hl ih
  | tup hl _ ih => exact .tup hl ih
  | fn hl _ ih => exact .fn hl ih
  | mp h => exact .mp (hi _ _ h)
  | lf h => exact .lf (hi _ _ h)
  | dn h => exact .dn (h.mono hl)
  | rown => exact .rown
  | row h hn hc hl' => exact .row (hi _ _ h) (hl.size _ _ hn) hc hl'
  | any => exact .any

/-- all labels of a value are among K -/
inductive AV.lb (K : Nat → Prop) : AV → Prop
  | d {x} : AV.lb K (.d x)
  | cp {x off} : AV.lb K (.cp x off)
  | ptr {l off} (h : K l) : AV.lb K (.ptr l off)
  | sl {l off len cap z} (h : K l) : AV.lb K (.sl l off len cap z)
  | ap {l z xs} (h : K l) : AV.lb K (.ap l z xs)
  | win {xs n} : AV.lb K (.win xs n)
  | nils : AV.lb K .nils
  | agg {l : List AV} (h : ∀ x ∈ l, AV.lb K x) : AV.lb K (.agg l)
  | tup {l : List AV} (h : ∀ x ∈ l, AV.lb K x) : AV.lb K (.tup l)
  | fn {f} {l : List AV} (h : ∀ x ∈ l, AV.lb K x) : AV.lb K (.fn f l)
  | mp {l} (h : K l) : AV.lb K (.mp l)
  | lf {l} (h : K l) : AV.lb K (.lf l)
  | dn {xs} : AV.lb K (.dn xs)
  | row {l z n} (h : K l) : AV.lb K (.row l z n)
  | any : AV.lb K .any

abbrev AV.lt (n : Nat) (x : AV) : Prop := x.lb (· < n)

def Emb.cut (i : Emb) (n : Nat) : Emb := fun l => if l < n then i l else none
theorem Emb.cut_some {i : Emb} {n l b : Nat} (h : i.cut n l = some b) : l < n ∧ i l = some b := by
  unfold Emb.cut at h; split at h
  · exact ⟨by assumption, h⟩
  · simp at h
theorem Emb.cut_of {i : Emb} {n l : Nat} (h : l < n) : i.cut n l = i l := by simp [Emb.cut, h]
theorem Emb.cut_le (i : Emb) (n : Nat) : (i.cut n).le i := fun _ _ h => (Emb.cut_some h).2

/-- only the labels that occur count -/
theorem V.relabel {S : Seal} {i j : Emb} {K : Nat → Prop} (hK : ∀ l, K l → j l = i l) {x : AV} {v : Value} (h : V S i x v) (hx : x.lb K) : V S j x v := by
  induction h with
  | d h => exact .d h
  | cp f hg hs h => exact .cp f hg hs h
  | ptr h => cases hx with | ptr hx => exact .ptr (by rw [hK _ hx]; exact h)
  | sl h => cases hx with | sl hx => exact .sl (by rw [hK _ hx]; exact h)
  | apn => exact .apn
  | ap h hd hz hn hc => cases hx with | ap hx => exact .ap (by rw [hK _ hx]; exact h) hd hz hn hc
  | win h hn => exact .win h hn
  | nils => exact .nils
  | agg hl _ ih => cases hx with | agg hx => exact .agg hl fun j h1 h2 => ih j h1 h2 (hx _ (List.getElem_mem h1))
  | tup hl _ ih => cases hx with | tup hx => exact .tup hl fun j h1 h2 => ih j h1 h2 (hx _ (List.getElem_mem h1))
  | fn hl _ ih => cases hx with | fn hx => exact .fn hl fun j h1 h2 => ih j h1 h2 (hx _ (List.getElem_mem h1))
  | mp h => cases hx with | mp hx => exact .mp (by rw [hK _ hx]; exact h)
  | lf h => cases hx with | lf hx => exact .lf (by rw [hK _ hx]; exact h)
  | dn h => exact .dn h
  | rown => exact .rown
  | row h hn hc hl => cases hx with | row hx => exact .row (by rw [hK _ hx]; exact h) hn hc hl
  | any => exact .any
theorem V.cut {S : Seal} {i : Emb} {n : Nat} {x : AV} {v : Value} (h : V S i x v) (hx : x.lt n) : V S (i.cut n) x v :=
  h.relabel (fun _ hl => Emb.cut_of hl) hx

/-- what a label stands for: a block of our own -/
inductive AObj where
  | cells (l : List AV)
  | tok (n : Nat)
  | rowD (ds : List D)
  | rowP (ds : List D)
  | row (l : List AV)
  | mp (es : List (D × AV))
  | lp (N : Nat) (sl : List (Nat × AV)) (ps : List Nat) (asg bd : Code) (st : LoopState) (pend : Option Code)
/-- what stands for nothing yet -/
def AObj.nil0 : AObj → Prop
  | .tok n => n = 0
  | .rowP ds => ds = []
  | .row l => l = []
  | _ => False
def AObj.lb (K : Nat → Prop) : AObj → Prop
  | .cells l => ∀ x ∈ l, AV.lb K x
  | .tok _ => True
  | .rowD _ => True
  | .rowP _ => True
  | .row l => ∀ x ∈ l, AV.lb K x
  | .mp es => ∀ x ∈ es, AV.lb K x.2
  | .lp _ sl _ _ _ _ _ => ∀ x ∈ sl, AV.lb K x.2
abbrev AObj.lt (n : Nat) (o : AObj) : Prop := o.lb (· < n)

def ObjRel (S : Seal) (i : Emb) (w : World) (b : Nat) : AObj → Prop
  | .cells l => ∃ c e, w.heap[b]? = some (.cells c e (0, 0)) ∧ c.size = l.length ∧ (∀ j (h : j < l.length) (h' : j < c.size), V S i l[j] c[j]) ∧ ∀ a : Addr, a.block = b → S.cell a = none
  | .tok n => ∃ c e, w.heap[b]? = some (.cells c e (0, 0)) ∧ ∀ a : Addr, a.block = b → n ≤ a.off → S.cell a = none
  | .rowD ds => ∃ c e, w.heap[b]? = some (.cells c e (0, 0)) ∧ c.size = (ds.map AV.d).length ∧ (∀ j (h : j < (ds.map AV.d).length) (h' : j < c.size), V S i (ds.map AV.d)[j] c[j]) ∧ ∀ a : Addr, a.block = b → S.cell a = none
  | .rowP ds => ∃ c e, w.heap[b]? = some (.cells c e (0, 0)) ∧ ds.length ≤ c.size ∧ (∀ j (h : j < ds.length) (h' : j < c.size), DV S ds[j] c[j]) ∧ ∀ a : Addr, a.block = b → S.cell a = none
  | .row l => ∃ c e, w.heap[b]? = some (.cells c e (0, 0)) ∧ l.length ≤ c.size ∧ (∀ j (h : j < l.length) (h' : j < c.size), V S i l[j] c[j]) ∧ ∀ a : Addr, a.block = b → S.cell a = none
  | .mp es => ∃ c k, w.heap[b]? = some (.map c k) ∧ c.size = es.length ∧ (∀ j (h : j < es.length) (h' : j < c.size), DV S es[j].1 c[j].key ∧ V S i es[j].2 c[j].val) ∧ ∀ a : Addr, a.block = b → S.cell a = none
  | .lp N sl ps asg bd st pend => ∃ r : Loop, w.heap[b]? = some (.loop r) ∧ r.tmps.size = N ∧ r.params.toList = ps ∧ r.assign = asg ∧ r.body = bd ∧ r.state = st ∧ r.pending = pend ∧ (∀ x ∈ sl, V S i x.2 (r.tmps.getD x.1 undef)) ∧ ∀ a : Addr, a.block = b → S.cell a = none

abbrev AHeap := List (Nat × AObj)
def AHeap.keys (H : AHeap) : List Nat := H.map (·.1)
/-- the blocks of a heap -/
def blk (i : Emb) (H : AHeap) (b : Nat) : Prop := ∃ l o, (l, o) ∈ H ∧ i l = some b

structure HeapRel (S : Seal) (i : Emb) (H : AHeap) (w : World) : Prop where
  cell : ∀ a v, S.cell a = some v → w.cell? a = some v
  size : ∀ b n, S.size b = some n → ∃ c e f, w.heap[b]? = some (.cells c e f) ∧ c.size = n
  obj : ∀ l o, (l, o) ∈ H → (∃ b, i l = some b ∧ ObjRel S i w b o) ∨ (i l = none ∧ o.nil0)
  inj : ∀ l o l' o' b, (l, o) ∈ H → (l', o') ∈ H → i l = some b → i l' = some b → l = l'
  dom : ∀ l b, i l = some b → b < w.heap.size

/-- from one state to a later one: all that is not H's stays -/
structure Tr (S : Seal) (i : Emb) (H : AHeap) (w : World) (S' : Seal) (i' : Emb) (H' : AHeap) (w' : World) : Prop where
  up : S.le S'
  grow : w.heap.size ≤ w'.heap.size
  old : ∀ b, b < w.heap.size → ¬ blk i H b → w'.heap[b]? = w.heap[b]?
  newSeal : ∀ a v, S'.cell a = some v → S.cell a = some v ∨ blk i H a.block ∨ w.heap.size ≤ a.block
  newEmb : ∀ l b, i' l = some b → i l = some b ∨ blk i H b ∨ w.heap.size ≤ b
  sub : ∀ b, blk i' H' b → blk i H b ∨ w.heap.size ≤ b
  os : w'.os = w.os
  out : w'.output = w.output
  tape : w'.tape = w.tape

theorem Tr.refl (S : Seal) (i : Emb) (H : AHeap) (w : World) : Tr S i H w S i H w :=
  ⟨.refl S, Nat.le_refl _, fun _ _ _ => rfl, fun _ _ h => .inl h, fun _ _ h => .inl h, fun _ h => .inl h, rfl, rfl, rfl⟩

theorem Tr.trans {S S' S'' : Seal} {i i' i'' : Emb} {H H' H'' : AHeap} {w w' w'' : World} (h : Tr S i H w S' i' H' w') (g : Tr S' i' H' w' S'' i'' H'' w'') :
    Tr S i H w S'' i'' H'' w'' where
  up := h.up.trans g.up
  grow := Nat.le_trans h.grow g.grow
  old := fun b hb hn => by
    rw [g.old b (Nat.lt_of_lt_of_le hb h.grow) (fun hx => ?_), h.old b hb hn]
    rcases h.sub b hx with hx | hx
    · exact hn hx
    · omega
  newSeal := fun a v hv => by
    rcases g.newSeal a v hv with hv | hv | hv
    · exact h.newSeal a v hv
    · rcases h.sub _ hv with hv | hv
      · exact .inr (.inl hv)
      · exact .inr (.inr hv)
    · exact .inr (.inr (Nat.le_trans h.grow hv))
  newEmb := fun l b hb => by
    rcases g.newEmb l b hb with hb | hb | hb
    · exact h.newEmb l b hb
    · exact .inr (h.sub b hb)
    · exact .inr (.inr (Nat.le_trans h.grow hb))
  sub := fun b hb => by
    rcases g.sub b hb with hb | hb
    · exact h.sub b hb
    · exact .inr (Nat.le_trans h.grow hb)
  os := g.os.trans h.os
  out := g.out.trans h.out
  tape := g.tape.trans h.tape

theorem blk_append {i : Emb} {H F : AHeap} {b : Nat} : blk i (H ++ F) b ↔ blk i H b ∨ blk i F b := by
  unfold blk
  constructor
  · rintro ⟨l, o, hm, hi⟩
    rcases List.mem_append.1 hm with hm | hm
    · exact .inl ⟨l, o, hm, hi⟩
    · exact .inr ⟨l, o, hm, hi⟩
  · rintro (⟨l, o, hm, hi⟩ | ⟨l, o, hm, hi⟩)
    · exact ⟨l, o, List.mem_append.2 (.inl hm), hi⟩
    · exact ⟨l, o, List.mem_append.2 (.inr hm), hi⟩

theorem ObjRel.later {S T : Seal} {i j : Emb} {w w' : World} {b : Nat} {o : AObj} (h : ObjRel S i w b o) (hl : S.le T) (hi : i.le j) (hw : w'.heap[b]? = w.heap[b]?)
    (hn : ∀ a v, T.cell a = some v → a.block = b → S.cell a = some v) : ObjRel T j w' b o := by
  have key : (∀ a : Addr, a.block = b → S.cell a = none) → ∀ a : Addr, a.block = b → T.cell a = none := fun hf a ha => by
    cases hx : T.cell a with
    | none => rfl
    | some v => have := hn a v hx ha; rw [hf a ha] at this; simp at this
  cases o with
  | cells l =>
    obtain ⟨c, e, hc, hs, hv, hf⟩ := h
    refine ⟨c, e, hw.trans hc, hs, fun j h1 h2 => (hv j h1 h2).mono hl hi, fun a ha => ?_⟩
    cases hx : T.cell a with
    | none => rfl
    | some v => have := hn a v hx ha; rw [hf a ha] at this; simp at this
  | rowD ds => obtain ⟨c, e, hc, hs, hv, hf⟩ := h; exact ⟨c, e, hw.trans hc, hs, fun j h1 h2 => (hv j h1 h2).mono hl hi, key hf⟩
  | rowP ds => obtain ⟨c, e, hc, hs, hv, hf⟩ := h; exact ⟨c, e, hw.trans hc, hs, fun j h1 h2 => (hv j h1 h2).mono hl, key hf⟩
  | tok n =>
    obtain ⟨c, e, hc, hf⟩ := h
    refine ⟨c, e, hw.trans hc, fun a ha ho => ?_⟩
    cases hx : T.cell a with
    | none => rfl
    | some v => have := hn a v hx ha; rw [hf a ha ho] at this; simp at this
  | row l =>
    obtain ⟨c, e, hc, hs, hv, hf⟩ := h
    exact ⟨c, e, hw.trans hc, hs, fun j h1 h2 => (hv j h1 h2).mono hl hi, key hf⟩
  | mp es =>
    obtain ⟨c, k, hc, hs, hv, hf⟩ := h
    exact ⟨c, k, hw.trans hc, hs, fun j h1 h2 => ⟨(hv j h1 h2).1.mono hl, (hv j h1 h2).2.mono hl hi⟩, key hf⟩
  | lp N sl ps asg bd st pend =>
    obtain ⟨r, hr, h1, h2, h3, h4, h5, h6, hv, hf⟩ := h
    exact ⟨r, hw.trans hr, h1, h2, h3, h4, h5, h6, fun x hx => (hv x hx).mono hl hi, key hf⟩

/-- only the labels that occur count -/
theorem ObjRel.relabel {S : Seal} {i j : Emb} {w : World} {b : Nat} {K : Nat → Prop} (hK : ∀ l, K l → j l = i l) {o : AObj} (h : ObjRel S i w b o) (ho : o.lb K) : ObjRel S j w b o := by
  cases o with
  | cells l => obtain ⟨c, e, hc, hs, hv, hf⟩ := h; exact ⟨c, e, hc, hs, fun m h1 h2 => (hv m h1 h2).relabel hK (ho _ (List.getElem_mem h1)), hf⟩
  | tok n => exact h
  | rowP ds => exact h
  | rowD ds => obtain ⟨c, e, hc, hs, hv, hf⟩ := h; exact ⟨c, e, hc, hs, fun m h1 h2 => (hv m h1 h2).relabel hK (by rw [List.getElem_map]; exact .d), hf⟩
  | row l => obtain ⟨c, e, hc, hs, hv, hf⟩ := h; exact ⟨c, e, hc, hs, fun m h1 h2 => (hv m h1 h2).relabel hK (ho _ (List.getElem_mem h1)), hf⟩
  | mp es => obtain ⟨c, e, hc, hs, hv, hf⟩ := h; exact ⟨c, e, hc, hs, fun m h1 h2 => ⟨(hv m h1 h2).1, (hv m h1 h2).2.relabel hK (ho _ (List.getElem_mem h1))⟩, hf⟩
  | lp N sl ps asg bd st pend =>
    obtain ⟨r, hr, h1, h2, h3, h4, h5, h6, hv, hf⟩ := h
    exact ⟨r, hr, h1, h2, h3, h4, h5, h6, fun x hx => (hv x hx).relabel hK (ho _ hx), hf⟩
theorem ObjRel.notDef {S : Seal} {i : Emb} {w : World} {b : Nat} {o : AObj} (h : ObjRel S i w b o) (ds : Option (List Deferred)) : w.heap[b]? ≠ some (.deferred ds) := by
  cases o with
  | cells l => obtain ⟨c, e, hc, _⟩ := h; rw [hc]; simp
  | tok n => obtain ⟨c, e, hc, _⟩ := h; rw [hc]; simp
  | rowD ds => obtain ⟨c, e, hc, _⟩ := h; rw [hc]; simp
  | rowP ds => obtain ⟨c, e, hc, _⟩ := h; rw [hc]; simp
  | row l => obtain ⟨c, e, hc, _⟩ := h; rw [hc]; simp
  | mp es => obtain ⟨c, e, hc, _⟩ := h; rw [hc]; simp
  | lp N sl ps asg bd st pend => obtain ⟨r, hr, _⟩ := h; rw [hr]; simp

/-- THE FRAME: what lies beside stays -/
theorem HeapRel.frame {S S' : Seal} {i i' : Emb} {H H' F : AHeap} {w w' : World} (h : HeapRel S i (H ++ F) w) (hd : ∀ l ∈ H.keys, l ∉ F.keys)
    (h' : HeapRel S' i' H' w') (hi : i.le i') (hnew : ∀ l b, i' l = some b → i l = some b ∨ (l ∈ H'.keys ∧ l ∉ H.keys)) (hd' : ∀ l ∈ H'.keys, l ∉ F.keys) (t : Tr S i H w S' i' H' w') :
    HeapRel S' i' (H' ++ F) w' := by
  have hF : ∀ l o b, (l, o) ∈ F → i l = some b → ¬ blk i H b ∧ b < w.heap.size := by
    intro l o b hm hb
    refine ⟨?_, h.dom l b hb⟩
    rintro ⟨l', o', hm', hl'⟩
    have := h.inj l o l' o' b (List.mem_append.2 (.inr hm)) (List.mem_append.2 (.inl hm')) hb hl'
    subst this
    exact hd l (List.mem_map.2 ⟨_, hm', rfl⟩) (List.mem_map.2 ⟨_, hm, rfl⟩)
  have hFi : ∀ l o b, (l, o) ∈ F → i' l = some b → i l = some b := by
    intro l o b hm hb
    rcases hnew l b hb with hb | hb
    · exact hb
    · exact absurd (List.mem_map.2 ⟨_, hm, rfl⟩) (hd' l hb.1)
  refine ⟨h'.cell, h'.size, fun l o hm => ?_, ?_, h'.dom⟩
  · rcases List.mem_append.1 hm with hm | hm
    · exact h'.obj l o hm
    · rcases h.obj l o (List.mem_append.2 (.inr hm)) with ⟨b, hb, hr⟩ | ⟨hn, ho⟩
      · obtain ⟨hnb, hlt⟩ := hF l o b hm hb
        refine .inl ⟨b, hi _ _ hb, hr.later t.up hi (t.old b hlt hnb) fun a v hv ha => ?_⟩
        rcases t.newSeal a v hv with hv | hv | hv
        · exact hv
        · exact absurd (ha ▸ hv) hnb
        · omega
      · refine .inr ⟨?_, ho⟩
        cases hx : i' l with
        | none => rfl
        | some b => rw [hFi l o b hm hx] at hn; cases hn
  · intro l o l' o' b hm hm' hb hb'
    rcases List.mem_append.1 hm with hm | hm <;> rcases List.mem_append.1 hm' with hm' | hm'
    · exact h'.inj l o l' o' b hm hm' hb hb'
    · obtain ⟨hnb, hlt⟩ := hF l' o' b hm' (hFi _ _ _ hm' hb')
      rcases t.sub b ⟨l, o, hm, hb⟩ with hx | hx
      · exact absurd hx hnb
      · omega
    · obtain ⟨hnb, hlt⟩ := hF l o b hm (hFi _ _ _ hm hb)
      rcases t.sub b ⟨l', o', hm', hb'⟩ with hx | hx
      · exact absurd hx hnb
      · omega
    · exact h.inj l o l' o' b (List.mem_append.2 (.inr hm)) (List.mem_append.2 (.inr hm')) (hFi _ _ _ hm hb) (hFi _ _ _ hm' hb')
theorem Tr.frame {S S' : Seal} {i i' : Emb} {H H' F : AHeap} {w w' : World} (t : Tr S i H w S' i' H' w') (hF : ∀ l o b, (l, o) ∈ F → i' l = some b → i l = some b) :
    Tr S i (H ++ F) w S' i' (H' ++ F) w' where
  up := t.up
  grow := t.grow
  old := fun b hb hn => t.old b hb fun hx => hn (blk_append.2 (.inl hx))
  newSeal := fun a v hv => by
    rcases t.newSeal a v hv with hv | hv | hv
    · exact .inl hv
    · exact .inr (.inl (blk_append.2 (.inl hv)))
    · exact .inr (.inr hv)
  newEmb := fun l b hb => (t.newEmb l b hb).imp id (Or.imp (fun h => blk_append.2 (.inl h)) id)
  sub := fun b hb => by
    rcases blk_append.1 hb with hb | ⟨l, o, hm, hb⟩
    · rcases t.sub b hb with hb | hb
      · exact .inl (blk_append.2 (.inl hb))
      · exact .inr hb
    · exact .inl (blk_append.2 (.inr ⟨l, o, hm, hF l o b hm hb⟩))
  os := t.os
  out := t.out
  tape := t.tape

/-- the order in the list is nothing -/
theorem HeapRel.perm {S : Seal} {i : Emb} {H G : AHeap} {w : World} (h : HeapRel S i H w) (hm : ∀ x, x ∈ G → x ∈ H) : HeapRel S i G w :=
  ⟨h.cell, h.size, fun l o x => h.obj l o (hm _ x), fun l o l' o' b x y => h.inj l o l' o' b (hm _ x) (hm _ y), h.dom⟩
theorem blk_mono {i : Emb} {H G : AHeap} (hm : ∀ x, x ∈ G → x ∈ H) {b : Nat} (h : blk i G b) : blk i H b := by
  obtain ⟨l, o, x, y⟩ := h; exact ⟨l, o, hm _ x, y⟩
theorem Tr.perm {S S' : Seal} {i i' : Emb} {H H' G G' : AHeap} {w w' : World} (t : Tr S i H w S' i' H' w') (hm : ∀ x, x ∈ H → x ∈ G) (hm' : ∀ x, x ∈ G' → x ∈ H') :
    Tr S i G w S' i' G' w' where
  up := t.up
  grow := t.grow
  old := fun b hb hn => t.old b hb fun hx => hn (blk_mono hm hx)
  newSeal := fun a v hv => by
    rcases t.newSeal a v hv with hv | hv | hv
    · exact .inl hv
    · exact .inr (.inl (blk_mono hm hv))
    · exact .inr (.inr hv)
  newEmb := fun l b hb => (t.newEmb l b hb).imp id (Or.imp (blk_mono hm) id)
  sub := fun b hb => (t.sub b (blk_mono hm' hb)).imp (blk_mono hm) id
  os := t.os
  out := t.out
  tape := t.tape
end Go.Proofs.Abs
