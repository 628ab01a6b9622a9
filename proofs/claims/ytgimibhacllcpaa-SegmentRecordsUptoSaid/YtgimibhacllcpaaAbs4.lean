/- Regions run as lists of records; compact code's rules; a function is entered. -/
import Derived.Test.YtgimibhacllcpaaAbs3
namespace Go.Proofs.Abs
open Go

def evA (l : List (Nat × AV)) : Arg → Option AV
  | .t n => lk l n
  | .k x => some x

theorem evA_of {l : List (Nat × AV)} {x : Operand} {a : Arg} (h : argA x = some a) : evL l x = evA l a := by
  cases x with
  | tmp t => cases h; rfl
  | const v =>
    simp only [argA, Option.map_eq_some_iff] at h
    obtain ⟨y, hy, rfl⟩ := h
    exact hy
  | func f => cases h; rfl
  | global g => cases h

def AOpT (P : Program) (ao : AOp) (args : List (Nat × AV)) (H : AHeap) (r : AV) (H' : AHeap) : Prop :=
  (∀ x, x = ao → x ≠ .bad) ∧ ∀ o : Oper, compOp P o.op = ao → OpT P (evL args) o H r H'

structure Rec where
  idx : Nat
  dst : Option Nat
  args : List (Nat × AV)
  hin : AHeap
  hout : AHeap
  r : AV

def gOn (g : Option (Nat × Bool)) (args : List (Nat × AV)) : Option Bool :=
  match g with
  | none => some true
  | some (t, want) => match lk args t with
    | some (.d (.bool b)) => some (b == want)
    | some (.tup _) => some false
    | _ => none

def RecOK (P : Program) (aops : List AOper) (rc : Rec) : Prop :=
  ∃ ao, aops[rc.idx]? = some ao ∧ ao.dst = rc.dst ∧
    ((gOn ao.guard rc.args = some true ∧ AOpT P ao.op rc.args rc.hin rc.r rc.hout) ∨ (gOn ao.guard rc.args = some false ∧ rc.hin = [] ∧ rc.hout = [] ∧ rc.r = .tup []))

def Rec.lab (r : Rec) : List Nat := r.hin.keys ++ r.hout.keys
def newLab (r : Rec) : List Nat := r.hout.keys.filter fun l => !r.hin.keys.elem l
def restH (ls : List Nat) (H : AHeap) : AHeap := H.filter fun x => !ls.elem x.1
def stepH (r : Rec) (H : AHeap) : AHeap := r.hout ++ restH r.lab H

def can (r : Rec) (a : AAct) (H : AHeap) : Prop :=
  (∀ t x, lk r.args t = some x → lk a.l t = some x) ∧ (∀ x ∈ r.hin, x ∈ H) ∧ (∀ t, r.dst = some t → t < a.n)

def chain : List Rec → AAct → AHeap → AAct → AHeap → Prop
  | [], a, H, a', H' => a' = a ∧ H' = H
  | r :: rs, a, H, a', H' => can r a H ∧ chain rs (a.put r.dst r.r) (stepH r H) a' H'

def freshL (n : Nat) : List Nat → List Rec → Prop
  | _, [] => True
  | L, r :: rs => (∀ l ∈ newLab r, n ≤ l ∧ l ∉ L) ∧ freshL n (newLab r ++ L) rs

theorem lk_mem {l : List (Nat × AV)} {t : Nat} {x : AV} (h : lk l t = some x) : (t, x) ∈ l := by
  induction l with
  | nil => cases h
  | cons p r ih =>
    obtain ⟨k, v⟩ := p
    simp only [lk] at h
    cases hb : Nat.beq k t with
    | true =>
      rw [hb] at h
      cases h
      cases Nat.eq_of_beq_eq_true hb
      exact List.mem_cons_self
    | false =>
      rw [hb] at h
      exact List.mem_cons_of_mem _ (ih h)

theorem mem_restH {ls : List Nat} {H : AHeap} {x : Nat × AObj} : x ∈ restH ls H ↔ x ∈ H ∧ x.1 ∉ ls := by
  simp [restH, List.mem_filter]
theorem mem_newLab {r : Rec} {l : Nat} : l ∈ newLab r ↔ l ∈ r.hout.keys ∧ l ∉ r.hin.keys := by
  simp [newLab, List.mem_filter]
theorem mem_keys {H : AHeap} {l : Nat} : l ∈ H.keys ↔ ∃ o, (l, o) ∈ H := by
  simp [AHeap.keys]

theorem wanted_of {S : Seal} {i : Emb} {a : AAct} {ca : Act} {P : Program} {ops : Array Oper} {o : Oper} {args : List (Nat × AV)} {b : Bool} (ha : ActRel S i a ca)
    (hargs : ∀ t x, lk args t = some x → lk a.l t = some x) (hg : gOn (compOper P ops o).guard args = some b) (hbad : ∀ j w, o.guard = some (j, w) → ((ops[j]?).bind (·.dst)).isSome = true) :
    Region.wanted o (yielded ops ca.tmps) = b := by
  unfold Region.wanted
  cases ho : o.guard with
  | none =>
    simp only [compOper, ho, Option.bind_none, gOn] at hg
    cases hg
    rfl
  | some jw =>
    obtain ⟨j, want⟩ := jw
    have hs := hbad j want ho
    cases hd : (ops[j]?).bind (·.dst) with
    | none => rw [hd] at hs; cases hs
    | some t =>
      simp only [compOper, ho, Option.bind_some, hd, Option.map_some, gOn] at hg
      cases hl : lk args t with
      | none => rw [hl] at hg; cases hg
      | some x =>
        rw [hl] at hg
        have hv := ha.get t x (hargs _ _ hl)
        split at hg
        · rename_i c hc
          cases hc
          cases hg
          have hval : ca.tmps.getD t undef = .bool c := by
            generalize ca.tmps.getD t undef = u at hv
            cases hv with
            | d h => cases h; rfl
          have hq : ca.tmps[t]? = some (.bool c) := by
            simp only [Array.getD_eq_getD_getElem?] at hval
            cases hx : ca.tmps[t]? with
            | none => rw [hx] at hval; simp [undef] at hval
            | some y => rw [hx] at hval; simpa using hval
          simp only [yielded, hd, Option.bind_some, hq]
          cases c <;> cases want <;> rfl
        · rename_i c hc
          cases hc
          cases hg
          have hval : ∃ vs, ca.tmps.getD t undef = .tuple vs := by
            generalize ca.tmps.getD t undef = u at hv
            cases hv with
            | tup hl h => exact ⟨_, rfl⟩
          obtain ⟨vs, hval⟩ := hval
          simp only [yielded, hd, Option.bind_some]
          simp only [Array.getD_eq_getD_getElem?] at hval
          cases hx : ca.tmps[t]? with
          | none => cases want <;> rfl
          | some y =>
            rw [hx] at hval
            simp only [Option.getD_some] at hval
            rw [hval]
            cases want <;> rfl
        · cases hg

theorem recs_ok {P : Program} {ro : Option Nat} {Q : Exit → Act → World → Prop} {ops : Array Oper} (n : Nat) :
    ∀ (rs : List Rec) (a : AAct) (H : AHeap) (a' : AAct) (H' : AHeap) (L : List Nat), (∀ r ∈ rs, RecOK P (ops.toList.map (compOper P ops)) r) → chain rs a H a' H' → freshL n L rs →
    ∀ S i w (ca : Act), ActRel S i a ca → HeapRel S i H w → (∀ l b, i l = some b → l < n ∨ l ∈ L) →
    (∀ S' i' w' (ca' : Act), ActRel S' i' a' ca' → ca'.defers = ca.defers → HeapRel S' i' H' w' → i.le i' → (∀ l b, i' l = some b → l < n ∨ l ∈ L ∨ l ∈ rs.flatMap newLab) →
      (∀ l, l < n → i' l = i l) → Tr S i H w S' i' H' w' → Q .normal ca' w') →
    wpOpsIn (fen ro) 0 P ops Q (rs.map (·.idx)) ca w
  | [], a, H, a', H', L, _, hch, _, S, i, w, ca, ha, hh, hd, hQ => by
    obtain ⟨rfl, rfl⟩ := hch
    exact hQ S i w ca ha rfl hh (fun _ _ h => h) (fun l b h => (hd l b h).imp id .inl) (fun _ _ => rfl) (.refl _ _ _ _)
  | rc :: rs, a, H, a', H', L, hok, hch, hfr, S, i, w, ca, ha, hh, hd, hQ => by
    obtain ⟨⟨hargs, hhin, hdst⟩, hch⟩ := hch
    obtain ⟨hfr1, hfr2⟩ := hfr
    obtain ⟨ao, hao, hdo, hcase⟩ := hok rc List.mem_cons_self
    have hok' : ∀ r ∈ rs, RecOK P (ops.toList.map (compOper P ops)) r := fun r hr => hok r (List.mem_cons_of_mem _ hr)
    simp only [List.getElem?_map, Option.map_eq_some_iff] at hao
    obtain ⟨o, ho, rfl⟩ := hao
    have ho' : ops[rc.idx]? = some o := by simpa using ho
    simp only [List.map_cons, wpOpsIn, ho']
    -- the guard
    have hev : ∀ x y, evL rc.args x = some y → V S i y (ca.eval x) := by
      intro x y hx
      refine ha.eval ?_
      cases x with
      | tmp t => exact hargs _ _ hx
      | const v => exact hx
      | func f => exact hx
      | global g => exact hx
    rcases hcase with ⟨hg, hop⟩ | ⟨hg, hin0, hout0, hr0⟩
    · have hnb : ∀ j wn, o.guard = some (j, wn) → ((ops[j]?).bind (·.dst)).isSome = true := by
        intro j wn hgd
        cases hx : (ops[j]?).bind (·.dst) with
        | some t => rfl
        | none =>
          exfalso
          refine hop.1 _ rfl ?_
          simp [compOper, hgd, hx]
      have hw := wanted_of ha hargs hg hnb
      simp only [hw, if_true]
      have hcomp : compOp P o.op = (compOper P ops o).op := by
        simp only [compOper]
        cases hgd : o.guard with
        | none => rfl
        | some jw =>
          obtain ⟨j, wn⟩ := jw
          have := hnb j wn hgd
          cases hx : (ops[j]?).bind (·.dst) with
          | none => rw [hx] at this; cases this
          | some t => simp [hx]
      obtain ⟨hnd, hT⟩ := hop.2 o hcomp
      refine ⟨fun _ _ => trivial, ?_⟩
      rw [Oper.semAt_eq _ _ _ hnd]
      have hhF : HeapRel S i (rc.hin ++ restH rc.lab H) w := hh.perm fun x hx => by
        rcases List.mem_append.1 hx with hx | hx
        · exact hhin x hx
        · exact (mem_restH.1 hx).1
      have hdis : ∀ l ∈ rc.hin.keys, l ∉ (restH rc.lab H).keys := by
        intro l hl hl'
        obtain ⟨y, hy⟩ := mem_keys.1 hl'
        exact (mem_restH.1 hy).2 (List.mem_append.2 (.inl hl))
      have hT' := hT S i w ca.eval hev (hh.perm hhin) (fun l hl hl' => by
        have hn := hfr1 l (mem_newLab.2 ⟨hl, hl'⟩)
        cases hi : i l with
        | none => rfl
        | some b => rcases hd l b hi with h | h
                    · omega
                    · exact absurd h hn.2)
      refine uponIn_of_ends hT' ?_
      rintro v w1 ⟨S1, i1, hv, hh1, hle, htr, hnew⟩
      have hdis' : ∀ l ∈ rc.hout.keys, l ∉ (restH rc.lab H).keys := by
        intro l hl hl'
        obtain ⟨y, hy⟩ := mem_keys.1 hl'
        exact (mem_restH.1 hy).2 (List.mem_append.2 (.inr hl))
      have hF := hhF.frame hdis hh1 hle hnew hdis' htr
      have hFi : ∀ l o b, (l, o) ∈ restH rc.lab H → i1 l = some b → i l = some b := fun l o b hm hb => by
        rcases hnew l b hb with hb | hb
        · exact hb
        · exact absurd (mem_keys.2 ⟨o, hm⟩) (hdis' l hb.1)
      have htr1 : Tr S i H w S1 i1 (stepH rc H) w1 := (htr.frame hFi).perm (fun x hx => by
        rcases List.mem_append.1 hx with hx | hx
        · exact hhin x hx
        · exact (mem_restH.1 hx).1) (fun x hx => hx)
      have hagree : ∀ l, l < n → i1 l = i l := by
        intro l hl
        cases h1 : i1 l with
        | none =>
          cases h0 : i l with
          | none => rfl
          | some b => rw [hle l b h0] at h1; cases h1
        | some b =>
          rcases hnew l b h1 with h0 | h0
          · exact h0.symm
          · have := (hfr1 l (mem_newLab.2 h0)).1
            omega
      refine recs_ok n rs _ _ a' H' (newLab rc ++ L) hok' hch hfr2 S1 i1 w1 (ca.put o.dst v) ?_ hF ?_ ?_
      · have : o.dst = rc.dst := hdo
        rw [this]
        exact (ha.mono htr.up hle).put hv hdst
      · intro l b hl
        rcases hnew l b hl with h0 | h0
        · exact (hd l b h0).imp id fun h => List.mem_append.2 (.inr h)
        · exact .inr (List.mem_append.2 (.inl (mem_newLab.2 h0)))
      · intro S' i' w' ca' hact hdef hhp hle' hdom hag htr'
        refine hQ S' i' w' ca' hact (hdef.trans ?_) hhp (fun l b h => hle' l b (hle l b h)) (fun l b h => ?_) (fun l hl => (hag l hl).trans (hagree l hl)) (htr1.trans htr')
        · cases o.dst <;> rfl
        · rcases hdom l b h with h | h | h
          · exact .inl h
          · rcases List.mem_append.1 h with h | h
            · exact .inr (.inr (by simp [h]))
            · exact .inr (.inl h)
          · exact .inr (.inr (by simp only [List.flatMap_cons, List.mem_append]; exact .inr h))
    · have hnb : ∀ j wn, o.guard = some (j, wn) → ((ops[j]?).bind (·.dst)).isSome = true := by
        intro j wn hgd
        cases hx : (ops[j]?).bind (·.dst) with
        | some t => rfl
        | none =>
          simp only [compOper, hgd, Option.bind_some, hx, Option.map_none, gOn] at hg
          cases hg
      have hw := wanted_of ha hargs hg hnb
      simp only [hw, if_false, Bool.false_eq_true]
      refine ⟨fun _ _ => trivial, ?_⟩
      have hst : ∀ x, x ∈ stepH rc H → x ∈ H := by
        intro x hx
        simp only [stepH, hout0, List.nil_append] at hx
        exact (mem_restH.1 hx).1
      have hst' : ∀ x, x ∈ H → x ∈ stepH rc H := by
        intro x hx
        simp only [stepH, hout0, List.nil_append]
        exact mem_restH.2 ⟨hx, by simp [Rec.lab, hin0, hout0, AHeap.keys]⟩
      have hnl : newLab rc = [] := by simp [newLab, hout0, AHeap.keys]
      refine recs_ok n rs _ _ a' H' (newLab rc ++ L) hok' hch hfr2 S i w (ca.put o.dst undef) ?_ (hh.perm hst) ?_ ?_
      · have : o.dst = rc.dst := hdo
        rw [this, hr0]
        exact ha.put (.tup rfl fun j h1 => by simp at h1) hdst
      · intro l b hl
        exact (hd l b hl).imp id fun h => List.mem_append.2 (.inr h)
      · intro S' i' w' ca' hact hdef hhp hle' hdom hag htr'
        refine hQ S' i' w' ca' hact (hdef.trans ?_) hhp hle' (fun l b h => ?_) hag (((Tr.refl S i H w).perm (fun _ h => h) hst).trans htr')
        · cases o.dst <;> rfl
        · rcases hdom l b h with h | h | h
          · exact .inl h
          · rw [hnl] at h
            exact .inr (.inl (by simpa using h))
          · exact .inr (.inr (by simp only [List.flatMap_cons, List.mem_append]; exact .inr h))

def AWc (P : Program) (ro : Option Nat) (m : Nat) (ac : ACode) (a : AAct) (H : AHeap) (n : Nat) (Q : Exit → AAct → AHeap → Nat → Prop) : Prop :=
  ∀ c, compCode P c = ac → AW P ro m c a H n Q

section
variable {P : Program} {ro : Option Nat} {m n : Nat} {a : AAct} {H : AHeap} {Q Q' : Exit → AAct → AHeap → Nat → Prop}

theorem AWc.mono {c : ACode} (h : AWc P ro m c a H n Q) (hq : ∀ ex a H n, Q ex a H n → Q' ex a H n) : AWc P ro m c a H n Q' := fun c hc => (h c hc).mono hq

theorem AWc.skip (h : Q .normal a H n) : AWc P ro m .skip a H n Q := by
  intro c hc
  cases c <;> simp only [compCode] at hc <;> first | exact .skip h | (split at hc <;> cases hc) | cases hc
theorem AWc.label {l : Nat} (h : Q .normal a H n) : AWc P ro m (.label l) a H n Q := by
  intro c hc
  cases c <;> simp only [compCode] at hc <;> first | exact .label h | (split at hc <;> cases hc) | cases hc
theorem AWc.exit {id : Nat} (h : Q (.exit id) a H n) : AWc P ro m (.exit id) a H n Q := by
  intro c hc
  cases c <;> simp only [compCode] at hc <;> first | (cases hc; exact .exit h) | (split at hc <;> cases hc) | cases hc
theorem AWc.ret (h : Q .ret a H n) : AWc P ro m .ret a H n Q := by
  intro c hc
  cases c <;> simp only [compCode] at hc <;> first | exact .ret h | (split at hc <;> cases hc) | cases hc
theorem AWc.seq {x y : ACode} (h : AWc P ro m x a H n (then' (fun a H n => AWc P ro m y a H n Q) Q)) : AWc P ro m (.seq x y) a H n Q := by
  intro c hc
  cases c <;> simp only [compCode] at hc
  case seq u v =>
    injection hc with h1 h2
    refine .seq ((h u h1).mono ?_)
    intro ex a H n q
    cases ex <;> first | exact q v h2 | exact q
  all_goals first | (split at hc <;> cases hc) | cases hc
theorem AWc.cond {c : Arg} {x y : ACode} {b : Bool} (hc : evA a.l c = some (.d (.bool b))) (ht : b = true → AWc P ro m x a H n Q) (hf : b = false → AWc P ro m y a H n Q) :
    AWc P ro m (.cond c x y) a H n Q := by
  intro cc hcc
  cases cc <;> simp only [compCode] at hcc
  case cond o u v =>
    split at hcc
    · rename_i g hg
      injection hcc with h1 h2 h3
      subst h1
      exact .cond ((evA_of hg).trans hc) (fun e => ht e u h2) (fun e => hf e v h3)
    · cases hcc
  all_goals first | (split at hcc <;> cases hcc) | cases hcc
theorem AWc.block {id : Nat} {c : ACode} (h : AWc P ro m c a H n (inBlk id Q)) : AWc P ro m (.block id c) a H n Q := by
  intro cc hcc
  cases cc <;> simp only [compCode] at hcc
  case block j u =>
    injection hcc with h1 h2
    subst h1
    exact .block (h u h2)
  all_goals first | (split at hcc <;> cases hcc) | cases hcc
theorem AWc.loop {α : Type} {c : ACode} (I : α → AAct → AHeap → Nat → Prop) (μ : α → Nat) (x₀ : α) (h₀ : I x₀ a H n)
    (round : ∀ x a H n, I x a H n → AWc P ro m c a H n (then' (fun a H n => ∃ y, I y a H n ∧ μ y < μ x) Q)) : AWc P ro m (.loop c) a H n Q := by
  intro cc hcc
  cases cc <;> simp only [compCode] at hcc
  case loop u =>
    injection hcc with h1
    exact .loop I μ x₀ h₀ fun x a H n hI => round x a H n hI u h1
  all_goals first | (split at hcc <;> cases hcc) | cases hcc
theorem AWc.weaken {c : ACode} {a' : AAct} {H' : AHeap} {k : Nat} (hm : m ≤ k) (hn' : a'.n = a.n) (ha : ∀ t x, lk a'.l t = some x → lk a.l t = some x)
    (hH : ∀ x, x ∈ H' → x ∈ H) (hal : ∀ t x, lk a'.l t = some x → x.lt k) (hHl : ∀ l o, (l, o) ∈ H' → l < k ∧ o.lt k) (h : AWc P ro m c a' H' k Q) : AWc P ro m c a H n Q :=
  fun cc hcc => .weaken hm hn' ha hH hal hHl (h cc hcc)

/-- a region whose order is the text's -/
theorem AWc.region {aops : List AOper} (rs : List Rec) {a' : AAct} {H' : AHeap} {n' : Nat} (hi : rs.map (·.idx) = List.range aops.length) (hok : ∀ r ∈ rs, RecOK P aops r)
    (hch : chain rs a H a' H') (hfr : freshL n [] rs) (hnn : n ≤ n') (hnl : ∀ l ∈ rs.flatMap newLab, l < n') (hm : m ≤ n) (h : Q .normal a' H' n') : AWc P ro m (.region false aops) a H n Q := by
  intro cc hcc
  cases cc <;> simp only [compCode] at hcc
  case region id ops draw =>
    injection hcc with h1 h2
    subst h1 h2
    intro S i w ca ha hh hd
    refine wpIn_region ?_
    have hlen : ops.size = (ops.toList.map (compOper P ops)).length := by simp
    rw [hlen, ← hi]
    refine recs_ok n rs a H a' H' [] hok hch hfr S i w ca ha hh (fun l b hl => .inl (hd l b hl)) ?_
    intro S' i' w' ca' hact hdef hhp hle hdom hag htr
    refine ⟨a', H', n', S', i', h, hact, .of_eq hdef, hhp, fun l b hl => ?_, fun l hl => hag l (by omega), htr⟩
    rcases hdom l b hl with h | h | h
    · omega
    · cases h
    · exact hnl l h
  all_goals first | (split at hcc <;> cases hcc) | cases hcc
end
end Go.Proofs.Abs
