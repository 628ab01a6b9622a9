/- Labels are renamed; less is said of a value; what is nothing yet may be appended to. -/
import Derived.Test.YtgimibhacllcpaaAbs18
namespace Go.Proofs.Abs
open Go

mutual
def AV.ren (s : Nat → Nat) : AV → AV
  | .d x => .d x
  | .cp x off => .cp x off
  | .ptr l off => .ptr (s l) off
  | .sl l off len cap z => .sl (s l) off len cap z
  | .ap l z xs => .ap (s l) z xs
  | .win xs n => .win xs n
  | .nils => .nils
  | .agg l => .agg (AV.renL s l)
  | .tup l => .tup (AV.renL s l)
  | .fn f l => .fn f (AV.renL s l)
  | .mp l => .mp (s l)
  | .lf l => .lf (s l)
  | .dn xs => .dn xs
  | .row l z n => .row (s l) z n
  | .any => .any
def AV.renL (s : Nat → Nat) : List AV → List AV
  | [] => []
  | x :: r => AV.ren s x :: AV.renL s r
end
theorem renL_eq {s : Nat → Nat} : ∀ {l : List AV}, AV.renL s l = l.map (AV.ren s)
  | [] => by rw [AV.renL]; rfl
  | x :: r => by rw [AV.renL, renL_eq]; rfl

theorem V.unren {S : Seal} {i : Emb} {s : Nat → Nat} {y : AV} {v : Value} (h : V S i y v) : ∀ {x : AV}, x.ren s = y → V S (fun l => i (s l)) x v := by
  have len : ∀ {l : List AV} {m : List AV}, AV.renL s l = m → l.length = m.length := fun e => by rw [← e, renL_eq]; simp
  have get : ∀ {l m : List AV} (e : AV.renL s l = m) (j : Nat) (h1 : j < l.length) (h2 : j < m.length), (l[j]).ren s = m[j] := by
    intro l m e j h1 h2
    subst e
    simp [renL_eq]
  induction h with
  | d h => intro x hx; cases x <;> simp only [AV.ren, reduceCtorEq, AV.d.injEq] at hx; subst hx; exact .d h
  | cp f hg hs h => intro x hx; cases x <;> simp only [AV.ren, reduceCtorEq, AV.cp.injEq] at hx; obtain ⟨rfl, rfl⟩ := hx; exact .cp f hg hs h
  | ptr h => intro x hx; cases x <;> simp only [AV.ren, reduceCtorEq, AV.ptr.injEq] at hx; obtain ⟨rfl, rfl⟩ := hx; exact .ptr h
  | sl h => intro x hx; cases x <;> simp only [AV.ren, reduceCtorEq, AV.sl.injEq] at hx; obtain ⟨rfl, rfl, rfl, rfl, rfl⟩ := hx; exact .sl h
  | apn => intro x hx; cases x <;> simp only [AV.ren, reduceCtorEq, AV.ap.injEq] at hx; obtain ⟨rfl, rfl, rfl⟩ := hx; exact .apn
  | ap h hd hz hn hc => intro x hx; cases x <;> simp only [AV.ren, reduceCtorEq, AV.ap.injEq] at hx; obtain ⟨rfl, rfl, rfl⟩ := hx; exact .ap h hd hz hn hc
  | win h hn => intro x hx; cases x <;> simp only [AV.ren, reduceCtorEq, AV.win.injEq] at hx; obtain ⟨rfl, rfl⟩ := hx; exact .win h hn
  | nils => intro x hx; cases x <;> simp only [AV.ren, reduceCtorEq] at hx; exact .nils
  | agg hl h ih =>
    intro x hx; cases x <;> simp only [AV.ren, reduceCtorEq, AV.agg.injEq] at hx
    exact .agg ((len hx).trans hl) fun j h1 h2 => ih j (by rw [← len hx]; exact h1) h2 (get hx j h1 (by rw [← len hx]; exact h1))
  | tup hl h ih =>
    intro x hx; cases x <;> simp only [AV.ren, reduceCtorEq, AV.tup.injEq] at hx
    exact .tup ((len hx).trans hl) fun j h1 h2 => ih j (by rw [← len hx]; exact h1) h2 (get hx j h1 (by rw [← len hx]; exact h1))
  | fn hl h ih =>
    intro x hx; cases x <;> simp only [AV.ren, reduceCtorEq, AV.fn.injEq] at hx
    obtain ⟨rfl, hx⟩ := hx
    exact .fn ((len hx).trans hl) fun j h1 h2 => ih j (by rw [← len hx]; exact h1) h2 (get hx j h1 (by rw [← len hx]; exact h1))
  | mp h => intro x hx; cases x <;> simp only [AV.ren, reduceCtorEq, AV.mp.injEq] at hx; subst hx; exact .mp h
  | lf h => intro x hx; cases x <;> simp only [AV.ren, reduceCtorEq, AV.lf.injEq] at hx; subst hx; exact .lf h
  | dn h => intro x hx; cases x <;> simp only [AV.ren, reduceCtorEq, AV.dn.injEq] at hx; subst hx; exact .dn h
  | rown => intro x hx; cases x <;> simp only [AV.ren, reduceCtorEq, AV.row.injEq] at hx; obtain ⟨rfl, rfl, rfl⟩ := hx; exact .rown
  | row h hn hc hl => intro x hx; cases x <;> simp only [AV.ren, reduceCtorEq, AV.row.injEq] at hx; obtain ⟨rfl, rfl, rfl⟩ := hx; exact .row h hn hc hl
  | any => intro x hx; cases x <;> simp only [AV.ren, reduceCtorEq] at hx; exact .any

theorem V.ren {S : Seal} {i : Emb} {s : Nat → Nat} {x : AV} {v : Value} (h : V S (fun l => i (s l)) x v) : V S i (x.ren s) v := by
  generalize hj : (fun l => i (s l)) = j at h
  have hj' : ∀ l, j l = i (s l) := fun l => by rw [← hj]
  clear hj
  have get : ∀ {l : List AV} {vs : List Value}, (∀ j (h1 : j < l.length) (h2 : j < vs.length), V S i (l[j].ren s) vs[j]) → ∀ j (h1 : j < (AV.renL s l).length) (h2 : j < vs.length), V S i (AV.renL s l)[j] vs[j] := by
    intro l vs h j h1 h2
    have := h j (by simpa [renL_eq] using h1) h2
    simpa [renL_eq] using this
  induction h with
  | d h => rw [AV.ren]; exact .d h
  | cp f hg hs h => rw [AV.ren]; exact .cp f hg hs h
  | ptr h => rw [AV.ren]; exact .ptr (hj' _ ▸ h)
  | sl h => rw [AV.ren]; exact .sl (hj' _ ▸ h)
  | apn => rw [AV.ren]; exact .apn
  | ap h hd hz hn hc => rw [AV.ren]; exact .ap (hj' _ ▸ h) hd hz hn hc
  | win h hn => rw [AV.ren]; exact .win h hn
  | nils => rw [AV.ren]; exact .nils
  | agg hl h ih => rw [AV.ren]; exact .agg (by simpa [renL_eq] using hl) (get ih)
  | tup hl h ih => rw [AV.ren]; exact .tup (by simpa [renL_eq] using hl) (get ih)
  | fn hl h ih => rw [AV.ren]; exact .fn (by simpa [renL_eq] using hl) (get ih)
  | mp h => rw [AV.ren]; exact .mp (hj' _ ▸ h)
  | lf h => rw [AV.ren]; exact .lf (hj' _ ▸ h)
  | dn h => rw [AV.ren]; exact .dn h
  | rown => rw [AV.ren]; exact .rown
  | row h hn hc hl => rw [AV.ren]; exact .row (hj' _ ▸ h) hn hc hl
  | any => rw [AV.ren]; exact .any

def AObj.ren (s : Nat → Nat) : AObj → AObj
  | .cells l => .cells (AV.renL s l)
  | .tok n => .tok n
  | .rowD ds => .rowD ds
  | .rowP ds => .rowP ds
  | .row l => .row (AV.renL s l)
  | .mp es => .mp (es.map fun x => (x.1, x.2.ren s))
  | .lp N sl ps asg bd st pend => .lp N (sl.map fun x => (x.1, x.2.ren s)) ps asg bd st pend
theorem AObj.nil0_ren {s : Nat → Nat} {o : AObj} : (o.ren s).nil0 ↔ o.nil0 := by
  cases o with
  | cells l => exact Iff.rfl
  | tok n => exact Iff.rfl
  | rowD ds => exact Iff.rfl
  | rowP ds => exact Iff.rfl
  | row l => cases l <;> simp [AObj.ren, AObj.nil0, renL_eq]
  | mp es => exact Iff.rfl
  | lp N sl ps asg bd st pend => exact Iff.rfl
def AHeap.ren (s : Nat → Nat) : AHeap → AHeap
  | [] => []
  | (l, o) :: r => (s l, o.ren s) :: AHeap.ren s r
theorem AHeap.ren_eq {s : Nat → Nat} : ∀ {H : AHeap}, H.ren s = H.map fun x => (s x.1, x.2.ren s)
  | [] => rfl
  | (l, o) :: r => by rw [AHeap.ren, AHeap.ren_eq]; rfl
theorem mem_ren {s : Nat → Nat} {H : AHeap} {l : Nat} {o : AObj} (h : (l, o) ∈ H) : (s l, o.ren s) ∈ H.ren s := by
  rw [AHeap.ren_eq]; exact List.mem_map.2 ⟨_, h, rfl⟩
theorem of_mem_ren {s : Nat → Nat} {H : AHeap} {l : Nat} {o : AObj} (h : (l, o) ∈ H.ren s) : ∃ k p, (k, p) ∈ H ∧ s k = l ∧ p.ren s = o := by
  rw [AHeap.ren_eq] at h
  obtain ⟨⟨k, p⟩, hm, he⟩ := List.mem_map.1 h
  cases he
  exact ⟨k, p, hm, rfl, rfl⟩
theorem keys_ren {s : Nat → Nat} {H : AHeap} {l : Nat} : l ∈ (H.ren s).keys ↔ ∃ k ∈ H.keys, s k = l := by
  constructor
  · intro h
    obtain ⟨o, ho⟩ := mem_keys.1 h
    obtain ⟨k, p, hm, hk, _⟩ := of_mem_ren ho
    exact ⟨k, mem_keys.2 ⟨p, hm⟩, hk⟩
  · rintro ⟨k, hk, rfl⟩
    obtain ⟨o, ho⟩ := mem_keys.1 hk
    exact mem_keys.2 ⟨_, mem_ren ho⟩

theorem ObjRel.unren {S : Seal} {i : Emb} {s : Nat → Nat} {w : World} {b : Nat} {o : AObj} (h : ObjRel S i w b (o.ren s)) : ObjRel S (fun l => i (s l)) w b o := by
  cases o with
  | cells L =>
    obtain ⟨c, e, hc, hs, hv, hf⟩ := h
    have hl : (AV.renL s L).length = L.length := by rw [renL_eq]; simp
    refine ⟨c, e, hc, hs.trans hl, fun j h1 h2 => ?_, hf⟩
    exact (hv j (by rw [hl]; exact h1) h2).unren (by simp [renL_eq])
  | tok n => exact h
  | rowP ds => exact h
  | rowD ds => obtain ⟨c, e, hc, hs, hv, hf⟩ := h; exact ⟨c, e, hc, hs, fun j h1 h2 => (hv j h1 h2).unren (by rw [List.getElem_map]; rfl), hf⟩
  | row L =>
    obtain ⟨c, e, hc, hs, hv, hf⟩ := h
    have hl : (AV.renL s L).length = L.length := by rw [renL_eq]; simp
    refine ⟨c, e, hc, hl ▸ hs, fun j h1 h2 => ?_, hf⟩
    exact (hv j (by rw [hl]; exact h1) h2).unren (by simp [renL_eq])
  | mp es =>
    obtain ⟨c, e, hc, hs, hv, hf⟩ := h
    refine ⟨c, e, hc, by simpa using hs, fun j h1 h2 => ?_, hf⟩
    have := hv j (by simpa using h1) h2
    simp only [List.getElem_map] at this
    exact ⟨this.1, this.2.unren rfl⟩
  | lp N sl ps asg bd st pend =>
    obtain ⟨r, hr, h1, h2, h3, h4, h5, h6, hv, hf⟩ := h
    exact ⟨r, hr, h1, h2, h3, h4, h5, h6, fun x hx => (hv (x.1, x.2.ren s) (List.mem_map.2 ⟨x, hx, rfl⟩)).unren rfl, hf⟩
theorem ObjRel.ren {S : Seal} {i : Emb} {s : Nat → Nat} {w : World} {b : Nat} {o : AObj} (h : ObjRel S (fun l => i (s l)) w b o) : ObjRel S i w b (o.ren s) := by
  cases o with
  | cells L =>
    obtain ⟨c, e, hc, hs, hv, hf⟩ := h
    have hl : (AV.renL s L).length = L.length := by rw [renL_eq]; simp
    refine ⟨c, e, hc, hs.trans hl.symm, fun j h1 h2 => ?_, hf⟩
    have := (hv j (by rw [← hl]; exact h1) h2).ren
    simpa [renL_eq] using this
  | tok n => exact h
  | rowP ds => exact h
  | rowD ds => obtain ⟨c, e, hc, hs, hv, hf⟩ := h; exact ⟨c, e, hc, hs, fun j h1 h2 => (by have := (hv j h1 h2).ren; rw [List.getElem_map] at this ⊢; exact this), hf⟩
  | row L =>
    obtain ⟨c, e, hc, hs, hv, hf⟩ := h
    have hl : (AV.renL s L).length = L.length := by rw [renL_eq]; simp
    refine ⟨c, e, hc, hl.symm ▸ hs, fun j h1 h2 => ?_, hf⟩
    have := (hv j (by rw [← hl]; exact h1) h2).ren
    simpa [renL_eq] using this
  | mp es =>
    obtain ⟨c, e, hc, hs, hv, hf⟩ := h
    refine ⟨c, e, hc, by simpa using hs, fun j h1 h2 => ?_, hf⟩
    have := hv j (by simpa using h1) h2
    simp only [List.getElem_map]
    exact ⟨this.1, this.2.ren⟩
  | lp N sl ps asg bd st pend =>
    obtain ⟨r, hr, h1, h2, h3, h4, h5, h6, hv, hf⟩ := h
    refine ⟨r, hr, h1, h2, h3, h4, h5, h6, fun x hx => ?_, hf⟩
    obtain ⟨y, hy, rfl⟩ := List.mem_map.1 hx
    exact (hv y hy).ren

section
variable {P : Program} {ro : Option Nat} {a : AAct} {H : AHeap} {n m : Nat} {Q : Exit → AAct → AHeap → Nat → Prop}

/-- LABELS ARE RENAMED and things are dropped -/
theorem AWc.rename {c : ACode} {a' : AAct} {H' : AHeap} {k : Nat} (s : Nat → Nat) (hm : m ≤ k) (hs : ∀ l, l < m → s l = l) (hs' : ∀ l, l < k → l ∈ H'.keys ∨ s l = l)
    (hinj : ∀ l l', l ∈ H'.keys → l' ∈ H'.keys → s l = s l' → l = l') (hn' : a'.n = a.n) (ha : ∀ t x, lk a'.l t = some x → lk a.l t = some (x.ren s) ∧ x.lt k)
    (hH : ∀ l o, (l, o) ∈ H' → (s l, o.ren s) ∈ H ∧ l < k ∧ o.lt k) (h : AWc P ro m c a' H' k Q) : AWc P ro m c a H n Q := by
  intro cc hcc S i w ca hact hh hn
  let j : Emb := Emb.cut (fun l => i (s l)) k
  have hj : ∀ l b, j l = some b → l < k ∧ i (s l) = some b := fun l b h => Emb.cut_some h
  have hjl : ∀ l, l < k → j l = i (s l) := fun l h => Emb.cut_of h
  have h1 : ActRel S j a' ca := ⟨hact.size.trans hn'.symm, fun t x hx => (((hact.get t _ (ha t x hx).1).unren rfl).cut (ha t x hx).2)⟩
  have h2 : HeapRel S j H' w := by
    refine ⟨hh.cell, hh.size, fun l o hm => ?_, fun l o l' o' b x y hl hl' => ?_, fun l b hl => hh.dom _ b (hj l b hl).2⟩
    · obtain ⟨h0, hl, ho⟩ := hH l o hm
      rcases hh.obj _ _ h0 with ⟨b, hb, hr⟩ | ⟨hn, ho'⟩
      · refine .inl ⟨b, by rw [hjl l hl]; exact hb, ?_⟩
        have hr' := hr.unren
        exact hr'.relabel (K := (· < k)) (fun l hl => Emb.cut_of hl) ho
      · exact .inr ⟨by rw [hjl l hl]; exact hn, AObj.nil0_ren.1 ho'⟩
    · obtain ⟨k1, e1⟩ := hj l b hl
      obtain ⟨k2, e2⟩ := hj l' b hl'
      exact hinj l l' (mem_keys.2 ⟨o, x⟩) (mem_keys.2 ⟨o', y⟩) (hh.inj _ _ _ _ b (hH l o x).1 (hH l' o' y).1 e1 e2)
  have hblk : ∀ b, blk j H' b → blk i H b := by
    rintro b ⟨l, o, hx, hb⟩
    exact ⟨s l, o.ren s, (hH l o hx).1, (hj l b hb).2⟩
  refine wpIn_mono (h cc hcc S j w ca h1 h2 fun l b hl => (hj l b hl).1) ?_
  rintro ex ca' w' ⟨a'', H'', n'', S'', i'', q, ra, rd, rh, rn, re, rt⟩
  refine ⟨a'', H'', n'', S'', i'', q, ra, rd, rh, rn, fun l hl => ?_, ?_⟩
  · rw [re l hl, hjl l (Nat.lt_of_lt_of_le hl hm), hs l hl]
  · refine ⟨rt.up, rt.grow, fun b hb hx => rt.old b hb fun h => hx (hblk b h), fun a v hv => (rt.newSeal a v hv).imp id (Or.imp (hblk _) id),
      fun l b hb => ?_, fun b hb => (rt.sub b hb).imp (hblk b) id, rt.os, rt.out, rt.tape⟩
    rcases rt.newEmb l b hb with h | h | h
    · obtain ⟨k1, e1⟩ := hj l b h
      rcases hs' l k1 with hk | hk
      · obtain ⟨o, ho⟩ := mem_keys.1 hk
        exact .inr (.inl ⟨s l, _, (hH l o ho).1, e1⟩)
      · rw [hk] at e1; exact .inl e1
    · exact .inr (.inl (hblk b h))
    · exact .inr (.inr h)

/-- WHAT IS NIL may be appended to -/
theorem AWc.nilap {c : ACode} {N : Nat} {l : List (Nat × AV)} (t z : Nat) (ht : lk l t = some .nils) (h : AWc P ro m c ⟨N, (t, .ap n z []) :: l⟩ ((n, .tok 0) :: H) (n + 1) Q)
    (hk : ∀ x ∈ H, x.1 < n) : AWc P ro m c ⟨N, l⟩ H n Q := by
  intro cc hcc S i w ca hact hh hn
  have hin : i n = none := by
    cases hi : i n with
    | none => rfl
    | some b => have := hn n b hi; omega
  have hblk : ∀ b, blk i ((n, .tok 0) :: H) b → blk i H b := by
    rintro b ⟨l, o, hx, hb⟩
    rcases List.mem_cons.1 hx with hx | hx
    · cases hx; rw [hin] at hb; cases hb
    · exact ⟨l, o, hx, hb⟩
  refine wpIn_mono (h cc hcc S i w ca ⟨hact.size, fun u x hx => ?_⟩ ⟨hh.cell, hh.size, fun l o hm => ?_, fun l o l' o' b x y hl hl' => ?_, hh.dom⟩ fun l b hl => Nat.lt_succ_of_lt (hn l b hl)) ?_
  · simp only [lk] at hx
    cases hb : Nat.beq t u with
    | true =>
      rw [hb] at hx
      cases hx
      cases Nat.eq_of_beq_eq_true hb
      have := hact.get t _ ht
      generalize ca.tmps.getD t undef = v at this
      cases this
      exact .apn
    | false =>
      rw [hb] at hx
      exact hact.get u x hx
  · rcases List.mem_cons.1 hm with hm | hm
    · cases hm; exact .inr ⟨hin, rfl⟩
    · exact hh.obj l o hm
  · rcases List.mem_cons.1 x with x | x
    · cases x; rw [hin] at hl; cases hl
    · rcases List.mem_cons.1 y with y | y
      · cases y; rw [hin] at hl'; cases hl'
      · exact hh.inj l o l' o' b x y hl hl'
  · rintro ex ca' w' ⟨a'', H'', n'', S'', i'', q, ra, rd, rh, rn, re, rt⟩
    exact ⟨a'', H'', n'', S'', i'', q, ra, rd, rh, rn, re, ⟨rt.up, rt.grow, fun b hb hx => rt.old b hb fun h => hx (hblk b h), fun a v hv => (rt.newSeal a v hv).imp id (Or.imp (hblk _) id),
      fun l b hb => (rt.newEmb l b hb).imp id (Or.imp (hblk b) id), fun b hb => (rt.sub b hb).imp (hblk b) id, rt.os, rt.out, rt.tape⟩⟩

theorem ACalls.args {f : FuncId} {xs ys : List AV} {r : AV} {H' : AHeap} (h : ACalls P f ys H r H') (hl : xs.length = ys.length) (hs : ∀ j (h1 : j < xs.length) (h2 : j < ys.length), Sub xs[j] ys[j]) : ACalls P f xs H r H' :=
  ⟨h.1, fun S i w vs hvs hv hh hf => h.2 S i w vs (hl ▸ hvs) (fun j h1 h2 => hs j (by omega) h1 _ _ _ (hv j (by omega) h2)) hh hf⟩

theorem ACalls.res {f : FuncId} {xs : List AV} {r r' : AV} {H' : AHeap} (h : ACalls P f xs H r H') (hs : Sub r r') : ACalls P f xs H r' H' :=
  ⟨h.1, fun S i w vs hvs hv hh hf => Calls.mono (h.2 S i w vs hvs hv hh hf) fun e w' ⟨v, he, S', i', h1, h2⟩ => ⟨v, he, S', i', hs _ _ _ h1, h2⟩⟩

/-- LABELS OF A CALL ARE RENAMED -/
theorem ACalls.rename {f : FuncId} {xs : List AV} {r : AV} {H' : AHeap} (h : ACalls P f xs H r H') (s : Nat → Nat) (K : Nat) (hinj : ∀ a, a < K → ∀ b, b < K → s a = s b → a = b)
    (hr : r.lt K) (hK : ∀ l o, (l, o) ∈ H → l < K) (hK' : ∀ l o, (l, o) ∈ H' → l < K ∧ o.lt K) : ACalls P f (xs.map (AV.ren s)) (H.ren s) (r.ren s) (H'.ren s) := by
  have kH : ∀ {l}, l ∈ H.keys → l < K := fun hl => by obtain ⟨o, ho⟩ := mem_keys.1 hl; exact hK _ _ ho
  have kH' : ∀ {l}, l ∈ H'.keys → l < K := fun hl => by obtain ⟨o, ho⟩ := mem_keys.1 hl; exact (hK' _ _ ho).1
  refine ⟨h.1, fun S i w vs hvs hv hh hf => ?_⟩
  have hnew : ∀ l, l ∈ H'.keys → l ∉ H.keys → s l ∈ (H'.ren s).keys ∧ s l ∉ (H.ren s).keys := by
    intro l h1 h2
    refine ⟨keys_ren.2 ⟨l, h1, rfl⟩, fun hx => ?_⟩
    obtain ⟨k, hk, he⟩ := keys_ren.1 hx
    exact h2 (hinj k (kH hk) l (kH' h1) he ▸ hk)
  have hc := h.2 S (fun l => i (s l)) w vs (by simpa using hvs) (fun j h1 h2 => by
    have := hv j (by simpa using h1) h2
    exact this.unren (by simp)) ?_ (fun l h1 h2 => hf _ (hnew l h1 h2).1 (hnew l h1 h2).2)
  · refine Calls.mono hc fun e w' ⟨v, he, S', i', h1, h2, h3, h4, h5⟩ => ⟨v, he, ?_⟩
    classical
    let j : Emb := fun m => if hx : ∃ l, l ∈ H'.keys ∧ l ∉ H.keys ∧ s l = m then i' (Classical.choose hx) else i m
    have jnew : ∀ l, l ∈ H'.keys → l ∉ H.keys → j (s l) = i' l := by
      intro l k1 k2
      have hx : ∃ l', l' ∈ H'.keys ∧ l' ∉ H.keys ∧ s l' = s l := ⟨l, k1, k2, rfl⟩
      simp only [j]
      rw [dif_pos hx]
      obtain ⟨c1, c2, c3⟩ := Classical.choose_spec hx
      rw [hinj _ (kH' c1) l (kH' k1) c3]
    have jold : ∀ l, l < K → ¬ (l ∈ H'.keys ∧ l ∉ H.keys) → j (s l) = i' l := by
      intro l hl hno
      have hx : ¬ ∃ l', l' ∈ H'.keys ∧ l' ∉ H.keys ∧ s l' = s l := by
        rintro ⟨l', c1, c2, c3⟩
        have := hinj l' (kH' c1) l hl c3
        subst this
        exact hno ⟨c1, c2⟩
      simp only [j]
      rw [dif_neg hx]
      cases hi : i' l with
      | none =>
        cases h0 : i (s l) with
        | none => rfl
        | some b => rw [h3 l b h0] at hi; cases hi
      | some b =>
        rcases h5 l b hi with h | h
        · exact h
        · exact absurd h hno
    have jall : ∀ l, l < K → j (s l) = i' l := fun l hl => by
      by_cases hx : l ∈ H'.keys ∧ l ∉ H.keys
      · exact jnew l hx.1 hx.2
      · exact jold l hl hx
    have jup : i.le j := by
      intro m b hb
      simp only [j]
      split
      · rename_i hx
        obtain ⟨c1, c2, c3⟩ := Classical.choose_spec hx
        have := hf _ (hnew _ c1 c2).1 (hnew _ c1 c2).2
        rw [c3] at this
        rw [this] at hb; cases hb
      · exact hb
    have jinv : ∀ m b, j m = some b → i m = some b ∨ ∃ l, l ∈ H'.keys ∧ l ∉ H.keys ∧ s l = m ∧ i' l = some b := by
      intro m b hb
      simp only [j] at hb
      split at hb
      · rename_i hx
        obtain ⟨c1, c2, c3⟩ := Classical.choose_spec hx
        exact .inr ⟨_, c1, c2, c3, hb⟩
      · exact .inl hb
    have hblk : ∀ b, blk (fun l => i (s l)) H b → blk i (H.ren s) b := fun b ⟨l, o, hm, hb⟩ => ⟨s l, _, mem_ren hm, hb⟩
    refine ⟨S', j, V.ren (h1.relabel (K := (· < K)) (fun l hl => jall l hl) hr), ⟨h2.cell, h2.size, fun l o hm => ?_, fun l o l' o' b x y hl hl' => ?_, fun l b hl => ?_⟩, jup,
      ⟨h4.up, h4.grow, fun b hb hx => h4.old b hb fun h => hx (hblk b h), fun a v hv => (h4.newSeal a v hv).imp id (Or.imp (hblk _) id), fun m b hb => ?_, fun b ⟨l, o, hm, hb⟩ => ?_, h4.os, h4.out, h4.tape⟩, fun m b hb => ?_⟩
    · obtain ⟨k, p, hm', rfl, rfl⟩ := of_mem_ren hm
      obtain ⟨hk, hp⟩ := hK' k p hm'
      rcases h2.obj k p hm' with ⟨b, hb, hro⟩ | ⟨q1, q2⟩
      · refine .inl ⟨b, (jall k hk).trans hb, ObjRel.ren ?_⟩
        exact hro.relabel (K := (· < K)) (fun l hl => jall l hl) hp
      · exact .inr ⟨(jall k hk).trans q1, AObj.nil0_ren.2 q2⟩
    · obtain ⟨k, p, hm, rfl, rfl⟩ := of_mem_ren x
      obtain ⟨k', p', hm', rfl, rfl⟩ := of_mem_ren y
      rw [jall k (hK' k p hm).1] at hl
      rw [jall k' (hK' k' p' hm').1] at hl'
      rw [h2.inj k p k' p' b hm hm' hl hl']
    · rcases jinv l b hl with h | ⟨k, _, _, _, h⟩
      · exact Nat.lt_of_lt_of_le (hh.dom l b h) h4.grow
      · exact h2.dom k b h
    · rcases jinv m b hb with h | ⟨k, c1, c2, c3, h⟩
      · exact .inl h
      · rcases h4.newEmb k b h with h | h | h
        · rw [c3] at h; exact .inl h
        · exact .inr (.inl (hblk b h))
        · exact .inr (.inr h)
    · obtain ⟨k, p, hm', rfl, rfl⟩ := of_mem_ren hm
      rw [jall k (hK' k p hm').1] at hb
      exact (h4.sub b ⟨k, p, hm', hb⟩).imp (hblk b) id
    · rcases jinv m b hb with h | ⟨k, c1, c2, c3, h⟩
      · exact .inl h
      · rw [← c3]
        exact .inr (hnew k c1 c2)
  · refine ⟨hh.cell, hh.size, fun l o hm => ?_, fun l o l' o' b x y hl hl' => ?_, fun l b hl => hh.dom _ b hl⟩
    · rcases hh.obj _ _ (mem_ren hm) with ⟨b, hb, hro⟩ | ⟨q1, q2⟩
      · exact .inl ⟨b, hb, hro.unren⟩
      · exact .inr ⟨q1, AObj.nil0_ren.1 q2⟩
    · exact hinj l (hK l o x) l' (hK l' o' y) (hh.inj _ _ _ _ b (mem_ren x) (mem_ren y) hl hl')

end
end Go.Proofs.Abs
