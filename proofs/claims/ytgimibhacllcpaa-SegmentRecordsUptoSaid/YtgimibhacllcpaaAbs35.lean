/- The ends of functions and rounds in a canonical form; a row of one's own is frozen; rounds, by checks. -/
import Derived.Test.YtgimibhacllcpaaAbs34
namespace Go.Proofs.Abs
open Go
set_option linter.unusedVariables false

section
variable {P : Program} {ro : Option Nat} {a : AAct} {H : AHeap} {n m : Nat} {Q : Exit → AAct → AHeap → Nat → Prop}

/-- a state is brought to its canonical form -/
theorem InS.emb {N k : Nat} {l' : List (Nat × AV)} {H' : AHeap} (hm : m ≤ k) (hin : InS m N k l' H' a H n) {S : Seal} {i : Emb} {w : World} {ca : Act} (hact : ActRel S i a ca) (hh : HeapRel S i H w) (hn : ∀ l b, i l = some b → l < n) :
    ∃ j : Emb, ActRel S j ⟨N, l'⟩ ca ∧ HeapRel S j H' w ∧ (∀ l b, j l = some b → l < k) ∧ (∀ l, l < m → j l = i l) ∧ (∀ b, blk j H' b → blk i H b) ∧ (∀ l b, j l = some b → i l = some b ∨ blk i H b) := by
  obtain ⟨hN, zs, ps, hzs, hps, hsl, hob⟩ := hin
  simp only [subOK, Bool.and_eq_true] at hps
  obtain ⟨⟨p1, p2⟩, p3⟩ := hps
  generalize hsdef : sub1 ps = s at *
  have hs : ∀ l, l < m → s l = l := fun l hl => Nat.eq_of_beq_eq_true (allB_of p1 l hl)
  have hs' : ∀ l, l < k → l ∈ H'.keys ∨ s l = l := fun l hl => by
    have := allB_of p2 l hl
    simp only [Bool.or_eq_true] at this
    exact this.imp hasK_iff.1 Nat.eq_of_beq_eq_true
  have hinj : ∀ l l', l ∈ H'.keys → l' ∈ H'.keys → s l = s l' → l = l' := fun l l' hl hl' he => by
    obtain ⟨o, ho⟩ := mem_keys.1 hl
    obtain ⟨o', ho'⟩ := mem_keys.1 hl'
    have := List.all_eq_true.1 (List.all_eq_true.1 p3 _ ho) _ ho'
    simp only [Bool.or_eq_true, Bool.not_eq_true'] at this
    rcases this with h | h
    · rw [he, Nat.beq_refl] at h; cases h
    · exact Nat.eq_of_beq_eq_true h
  have hH : ∀ l o, (l, o) ∈ H' → (∃ p, ((s l, p) ∈ H ∨ (n ≤ s l ∧ p.nil0)) ∧ SubO p (o.ren s)) ∧ l < k ∧ o.lt k := fun l o hm => by
    obtain ⟨⟨p, h1, h2⟩, h3⟩ := objsS_mem hob l o hm
    refine ⟨⟨p, ?_, h2⟩, h3⟩
    rcases List.mem_append.1 h1 with h1 | h1
    · obtain ⟨k1, k2⟩ := zsH_mem h1
      exact .inr ⟨k1, nilB_ok (List.all_eq_true.1 hzs _ k2)⟩
    · exact .inl h1
  have hin' : ∀ l o b, (l, o) ∈ H' → i (s l) = some b → ∃ p, (s l, p) ∈ H := fun l o b hm hb => by
    obtain ⟨⟨p, hp | ⟨hp, _⟩, _⟩, _⟩ := hH l o hm
    · exact ⟨p, hp⟩
    · have := hn _ _ hb; omega
  let j : Emb := Emb.cut (fun l => i (s l)) k
  have hj : ∀ l b, j l = some b → l < k ∧ i (s l) = some b := fun l b h => Emb.cut_some h
  have hjl : ∀ l, l < k → j l = i (s l) := fun l h => Emb.cut_of h
  have hblk : ∀ b, blk j H' b → blk i H b := by
    rintro b ⟨l, o, hx, hb⟩
    obtain ⟨p, hp⟩ := hin' l o b hx (hj l b hb).2
    exact ⟨s l, p, hp, (hj l b hb).2⟩
  refine ⟨j, ⟨hact.size.trans hN, fun t x hx => ?_⟩, ⟨hh.cell, hh.size, fun l o hm => ?_, fun l o l' o' b x y hl hl' => ?_, fun l b hl => hh.dom _ b (hj l b hl).2⟩, fun l b hl => (hj l b hl).1, fun l hl => ?_, hblk, fun l b hl => ?_⟩
  · obtain ⟨⟨u, hu, hsub⟩, hlt⟩ := slotsS_lk hsl t x hx
    exact ((hsub _ _ _ (hact.get t _ hu)).unren rfl).cut hlt
  · obtain ⟨⟨p, h0, hsub⟩, hl, ho⟩ := hH l o hm
    rcases h0 with h0 | ⟨h0, hz⟩
    · rcases hh.obj _ _ h0 with ⟨b, hb, hr⟩ | ⟨hn, ho'⟩
      · refine .inl ⟨b, by rw [hjl l hl]; exact hb, ?_⟩
        exact ((hsub.1 _ _ _ _ hr).unren).relabel (K := (· < k)) (fun l hl => Emb.cut_of hl) ho
      · exact .inr ⟨by rw [hjl l hl]; exact hn, AObj.nil0_ren.1 (hsub.2 ho')⟩
    · refine .inr ⟨?_, AObj.nil0_ren.1 (hsub.2 hz)⟩
      rw [hjl l hl]
      cases hi : i (s l) with
      | none => rfl
      | some b => have := hn _ _ hi; omega
  · obtain ⟨k1, e1⟩ := hj l b hl
    obtain ⟨k2, e2⟩ := hj l' b hl'
    obtain ⟨p, hp⟩ := hin' l o b x e1
    obtain ⟨p', hp'⟩ := hin' l' o' b y e2
    exact hinj l l' (mem_keys.2 ⟨o, x⟩) (mem_keys.2 ⟨o', y⟩) (hh.inj _ _ _ _ b hp hp' e1 e2)
  · rw [hjl l (Nat.lt_of_lt_of_le hl hm), hs l hl]
  · obtain ⟨k1, e1⟩ := hj l b hl
    rcases hs' l k1 with hk | hk
    · obtain ⟨o, ho⟩ := mem_keys.1 hk
      obtain ⟨p, hp⟩ := hin' l o b ho e1
      exact .inr ⟨s l, p, hp, e1⟩
    · rw [hk] at e1; exact .inl e1

/-- .. at an end -/
def CanQ (m : Nat) (Q : Exit → AAct → AHeap → Nat → Prop) : Exit → AAct → AHeap → Nat → Prop := fun ex a H n => ∃ N l' H' k, m ≤ k ∧ InS m N k l' H' a H n ∧ Q ex ⟨N, l'⟩ H' k
theorem AWc.canon {c : ACode} (h : AWc P ro m c a H n (CanQ m Q)) : AWc P ro m c a H n Q := by
  intro cc hcc S i w ca hact hh hn
  refine wpIn_mono (h cc hcc S i w ca hact hh hn) ?_
  rintro ex ca' w' ⟨a', H1, n1, S1, i1, ⟨N, l', H', k, hmk, hin, hq⟩, ra, rd, rh, rn, re, rt⟩
  obtain ⟨j, j1, j2, j3, j4, j5, j6⟩ := hin.emb hmk ra rh rn
  refine ⟨_, H', k, S1, j, hq, j1, rd, j2, j3, fun l hl => (j4 l hl).trans (re l hl), ⟨rt.up, rt.grow, rt.old, rt.newSeal, fun l b hb => ?_, fun b hb => rt.sub b (j5 b hb), rt.os, rt.out, rt.tape⟩⟩
  rcases j6 l b hb with h | h
  · exact rt.newEmb l b h
  · exact (rt.sub b h).imp id id |> fun h => h.elim (fun h => .inr (.inl h)) fun h => .inr (.inr h)

/-! ### a function, a round, by checks -/
theorem acalls_canon {k : FuncId} {F : AFunc} (hF : HasF P k F) {args : List AV} {H H' : AHeap} {r : AV} (n K : Nat) (hchk : bodyOK n K F.n args H r H' = true)
    (hb : AWc P none n F.body ⟨F.n, startL 0 args⟩ H n (CanQ n (DoneS F.res r H'))) : ACalls P k args H r H' := acalls_gen hF n K hchk (AWc.canon hb)

def roundOK (n K N : Nat) (ps : List Nat) (args : List AV) (H : AHeap) (r : AV) (H' : AHeap) : Bool :=
  AV.ltbL n args && (H.all fun x => Nat.blt x.1 n && AObj.ltb n x.2) && AV.ltb K r && (H'.all fun x => Nat.blt x.1 K && AObj.ltb K x.2 && (Nat.blt x.1 n || !hasK x.1 H)) &&
  allB (fun l => Nat.blt l n || (hasK l H' && !hasK l H)) K && Nat.beq ps.length args.length && ps.all fun p => Nat.blt p N
/-- behind the assignments to the loop's left sides -/
def AsgQ (P : Program) (ro : Option Nat) (m lbl N : Nat) (sl : List (Nat × AV)) (ps : List Nat) (asg bd : Code) (pend : Option Code) (B : ACode) (Q : Exit → AAct → AHeap → Nat → Prop) : Exit → AAct → AHeap → Nat → Prop := fun ex a H1 n1 =>
  ex = .normal ∧ lkH H1 lbl = some (.lp N sl ps asg bd .ready pend) ∧ AWc P ro m B a (setH lbl (.lp N sl ps asg bd .busy pend) H1) n1 Q
theorem asgDone {lbl N : Nat} {sl : List (Nat × AV)} {ps : List Nat} {asg bd : Code} {pend : Option Code} {B : ACode} {a : AAct} {H1 H2 : AHeap} {n1 : Nat} (hl : lkH H1 lbl = some (.lp N sl ps asg bd .ready pend))
    (hH : setH lbl (.lp N sl ps asg bd .busy pend) H1 = H2) (h : AWc P ro m B a H2 n1 Q) : AsgQ P ro m lbl N sl ps asg bd pend B Q .normal a H1 n1 := ⟨rfl, hl, hH ▸ h⟩
theorem around_gen {lbl N : Nat} {sl : List (Nat × AV)} {ps : List Nat} {asg bd : Code} {A B : ACode} {pend : Option Code} {args : List AV} {H H' : AHeap} {r : AV} (n K : Nat) (ha : compCode P asg = A) (hb : compCode P bd = B)
    (hlp : lkH H lbl = some (.lp N sl ps asg bd .ready pend)) (hchk : roundOK n K N ps args H r H' = true)
    (h : ∀ ro, AWc P ro n A ⟨N, putArgs ps args sl⟩ H n (AsgQ P ro n lbl N sl ps asg bd pend B (CanQ n (RoundS lbl r H')))) : ARound P lbl args H r H' := by
  simp only [roundOK, Bool.and_eq_true] at hchk
  obtain ⟨⟨⟨⟨⟨⟨h1, h2⟩, h3⟩, h4⟩, h5⟩, h6⟩, h7⟩ := hchk
  have hK : ∀ l, l < K → l < n ∨ l ∈ H'.keys ∧ l ∉ H.keys := fun l hl => by
    have := allB_of h5 l hl
    simp only [Bool.or_eq_true, Bool.and_eq_true, Bool.not_eq_true'] at this
    refine this.imp Nat.le_of_ble_eq_true fun ⟨k1, k2⟩ => ⟨hasK_iff.1 k1, fun hx => ?_⟩
    rw [hasK_iff.2 hx] at k2; cases k2
  have up : ∀ {x : AV}, x.lt K → x.lb fun l => l < n ∨ l ∈ H'.keys ∧ l ∉ H.keys := by
    intro x hx
    induction hx with
    | d => exact .d
    | cp => exact .cp
    | ptr h => exact .ptr (hK _ h)
    | sl h => exact .sl (hK _ h)
    | ap h => exact .ap (hK _ h)
    | win => exact .win
    | nils => exact .nils
    | agg _ ih => exact .agg ih
    | tup _ ih => exact .tup ih
    | fn _ ih => exact .fn ih
    | mp h => exact .mp (hK _ h)
    | lf h => exact .lf (hK _ h)
    | dn => exact .dn
    | row h => exact .row (hK _ h)
    | any => exact .any
  have upo : ∀ {o : AObj}, o.lt K → o.lb fun l => l < n ∨ l ∈ H'.keys ∧ l ∉ H.keys := by
    intro o ho
    cases o with
    | cells l => exact fun x hx => up (ho x hx)
    | tok n => exact trivial
    | rowD ds => exact trivial
    | rowP ds => exact trivial
    | row l => exact fun x hx => up (ho x hx)
    | mp es => exact fun x hx => up (ho x hx)
    | lp N sl ps asg bd st pend => exact fun x hx => up (ho x hx)
  refine around_of_body n (lkH_mem hlp) (AV.ltL_of h1) (fun l o hm => ?_) (up (AV.lt_of h3)) (fun l o hm => ?_) (Nat.eq_of_beq_eq_true h6) (fun p hp => Nat.le_of_ble_eq_true (List.all_eq_true.1 h7 p hp)) fun ro => ?_
  · have := List.all_eq_true.1 h2 _ hm
    simp only [Bool.and_eq_true] at this
    exact ⟨Nat.le_of_ble_eq_true this.1, AObj.lt_of this.2⟩
  · have := List.all_eq_true.1 h4 _ hm
    simp only [Bool.and_eq_true, Bool.or_eq_true, Bool.not_eq_true'] at this
    refine ⟨this.2.imp Nat.le_of_ble_eq_true fun h hx => ?_, upo (AObj.lt_of this.1.2)⟩
    rw [hasK_iff.2 hx] at h; cases h
  · refine (h ro asg ha).mono fun ex a H1 n1 ⟨q1, q2, q3⟩ => ⟨q1, q2, ?_⟩
    exact AWc.canon q3 bd hb
theorem roundD {lbl : Nat} {r : AV} {H' : AHeap} {ex : Exit} {a : AAct} {H H3 : AHeap} {n : Nat} {jump : Option Code} {N : Nat} {sl : List (Nat × AV)} {ps : List Nat} {asg bd : Code} {st : LoopState} {pend : Option Code} (hj : jumpOf ex = some jump)
    (hl : lkH H lbl = some (.lp N sl ps asg bd st pend)) (hr : r = .d (.bool jump.isNone)) (hs : setH lbl (.lp N sl ps asg bd (bif jump.isNone then .ready else .done) jump) H = H3) (hH : HasAll H3 H') : RoundS lbl r H' ex a H n :=
  ⟨jump, N, sl, ps, asg, bd, st, pend, hj, hl, hr, fun x hx => by rw [hs]; exact lkH_mem (hH.get x hx)⟩
theorem canQ {N k : Nat} {l' : List (Nat × AV)} {H' : AHeap} {ex : Exit} (hm : Nat.ble m k = true) (hin : InS m N k l' H' a H n) (h : Q ex ⟨N, l'⟩ H' k) : CanQ m Q ex a H n := ⟨N, l', H', k, Nat.le_of_ble_eq_true hm, hin, h⟩

/-- a call of yield, in a region -/
theorem RegV.yield {aops os : List AOper} {draw : Bool} {N k c : Nat} {l : List (Nat × AV)} {H : AHeap} {A : List Tk} {Q : AAct → AHeap → Nat → Prop} {g : Option (Nat × Bool)} {af : List Nat} {t : Nat}
    {gg : Arg} {as : List Arg} {lbl : Nat} {vs ys : List AV} {r : AV} {hin hout H' : AHeap} {c' : Nat} (hcall : ARound P lbl ys hin r hout)
    (hg : gOn g (us l ⟨some t, .call gg as, g, af⟩) = some true) (hf : evA (us l ⟨some t, .call gg as, g, af⟩) gg = some (.lf lbl)) (has : allAV (evA (us l ⟨some t, .call gg as, g, af⟩)) as = some vs) (hsub : SubL vs ys)
    (hd : Nat.blt t N = true) (hin' : HasAll H hin) (hn : newOK c hin hout = true) (hF : nodupH hout = true) (hH : appK hout (restK hin hout H) = H') (hc : topK c hout = c')
    (hn' : RegV P aops draw N (k + 1) os c' ((t, r) :: l) H' (⟨hin.keys ++ hout.keys, false⟩ :: A) Q) : RegV P aops draw N k (⟨some t, .call gg as, g, af⟩ :: os) c l H A Q :=
  RegV.up (fun _ h' => RegU.op hg (AOpT.yield hf has (hcall.args hsub.get.1 hsub.get.2)) hd (fun x hx => lkH_mem (hin'.get x hx)) hn hF (fun h => by cases h) rfl hH hc h') hn'
end
end Go.Proofs.Abs
