/- States are brought to a canonical form: labels renamed, less said, what is nil made to be appended to. -/
import Derived.Test.YtgimibhacllcpaaAbs28
namespace Go.Proofs.Abs
open Go

theorem Sub.trans {x y z : AV} (h : Sub x y) (g : Sub y z) : Sub x z := fun S i v hv => g S i v (h S i v hv)
theorem Sub.of_eq {x y : AV} (h : x = y) : Sub x y := h ▸ .refl x
theorem Sub.nil {l z : Nat} : Sub .nils (.ap l z []) := fun _ _ _ h => by cases h; exact .apn
theorem Sub.nilr {l z : Nat} : Sub .nils (.row l z 0) := fun _ _ _ h => by cases h; exact .rown
theorem Sub.tup {xs ys : List AV} (h : SubL xs ys) : Sub (.tup xs) (.tup ys) := fun S i v hv => by
  obtain ⟨h1, h2⟩ := h.get
  cases hv with
  | tup hl hs => exact .tup (h1.symm.trans hl) fun j k1 k2 => h2 j (by omega) k1 _ _ _ (hs j (by omega) k2)
theorem Sub.agg {xs ys : List AV} (h : SubL xs ys) : Sub (.agg xs) (.agg ys) := fun S i v hv => by
  obtain ⟨h1, h2⟩ := h.get
  cases hv with
  | agg hl hs => exact .agg (h1.symm.trans hl) fun j k1 k2 => h2 j (by omega) k1 _ _ _ (hs j (by omega) k2)
/-- a struct of data, its parts one by one -/
theorem Sub.dagg {ds : List D} : Sub (.d (.agg ds)) (.agg (ds.map .d)) := by
  intro S i v hv
  have h := vD hv
  cases h with
  | agg hl hs h =>
    refine .agg (by simpa using hl) fun j k1 k2 => ?_
    rw [List.getElem_map]
    exact .d (h j (by simpa using k1) k2)
theorem toDs_get : ∀ {l : List AV} {ds : List D}, toDs l = some ds → l.length = ds.length ∧ ∀ j (h1 : j < l.length) (h2 : j < ds.length), toD l[j] = some ds[j]
  | [], ds, h => by cases h; exact ⟨rfl, fun j h1 => by simp at h1⟩
  | x :: r, ds, h => by
    simp only [toDs] at h
    split at h <;> cases h
    rename_i a l h1 h2
    obtain ⟨k1, k2⟩ := toDs_get h2
    refine ⟨by simp [k1], fun j g1 g2 => ?_⟩
    cases j with
    | zero => exact h1
    | succ j => exact k2 j (by simpa using g1) (by simpa using g2)
theorem Sub.aggd {xs : List AV} {ds : List D} (h : toDs xs = some ds) : Sub (.agg xs) (.d (.agg ds)) := fun S i v hv => by
  obtain ⟨h1, h2⟩ := toDs_get h
  cases hv with
  | agg hl hs =>
    refine .d (.agg (h1.symm.trans hl) (fun d hd => ?_) fun j k1 k2 => ?_)
    · obtain ⟨j, hj, rfl⟩ := List.getElem_of_mem hd
      exact (toD_ok (h2 j (by omega) hj) (hs j (by omega) (by omega))).2
    · exact (toD_ok (h2 j (by omega) k1) (hs j (by omega) k2)).1

/-- of an object less is said -/
def SubO (p q : AObj) : Prop := (∀ S i w b, ObjRel S i w b p → ObjRel S i w b q) ∧ (p.nil0 → q.nil0)
theorem SubO.refl (p : AObj) : SubO p p := ⟨fun _ _ _ _ h => h, fun h => h⟩
theorem SubO.of_eq {p q : AObj} (h : p = q) : SubO p q := h ▸ .refl p
theorem SubO.cells {xs ys : List AV} (h : SubL xs ys) : SubO (.cells xs) (.cells ys) := by
  obtain ⟨h1, h2⟩ := h.get
  refine ⟨fun S i w b ⟨c, e, hc, hs, hv, hf⟩ => ⟨c, e, hc, hs.trans h1, fun j k1 k2 => h2 j (by omega) k1 _ _ _ (hv j (by omega) k2), hf⟩, fun h => h⟩

def slotsS (l : List (Nat × AV)) (s : Nat → Nat) (k : Nat) : List (Nat × AV) → Prop
  | [] => True
  | (t, v) :: r => (∃ u, lk l t = some u ∧ Sub u (v.ren s)) ∧ AV.ltb k v = true ∧ slotsS l s k r
def objsS (H : AHeap) (s : Nat → Nat) (k : Nat) : AHeap → Prop
  | [] => True
  | (t, o) :: r => (∃ p, lkH H (s t) = some p ∧ SubO p (o.ren s)) ∧ Nat.blt t k = true ∧ AObj.ltb k o = true ∧ objsS H s k r
theorem slotsS_lk {l : List (Nat × AV)} {s : Nat → Nat} {k : Nat} : ∀ {l' : List (Nat × AV)}, slotsS l s k l' → ∀ t x, lk l' t = some x → (∃ u, lk l t = some u ∧ Sub u (x.ren s)) ∧ x.lt k
  | [], _, t, x, h => by cases h
  | (u, v) :: r, h, t, x, hx => by
    simp only [lk] at hx
    cases hb : Nat.beq u t with
    | true =>
      rw [hb] at hx
      cases hx
      cases Nat.eq_of_beq_eq_true hb
      exact ⟨h.1, AV.lt_of h.2.1⟩
    | false =>
      rw [hb] at hx
      exact slotsS_lk h.2.2 t x hx
theorem objsS_mem {H : AHeap} {s : Nat → Nat} {k : Nat} : ∀ {H' : AHeap}, objsS H s k H' → ∀ l o, (l, o) ∈ H' → (∃ p, (s l, p) ∈ H ∧ SubO p (o.ren s)) ∧ l < k ∧ o.lt k
  | [], _, l, o, h => by cases h
  | (u, v) :: r, h, l, o, hx => by
    rcases List.mem_cons.1 hx with hx | hx
    · cases hx
      obtain ⟨⟨p, h1, h2⟩, h3, h4, _⟩ := h
      exact ⟨⟨p, lkH_mem h1, h2⟩, Nat.le_of_ble_eq_true h3, AObj.lt_of h4⟩
    · exact objsS_mem h.2.2.2 l o hx
/-- new labels, of nothing yet -/
def zsH : Nat → List AObj → AHeap
  | _, [] => []
  | n, o :: r => (n, o) :: zsH (n + 1) r
theorem zsH_mem : ∀ {zs : List AObj} {n l : Nat} {o : AObj}, (l, o) ∈ zsH n zs → n ≤ l ∧ o ∈ zs
  | [], _, _, _, h => by cases h
  | x :: r, n, l, o, h => by
    rcases List.mem_cons.1 h with h | h
    · cases h; exact ⟨Nat.le_refl _, List.mem_cons_self⟩
    · obtain ⟨h1, h2⟩ := zsH_mem h
      exact ⟨by omega, List.mem_cons_of_mem _ h2⟩
def nilB : AObj → Bool
  | .tok n => Nat.beq n 0
  | .row [] => true
  | .rowP [] => true
  | _ => false
theorem nilB_ok {o : AObj} (h : nilB o = true) : o.nil0 := by
  unfold nilB at h
  split at h
  · exact Nat.eq_of_beq_eq_true h
  · rfl
  · rfl
  · cases h

/-- the state is this one, and more -/
structure InS (m N k : Nat) (l' : List (Nat × AV)) (H' : AHeap) (a : AAct) (H : AHeap) (n : Nat) : Prop where
  size : a.n = N
  ren : ∃ zs ps, zs.all nilB = true ∧ subOK m k ps H' = true ∧ slotsS a.l (sub1 ps) k l' ∧ objsS (zsH n zs ++ H) (sub1 ps) k H'

section
variable {P : Program} {ro : Option Nat} {a : AAct} {H : AHeap} {n m : Nat} {Q : Exit → AAct → AHeap → Nat → Prop}

theorem AWc.toS {c : ACode} {N k : Nat} {l' : List (Nat × AV)} {H' : AHeap} (hm : m ≤ k) (hin : InS m N k l' H' a H n) (h : AWc P ro m c ⟨N, l'⟩ H' k Q) : AWc P ro m c a H n Q := by
  obtain ⟨hN, zs, ps, hzs, hps, hsl, hob⟩ := hin
  simp only [subOK, Bool.and_eq_true] at hps
  obtain ⟨⟨p1, p2⟩, p3⟩ := hps
  generalize hsdef : sub1 ps = s at *
  have hs : ∀ l, l < m → s l = l := fun l hl => Nat.eq_of_beq_eq_true (allB_of p1 l hl)
  have hs' : ∀ l, l < k → l ∈ H'.keys ∨ s l = l := fun l hl => by
    have := allB_of p2 l hl
    simp only [Bool.or_eq_true] at this
    exact this.imp hasK_iff.1 Nat.eq_of_beq_eq_true
  have hinj : ∀ l l', l ∈ H'.keys → l' ∈ H'.keys → s l = s l' → l = l' := fun l l' hl hl' he => by
    obtain ⟨o, ho⟩ := mem_keys.1 hl
    obtain ⟨o', ho'⟩ := mem_keys.1 hl'
    have := List.all_eq_true.1 (List.all_eq_true.1 p3 _ ho) _ ho'
    simp only [Bool.or_eq_true, Bool.not_eq_true'] at this
    rcases this with h | h
    · rw [he, Nat.beq_refl] at h; cases h
    · exact Nat.eq_of_beq_eq_true h
  intro cc hcc S i w ca hact hh hn
  have hH : ∀ l o, (l, o) ∈ H' → (∃ p, ((s l, p) ∈ H ∨ (n ≤ s l ∧ p.nil0)) ∧ SubO p (o.ren s)) ∧ l < k ∧ o.lt k := fun l o hm => by
    obtain ⟨⟨p, h1, h2⟩, h3⟩ := objsS_mem hob l o hm
    refine ⟨⟨p, ?_, h2⟩, h3⟩
    rcases List.mem_append.1 h1 with h1 | h1
    · obtain ⟨k1, k2⟩ := zsH_mem h1
      exact .inr ⟨k1, nilB_ok (List.all_eq_true.1 hzs _ k2)⟩
    · exact .inl h1
  have hin' : ∀ l o b, (l, o) ∈ H' → i (s l) = some b → ∃ p, (s l, p) ∈ H := fun l o b hm hb => by
    obtain ⟨⟨p, hp | ⟨hp, _⟩, _⟩, _⟩ := hH l o hm
    · exact ⟨p, hp⟩
    · have := hn _ _ hb; omega
  let j : Emb := Emb.cut (fun l => i (s l)) k
  have hj : ∀ l b, j l = some b → l < k ∧ i (s l) = some b := fun l b h => Emb.cut_some h
  have hjl : ∀ l, l < k → j l = i (s l) := fun l h => Emb.cut_of h
  have h1 : ActRel S j ⟨N, l'⟩ ca := ⟨hact.size.trans hN, fun t x hx => by
    obtain ⟨⟨u, hu, hsub⟩, hlt⟩ := slotsS_lk hsl t x hx
    exact ((hsub _ _ _ (hact.get t _ hu)).unren rfl).cut hlt⟩
  have h2 : HeapRel S j H' w := by
    refine ⟨hh.cell, hh.size, fun l o hm => ?_, fun l o l' o' b x y hl hl' => ?_, fun l b hl => hh.dom _ b (hj l b hl).2⟩
    · obtain ⟨⟨p, h0, hsub⟩, hl, ho⟩ := hH l o hm
      rcases h0 with h0 | ⟨h0, hz⟩
      · rcases hh.obj _ _ h0 with ⟨b, hb, hr⟩ | ⟨hn, ho'⟩
        · refine .inl ⟨b, by rw [hjl l hl]; exact hb, ?_⟩
          exact ((hsub.1 _ _ _ _ hr).unren).relabel (K := (· < k)) (fun l hl => Emb.cut_of hl) ho
        · exact .inr ⟨by rw [hjl l hl]; exact hn, AObj.nil0_ren.1 (hsub.2 ho')⟩
      · refine .inr ⟨?_, AObj.nil0_ren.1 (hsub.2 hz)⟩
        rw [hjl l hl]
        cases hi : i (s l) with
        | none => rfl
        | some b => have := hn _ _ hi; omega
    · obtain ⟨k1, e1⟩ := hj l b hl
      obtain ⟨k2, e2⟩ := hj l' b hl'
      obtain ⟨p, hp⟩ := hin' l o b x e1
      obtain ⟨p', hp'⟩ := hin' l' o' b y e2
      exact hinj l l' (mem_keys.2 ⟨o, x⟩) (mem_keys.2 ⟨o', y⟩) (hh.inj _ _ _ _ b hp hp' e1 e2)
  have hblk : ∀ b, blk j H' b → blk i H b := by
    rintro b ⟨l, o, hx, hb⟩
    obtain ⟨p, hp⟩ := hin' l o b hx (hj l b hb).2
    exact ⟨s l, p, hp, (hj l b hb).2⟩
  refine wpIn_mono (h cc hcc S j w ca h1 h2 fun l b hl => (hj l b hl).1) ?_
  rintro ex ca' w' ⟨a'', H'', n'', S'', i'', q, ra, rd, rh, rn, re, rt⟩
  refine ⟨a'', H'', n'', S'', i'', q, ra, rd, rh, rn, fun l hl => ?_, ?_⟩
  · rw [re l hl, hjl l (Nat.lt_of_lt_of_le hl hm), hs l hl]
  · refine ⟨rt.up, rt.grow, fun b hb hx => rt.old b hb fun h => hx (hblk b h), fun a v hv => (rt.newSeal a v hv).imp id (Or.imp (hblk _) id),
      fun l b hb => ?_, fun b hb => (rt.sub b hb).imp (hblk b) id, rt.os, rt.out, rt.tape⟩
    rcases rt.newEmb l b hb with h | h | h
    · obtain ⟨k1, e1⟩ := hj l b h
      rcases hs' l k1 with hk | hk
      · obtain ⟨o, ho⟩ := mem_keys.1 hk
        obtain ⟨p, hp⟩ := hin' l o b ho e1
        exact .inr (.inl ⟨s l, p, hp, e1⟩)
      · rw [hk] at e1; exact .inl e1
    · exact .inr (.inl (hblk b h))
    · exact .inr (.inr h)

/-- A LOOP, every round from a canonical state -/
theorem AWc.loopS {α : Type} {c : ACode} {N : Nat} (k : Nat) (L : α → List (Nat × AV)) (Hc : α → AHeap) (I : α → Prop) (μ : α → Nat) (x₀ : α) (hm : m ≤ k) (h₀ : I x₀) (hin : InS m N k (L x₀) (Hc x₀) a H n)
    (round : ∀ x, I x → AWc P ro m c ⟨N, L x⟩ (Hc x) k (then' (fun a H n => ∃ y, I y ∧ μ y < μ x ∧ InS m N k (L y) (Hc y) a H n) Q)) : AWc P ro m (.loop c) a H n Q := by
  refine AWc.loop (fun x a H n => I x ∧ InS m N k (L x) (Hc x) a H n) μ x₀ ⟨h₀, hin⟩ fun x a H n hI => ?_
  refine (AWc.toS hm hI.2 (round x hI.1)).mono fun ex a H n q => ?_
  cases ex with
  | normal => obtain ⟨y, h1, h2, h3⟩ := q; exact ⟨y, ⟨h1, h3⟩, h2⟩
  | exit j => exact q
  | goto l => exact q
  | ret => exact q
  | panic ch => exact q
  | outgrown => exact q

/-- two statements, a canonical state between them -/
theorem AWc.seqS {α : Type} {x y : ACode} {N : Nat} (k : Nat) (L : α → List (Nat × AV)) (Hc : α → AHeap) (I : α → Prop) (hm : m ≤ k)
    (hx : AWc P ro m x a H n (then' (fun a H n => ∃ y, I y ∧ InS m N k (L y) (Hc y) a H n) Q)) (hy : ∀ z, I z → AWc P ro m y ⟨N, L z⟩ (Hc z) k Q) : AWc P ro m (.seq x y) a H n Q :=
  AWc.seq (hx.mono fun ex a H n q => by
    cases ex with
    | normal => obtain ⟨z, h1, h2⟩ := q; exact AWc.toS hm h2 (hy z h1)
    | exit j => exact q
    | goto l => exact q
    | ret => exact q
    | panic ch => exact q
    | outgrown => exact q)

/-! ### a function, by its body -/
def bodyOK (n K N : Nat) (args : List AV) (H : AHeap) (r : AV) (H' : AHeap) : Bool :=
  AV.ltbL n args && (H.all fun x => Nat.blt x.1 n && AObj.ltb n x.2) && AV.ltb K r && (H'.all fun x => Nat.blt x.1 K && AObj.ltb K x.2 && (Nat.blt x.1 n || !hasK x.1 H)) &&
  allB (fun l => Nat.blt l n || (hasK l H' && !hasK l H)) K && Nat.ble args.length N
theorem acalls_gen {k : FuncId} {F : AFunc} (hF : HasF P k F) {args : List AV} {H H' : AHeap} {r : AV} (n K : Nat) (hchk : bodyOK n K F.n args H r H' = true)
    (hb : AWc P none n F.body ⟨F.n, startL 0 args⟩ H n (DoneS F.res r H')) : ACalls P k args H r H' := by
  simp only [bodyOK, Bool.and_eq_true] at hchk
  obtain ⟨⟨⟨⟨⟨h1, h2⟩, h3⟩, h4⟩, h5⟩, h6⟩ := hchk
  have hK : ∀ l, l < K → l < n ∨ l ∈ H'.keys ∧ l ∉ H.keys := fun l hl => by
    have := allB_of h5 l hl
    simp only [Bool.or_eq_true, Bool.and_eq_true, Bool.not_eq_true'] at this
    refine this.imp Nat.le_of_ble_eq_true fun ⟨k1, k2⟩ => ⟨hasK_iff.1 k1, fun hx => ?_⟩
    rw [hasK_iff.2 hx] at k2; cases k2
  have up : ∀ {x : AV}, x.lt K → x.lb fun l => l < n ∨ l ∈ H'.keys ∧ l ∉ H.keys := by
    intro x hx
    induction hx with
    | d => exact .d
    | cp => exact .cp
    | ptr h => exact .ptr (hK _ h)
    | sl h => exact .sl (hK _ h)
    | ap h => exact .ap (hK _ h)
    | win => exact .win
    | nils => exact .nils
    | agg _ ih => exact .agg ih
    | tup _ ih => exact .tup ih
    | fn _ ih => exact .fn ih
    | mp h => exact .mp (hK _ h)
    | lf h => exact .lf (hK _ h)
    | dn => exact .dn
    | row h => exact .row (hK _ h)
    | any => exact .any
  have upo : ∀ {o : AObj}, o.lt K → o.lb fun l => l < n ∨ l ∈ H'.keys ∧ l ∉ H.keys := by
    intro o ho
    cases o with
    | cells l => exact fun x hx => up (ho x hx)
    | tok n => exact trivial
    | rowD ds => exact trivial
    | rowP ds => exact trivial
    | row l => exact fun x hx => up (ho x hx)
    | mp es => exact fun x hx => up (ho x hx)
    | lp N sl ps asg bd st pend => exact fun x hx => up (ho x hx)
  refine acalls_of_bodyS hF n (AV.ltL_of h1) (fun l o hm => ?_) (up (AV.lt_of h3)) (fun l o hm => ?_) (Nat.le_of_ble_eq_true h6) hb
  · have := List.all_eq_true.1 h2 _ hm
    simp only [Bool.and_eq_true] at this
    exact ⟨Nat.le_of_ble_eq_true this.1, AObj.lt_of this.2⟩
  · have := List.all_eq_true.1 h4 _ hm
    simp only [Bool.and_eq_true, Bool.or_eq_true, Bool.not_eq_true'] at this
    refine ⟨this.2.imp Nat.le_of_ble_eq_true fun h hx => ?_, upo (AObj.lt_of this.1.2)⟩
    rw [hasK_iff.2 hx] at h; cases h

/-- a contract, at other labels -/
def useOK (ps : List (Nat × Nat)) (K : Nat) (H : AHeap) (r : AV) (H' : AHeap) : Bool :=
  allB (fun a => allB (fun b => !Nat.beq (sub1 ps a) (sub1 ps b) || Nat.beq a b) K) K && AV.ltb K r && (H.all fun x => Nat.blt x.1 K) && (H'.all fun x => Nat.blt x.1 K && AObj.ltb K x.2)
theorem ACalls.use {f : FuncId} {xs : List AV} {r : AV} {H H' : AHeap} (h : ACalls P f xs H r H') (ps : List (Nat × Nat)) (K : Nat) (hchk : useOK ps K H r H' = true) :
    ACalls P f (AV.renL (sub1 ps) xs) (H.ren (sub1 ps)) (r.ren (sub1 ps)) (H'.ren (sub1 ps)) := by
  simp only [useOK, Bool.and_eq_true] at hchk
  obtain ⟨⟨⟨h1, h2⟩, h3⟩, h4⟩ := hchk
  rw [renL_eq]
  refine h.rename (sub1 ps) K (fun a ha b hb he => ?_) (AV.lt_of h2) (fun l o hm => Nat.le_of_ble_eq_true (List.all_eq_true.1 h3 _ hm)) (fun l o hm => ?_)
  · have := allB_of (allB_of h1 a ha) b hb
    simp only [Bool.or_eq_true, Bool.not_eq_true'] at this
    rcases this with h | h
    · rw [he, Nat.beq_refl] at h; cases h
    · exact Nat.eq_of_beq_eq_true h
  · have := List.all_eq_true.1 h4 _ hm
    simp only [Bool.and_eq_true] at this
    exact ⟨Nat.le_of_ble_eq_true this.1, AObj.lt_of this.2⟩

theorem doneS {a : AAct} {H : AHeap} {n : Nat} {rs : List ARes} {r : AV} {H' : AHeap} {xs : List AV} {s : Prop} {e : Exit} (he : e = .normal ∨ e = .ret) (h : resAll a.l H rs = some (xs, s)) (hs : s) (hsub : Sub (resV xs) r)
    (hH : ∀ x ∈ H', lkH H x.1 = some x.2) : DoneS rs r H' e a H n := ⟨he, xs, s, h, hs, hsub, fun x hx => lkH_mem (hH x hx)⟩
end
end Go.Proofs.Abs
