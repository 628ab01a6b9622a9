/- Loops in a canonical form; labels are bounded by a check; a block of bytes is frozen. -/
import Derived.Test.YtgimibhacllcpaaAbs21
namespace Go.Proofs.Abs
open Go

mutual
def AV.ltb (k : Nat) : AV → Bool
  | .d _ => true
  | .cp _ _ => true
  | .ptr l _ => Nat.blt l k
  | .sl l _ _ _ _ => Nat.blt l k
  | .ap l _ _ => Nat.blt l k
  | .win _ _ => true
  | .nils => true
  | .agg l => AV.ltbL k l
  | .tup l => AV.ltbL k l
  | .fn _ l => AV.ltbL k l
  | .mp l => Nat.blt l k
  | .lf l => Nat.blt l k
  | .dn _ => true
  | .row l _ _ => Nat.blt l k
  | .any => true
def AV.ltbL (k : Nat) : List AV → Bool
  | [] => true
  | x :: r => bif AV.ltb k x then AV.ltbL k r else false
end
mutual
theorem AV.lt_of {k : Nat} : ∀ {x : AV}, AV.ltb k x = true → x.lt k
  | .d _, _ => .d
  | .cp _ _, _ => .cp
  | .ptr l _, h => .ptr (by rw [AV.ltb] at h; exact Nat.le_of_ble_eq_true h)
  | .sl l _ _ _ _, h => .sl (by rw [AV.ltb] at h; exact Nat.le_of_ble_eq_true h)
  | .ap l _ _, h => .ap (by rw [AV.ltb] at h; exact Nat.le_of_ble_eq_true h)
  | .win _ _, _ => .win
  | .nils, _ => .nils
  | .agg l, h => .agg (AV.ltL_of (by rw [AV.ltb] at h; exact h))
  | .tup l, h => .tup (AV.ltL_of (by rw [AV.ltb] at h; exact h))
  | .fn _ l, h => .fn (AV.ltL_of (by rw [AV.ltb] at h; exact h))
  | .mp l, h => .mp (by rw [AV.ltb] at h; exact Nat.le_of_ble_eq_true h)
  | .lf l, h => .lf (by rw [AV.ltb] at h; exact Nat.le_of_ble_eq_true h)
  | .dn _, _ => .dn
  | .row l _ _, h => .row (by rw [AV.ltb] at h; exact Nat.le_of_ble_eq_true h)
  | .any, _ => .any
theorem AV.ltL_of {k : Nat} : ∀ {l : List AV}, AV.ltbL k l = true → ∀ x ∈ l, AV.lt k x
  | [], _ => fun x hx => by cases hx
  | y :: r, h => fun x hx => by
    rw [AV.ltbL] at h
    cases hb : AV.ltb k y with
    | false => rw [hb] at h; cases h
    | true =>
      rw [hb] at h
      rcases List.mem_cons.1 hx with hx | hx
      · rw [hx]; exact AV.lt_of hb
      · exact AV.ltL_of h x hx
end
def AObj.ltb (k : Nat) : AObj → Bool
  | .cells l => AV.ltbL k l
  | .tok _ => true
  | .rowD _ => true
  | .rowP _ => true
  | .row l => AV.ltbL k l
  | .mp es => es.all fun x => AV.ltb k x.2
  | .lp _ sl _ _ _ _ _ => sl.all fun x => AV.ltb k x.2
theorem AObj.lt_of {k : Nat} {o : AObj} (h : AObj.ltb k o = true) : o.lt k := by
  cases o with
  | cells l => exact AV.ltL_of h
  | tok n => exact trivial
  | rowD ds => exact trivial
  | rowP ds => exact trivial
  | row l => exact AV.ltL_of h
  | mp es => exact fun x hx => AV.lt_of (List.all_eq_true.1 h x hx)
  | lp N sl ps asg bd st pend => exact fun x hx => AV.lt_of (List.all_eq_true.1 h x hx)

/-- labels' renaming, by a list -/
def sub1 : List (Nat × Nat) → Nat → Nat
  | [], l => l
  | (a, b) :: r, l => bif Nat.beq a l then b else sub1 r l

def slotsIn (l : List (Nat × AV)) (s : Nat → Nat) (k : Nat) : List (Nat × AV) → Prop
  | [] => True
  | (t, v) :: r => lk l t = some (v.ren s) ∧ AV.ltb k v = true ∧ slotsIn l s k r
def objsIn (H : AHeap) (s : Nat → Nat) (k : Nat) : AHeap → Prop
  | [] => True
  | (t, o) :: r => lkH H (s t) = some (o.ren s) ∧ Nat.blt t k = true ∧ AObj.ltb k o = true ∧ objsIn H s k r
theorem slotsIn_lk {l : List (Nat × AV)} {s : Nat → Nat} {k : Nat} : ∀ {l' : List (Nat × AV)}, slotsIn l s k l' → ∀ t x, lk l' t = some x → lk l t = some (x.ren s) ∧ x.lt k
  | [], _, t, x, h => by cases h
  | (u, v) :: r, h, t, x, hx => by
    simp only [lk] at hx
    cases hb : Nat.beq u t with
    | true =>
      rw [hb] at hx
      cases hx
      cases Nat.eq_of_beq_eq_true hb
      exact ⟨h.1, AV.lt_of h.2.1⟩
    | false =>
      rw [hb] at hx
      exact slotsIn_lk h.2.2 t x hx
theorem objsIn_mem {H : AHeap} {s : Nat → Nat} {k : Nat} : ∀ {H' : AHeap}, objsIn H s k H' → ∀ l o, (l, o) ∈ H' → (s l, o.ren s) ∈ H ∧ l < k ∧ o.lt k
  | [], _, l, o, h => by cases h
  | (u, v) :: r, h, l, o, hx => by
    rcases List.mem_cons.1 hx with hx | hx
    · cases hx
      exact ⟨lkH_mem h.1, Nat.le_of_ble_eq_true h.2.1, AObj.lt_of h.2.2.1⟩
    · exact objsIn_mem h.2.2.2 l o hx

def allB (p : Nat → Bool) : Nat → Bool
  | 0 => true
  | n + 1 => bif p n then allB p n else false
theorem allB_of {p : Nat → Bool} : ∀ {n : Nat}, allB p n = true → ∀ l, l < n → p l = true
  | 0, _, l, h => by omega
  | n + 1, h, l, hl => by
    rw [allB] at h
    cases hb : p n with
    | false => rw [hb] at h; cases h
    | true =>
      rw [hb] at h
      rcases Nat.lt_or_eq_of_le (Nat.le_of_lt_succ hl) with h' | h'
      · exact allB_of h l h'
      · rw [h']; exact hb
/-- is it a renaming that may be made? -/
def subOK (m k : Nat) (ps : List (Nat × Nat)) (H' : AHeap) : Bool :=
  allB (fun l => Nat.beq (sub1 ps l) l) m && allB (fun l => hasK l H' || Nat.beq (sub1 ps l) l) k &&
  H'.all fun x => H'.all fun y => !Nat.beq (sub1 ps x.1) (sub1 ps y.1) || Nat.beq x.1 y.1

/-- the state is (but for labels) this one, and more -/
structure InC (m N k : Nat) (l' : List (Nat × AV)) (H' : AHeap) (a : AAct) (H : AHeap) : Prop where
  n : a.n = N
  ren : ∃ ps, subOK m k ps H' = true ∧ slotsIn a.l (sub1 ps) k l' ∧ objsIn H (sub1 ps) k H'

section
variable {P : Program} {ro : Option Nat} {a : AAct} {H : AHeap} {n m : Nat} {Q : Exit → AAct → AHeap → Nat → Prop}

theorem AWc.to {c : ACode} {N k : Nat} {l' : List (Nat × AV)} {H' : AHeap} (hm : m ≤ k) (hin : InC m N k l' H' a H) (h : AWc P ro m c ⟨N, l'⟩ H' k Q) : AWc P ro m c a H n Q := by
  obtain ⟨hn, ps, hps, hs, ho⟩ := hin
  simp only [subOK, Bool.and_eq_true] at hps
  obtain ⟨⟨p1, p2⟩, p3⟩ := hps
  refine AWc.rename (sub1 ps) hm (fun l hl => Nat.eq_of_beq_eq_true (allB_of p1 l hl)) (fun l hl => ?_) (fun l l' hl hl' he => ?_) hn.symm (slotsIn_lk hs) (objsIn_mem ho) h
  · have := allB_of p2 l hl
    simp only [Bool.or_eq_true] at this
    exact this.imp hasK_iff.1 Nat.eq_of_beq_eq_true
  · obtain ⟨o, ho⟩ := mem_keys.1 hl
    obtain ⟨o', ho'⟩ := mem_keys.1 hl'
    have := List.all_eq_true.1 (List.all_eq_true.1 p3 _ ho) _ ho'
    simp only [Bool.or_eq_true, Bool.not_eq_true'] at this
    rcases this with h | h
    · rw [he, Nat.beq_refl] at h; cases h
    · exact Nat.eq_of_beq_eq_true h

/-- A LOOP, every round from a canonical state -/
theorem AWc.loopC {α : Type} {c : ACode} {N : Nat} (k : Nat) (L : α → List (Nat × AV)) (Hc : α → AHeap) (I : α → Prop) (μ : α → Nat) (x₀ : α) (hm : m ≤ k) (h₀ : I x₀) (hin : InC m N k (L x₀) (Hc x₀) a H)
    (round : ∀ x, I x → AWc P ro m c ⟨N, L x⟩ (Hc x) k (then' (fun a H _ => ∃ y, I y ∧ InC m N k (L y) (Hc y) a H ∧ μ y < μ x) Q)) : AWc P ro m (.loop c) a H n Q := by
  refine AWc.loop (fun x a H _ => I x ∧ InC m N k (L x) (Hc x) a H) μ x₀ ⟨h₀, hin⟩ fun x a H n hI => ?_
  refine (AWc.to hm hI.2 (round x hI.1)).mono fun ex a H n q => ?_
  cases ex with
  | normal => obtain ⟨y, h1, h2, h3⟩ := q; exact ⟨y, ⟨h1, h2⟩, h3⟩
  | exit j => exact q
  | goto l => exact q
  | ret => exact q
  | panic ch => exact q
  | outgrown => exact q
end

/-- what a block's cells say, as elements -/
theorem ACalls.freeze {P : Program} {f : FuncId} {xs : List AV} {l len cap : Nat} {ds : List D} (h : ACalls P f xs [] (.sl l 0 len cap 1) [(l, .cells (ds.map .d))]) (hs : ∀ d ∈ ds, d.isAgg = false) (hcap : cap = ds.length) (hlen : len ≤ cap) :
    (∀ x ∈ xs, x.lb fun k => k ≠ l) → ACalls P f xs [] (.win ds len) [] := by
  intro hxs
  refine ⟨h.1, fun S i w vs hvs hv hh hf => ?_⟩
  -- the label is made free
  let i0 : Emb := fun k => if k = l then none else i k
  have hi0 : i0.le i := fun k b hk => by
    simp only [i0] at hk
    split at hk
    · cases hk
    · exact hk
  have hc := h.2 S i0 w vs hvs (fun j h1 h2 => (hv j h1 h2).relabel (K := fun k => k ≠ l) (fun k hk => by simp [i0, hk]) (hxs _ (List.getElem_mem h1)))
    ⟨hh.cell, hh.size, fun _ _ hm => (by cases hm), fun _ _ _ _ _ hm => (by cases hm), fun k b hk => hh.dom k b (hi0 k b hk)⟩ (fun k hk _ => by
      simp only [AHeap.keys, List.map_cons, List.map_nil, List.mem_singleton] at hk
      simp [i0, hk])
  refine Calls.mono hc fun e w' ⟨v, he, S', i', h1, h2, h3, h4, h5⟩ => ⟨v, he, ?_⟩
  cases h1 with
  | sl hi =>
    rename_i b
    rcases h2.obj l _ List.mem_cons_self with ⟨b', hb', C, ty, hC, hsz, hval, hns⟩ | ⟨hno, _⟩
    case inr => rw [hi] at hno; cases hno
    rw [hi] at hb'
    cases hb'
    have hnew : w.heap.size ≤ b := by
      rcases h4.sub b ⟨l, _, List.mem_cons_self, hi⟩ with ⟨_, _, hm, _⟩ | h
      · cases hm
      · exact h
    have hszd : C.size = ds.length := by simpa using hsz
    have hup : S'.le (S'.ext b 0 C.size C) := by
      refine ⟨fun a v ha => ?_, fun b n h => h⟩
      simp only [Seal.ext]
      rw [if_neg]
      · exact ha
      · rintro ⟨q1, _⟩
        rw [hns a q1] at ha; cases ha
    have hfl := flat_scalar hs
    have hdv : DV (S'.ext b 0 C.size C) (.sl ds) (.slice (some ⟨b, 0, none⟩) ds.length ds.length) := by
      refine .sl (z := 1) (fun k => C.getD k undef) (fun d hd => ?_) (by rw [hfl]; exact hs) (Nat.le_refl _) (fun m hm => ?_) (fun m hm => ?_)
      · have := hs d hd
        cases d <;> first | rfl | (simp [D.isAgg] at this; done)
      · rw [hfl] at hm
        have hmc : m < C.size := by omega
        simp only [Seal.ext]
        rw [if_pos ⟨trivial, trivial, Nat.zero_le _, by show 0 + m < _; omega⟩]
        simp [hmc]
      · have hm' : m < ds.length := by rw [hfl] at hm; exact hm
        have he : (flat ds)[m] = ds[m] := by simp only [hfl]
        rw [he]
        have hmc : m < C.size := by omega
        have h6 := hval m (by simpa using hm') hmc
        rw [List.getElem_map] at h6
        have := (vD h6).mono hup
        simpa [hmc] using this
    refine ⟨S'.ext b 0 C.size C, i, ?_, ⟨fun a v ha => ?_, h2.size, fun _ _ hm => (by cases hm), fun _ _ _ _ _ hm => (by cases hm), fun k c hk => Nat.lt_of_lt_of_le (hh.dom k c hk) h4.grow⟩, fun _ _ h => h,
      ⟨h4.up.trans hup, h4.grow, fun k hk _ => h4.old k hk (fun ⟨_, _, hm, _⟩ => by cases hm), fun a v ha => ?_, fun _ _ h => .inl h, fun _ ⟨_, _, hm, _⟩ => (by cases hm), h4.os, h4.out, h4.tape⟩, fun _ _ h => .inl h⟩
    · subst hcap
      exact .win hdv hlen
    · simp only [Seal.ext] at ha
      split at ha
      · rename_i hq
        obtain ⟨q1, q2, q3, q4⟩ := hq
        unfold World.cell?
        rw [q1, hC]
        simp [q2, ha]
      · exact h2.cell a v ha
    · simp only [Seal.ext] at ha
      split at ha
      · rename_i hq
        rw [hq.1]
        exact .inr (.inr hnew)
      · rcases h4.newSeal a v ha with h | ⟨_, _, hm, _⟩ | h
        · exact .inl h
        · cases hm
        · exact .inr (.inr h)
end Go.Proofs.Abs
