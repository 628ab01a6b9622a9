/- Triples of operations, calls and code over abstract heaps; the rules of control. -/
import Derived.Test.YtgimibhacllcpaaAbs1
import Derived.WalkKit
namespace Go.Proofs.Abs
open Go

def fen (ro : Option Nat) : Fence := { fn := fun _ => True, depth := none, alive := false, round := ro }
theorem fen_none : fen none = Fence.wide := rfl

/-- what an operation comes to -/
def Ends (P : Program) (K : Value → World → Prop) : Result Next → Prop
  | .ok (.value v) w => K v w
  | .ok .skip w => K undef w
  | .ok (.enter f args) w => Calls P f args w fun e w' => ∃ v, e = .returned v ∧ K v w'
  | .ok (.round l f tmps assign body) w => RoundIn Fence.wide 0 P l f tmps assign body w fun e w' => ∃ v, e = .returned v ∧ K v w'
  | _ => False

theorem uponIn_of_ends {P : Program} {ro : Option Nat} {o : Oper} {a : Act} {next : Act → World → Prop} {Q : Exit → Act → World → Prop} {K : Value → World → Prop} {r : Result Next}
    (h : Ends P K r) (hk : ∀ v w', K v w' → next (a.put o.dst v) w') : o.uponIn (fen ro) 0 P a next Q r := by
  unfold Ends at h
  split at h
  · exact hk _ _ h
  · exact hk _ _ h
  · refine ⟨fun h => by simp [fen] at h, ?_⟩
    have h' := (callsIn_wide (n := 0)).2 h
    exact CallsIn.mono h' fun e w' ⟨v, he, hv⟩ => by subst he; exact hk _ _ hv
  · refine ⟨fun h => by simp [fen] at h, ?_⟩
    exact RoundIn.mono h fun e w' ⟨v, he, hv⟩ => by subst he; exact hk _ _ hv
  · exact h.elim

theorem Ends.mono {P : Program} {K K' : Value → World → Prop} {r : Result Next} (h : Ends P K r) (hk : ∀ v w, K v w → K' v w) : Ends P K' r := by
  unfold Ends at *
  split at h
  · exact hk _ _ h
  · exact hk _ _ h
  · exact Calls.mono h fun e w' ⟨v, he, hv⟩ => ⟨v, he, hk _ _ hv⟩
  · exact RoundIn.mono h fun e w' ⟨v, he, hv⟩ => ⟨v, he, hk _ _ hv⟩
  · exact h.elim

/-- a list of slots and what lies in them, the newest first -/
def lk : List (Nat × AV) → Nat → Option AV
  | [], _ => none
  | (k, v) :: r, t => bif Nat.beq k t then some v else lk r t

/-- constants -/
def constD : Value → Option D
  | .int k n => some (.int k n)
  | .bool b => some (.bool b)
  | .string s => some (.str s.data.toList)
  | .pointer none => some .nilp
  | .slice none 0 0 => some (.sl [])
  | .nilFunc => some .nilf
  | .nilIface => some .nili
  | .map none => some .nilm
  | _ => none
def constDs : List Value → Option (List D)
  | [] => some []
  | v :: r => match constD v, constDs r with
    | some d, some l => some (d :: l)
    | _, _ => none
def constAV : Value → Option AV
  | .slice none 0 0 => some .nils
  | .agg vs => match constDs vs.toList with
    | some l => some (.d (.agg l))
    | none => none
  | v => match constD v with
    | some d => some (.d d)
    | none => none

theorem constD_ok {S : Seal} {v : Value} {x : D} (h : constD v = some x) : DV S x v ∧ x.isAgg = false := by
  unfold constD at h
  split at h <;> cases h
  · exact ⟨.int, rfl⟩
  · exact ⟨.bool, rfl⟩
  · rename_i s
    refine ⟨?_, rfl⟩
    have : (⟨s.data.toList.toArray⟩ : ByteArray) = s := by cases s; simp
    conv => arg 3; rw [← this]
    exact .str
  · exact ⟨.nilp, rfl⟩
  · exact ⟨.nilsl, rfl⟩
  · exact ⟨.nilf, rfl⟩
  · exact ⟨.nili, rfl⟩
  · exact ⟨.nilm, rfl⟩

theorem constDs_ok {S : Seal} : ∀ {vs : List Value} {l : List D}, constDs vs = some l →
    l.length = vs.length ∧ (∀ d ∈ l, d.isAgg = false) ∧ ∀ i (h1 : i < l.length) (h2 : i < vs.length), DV S l[i] vs[i]
  | [], l, h => by cases h; simp
  | v :: r, l, h => by
    simp only [constDs] at h
    split at h
    · rename_i d l' hd hl
      cases h
      obtain ⟨a, b, c⟩ := constDs_ok (S := S) hl
      obtain ⟨x, y⟩ := constD_ok (S := S) hd
      refine ⟨by simp [a], by simpa using ⟨y, b⟩, fun i h1 h2 => ?_⟩
      cases i with
      | zero => exact x
      | succ i => exact c i (by simpa using h1) (by simpa using h2)
    · cases h

theorem constAV_ok {S : Seal} {i : Emb} {v : Value} {x : AV} (h : constAV v = some x) : V S i x v := by
  unfold constAV at h
  split at h
  · cases h; exact .nils
  · rename_i vs
    split at h
    · rename_i l hl
      cases h
      obtain ⟨a, b, c⟩ := constDs_ok (S := S) hl
      have := DV.agg a b c
      simp only [Array.toArray_toList] at this
      exact .d this
    · cases h
  · split at h
    · rename_i hd
      cases h
      exact .d (constD_ok hd).1
    · cases h

def evL (l : List (Nat × AV)) : Operand → Option AV
  | .tmp t => lk l t
  | .const v => constAV v
  | .func f => some (.d (.fn f))
  | .global _ => none

/-- what has come of it -/
def Post (S : Seal) (i : Emb) (H : AHeap) (w : World) (r : AV) (H' : AHeap) (v : Value) (w' : World) : Prop :=
  ∃ S' i', V S' i' r v ∧ HeapRel S' i' H' w' ∧ i.le i' ∧ Tr S i H w S' i' H' w' ∧ ∀ l b, i' l = some b → i l = some b ∨ (l ∈ H'.keys ∧ l ∉ H.keys)

/-- a triple of one operation -/
def OpT (P : Program) (ev : Operand → Option AV) (o : Oper) (H : AHeap) (r : AV) (H' : AHeap) : Prop :=
  (∀ c, o.op ≠ .defer c) ∧ ∀ S i w ρ, (∀ x a, ev x = some a → V S i a (ρ x)) → HeapRel S i H w → (∀ l ∈ H'.keys, l ∉ H.keys → i l = none) →
    Ends P (Post S i H w r H') ((execOp ρ o).run P w)

/-- a triple of a call -/
def ACalls (P : Program) (f : FuncId) (args : List AV) (H : AHeap) (r : AV) (H' : AHeap) : Prop :=
  (∃ fn, P.funcs[f]? = some fn ∧ (fn.name == "runtime.NumGoroutine") = false ∧ fn.body.isSome = true) ∧ ∀ S i w (vs : List Value), args.length = vs.length → (∀ j (h1 : j < args.length) (h2 : j < vs.length), V S i args[j] vs[j]) → HeapRel S i H w →
    (∀ l ∈ H'.keys, l ∉ H.keys → i l = none) →
    Calls P f vs.toArray w fun e w' => ∃ v, e = .returned v ∧ Post S i H w r H' v w'

structure AAct where
  n : Nat
  l : List (Nat × AV)
def AAct.get (a : AAct) (t : Nat) : Option AV := lk a.l t
def AAct.put (a : AAct) (dst : Option Nat) (x : AV) : AAct :=
  match dst with
  | some t => { a with l := (t, x) :: a.l }
  | none => a

structure ActRel (S : Seal) (i : Emb) (a : AAct) (c : Act) : Prop where
  size : c.tmps.size = a.n
  get : ∀ t x, lk a.l t = some x → V S i x (c.tmps.getD t undef)

theorem ActRel.mono {S T : Seal} {i j : Emb} {a : AAct} {c : Act} (h : ActRel S i a c) (hl : S.le T) (hi : i.le j) : ActRel T j a c :=
  ⟨h.size, fun t x hx => (h.get t x hx).mono hl hi⟩

theorem ActRel.put {S : Seal} {i : Emb} {a : AAct} {c : Act} (h : ActRel S i a c) {dst : Option Nat} {x : AV} {v : Value} (hv : V S i x v)
    (hd : ∀ t, dst = some t → t < a.n) : ActRel S i (a.put dst x) (c.put dst v) := by
  cases dst with
  | none => exact h
  | some t =>
    refine ⟨by simpa [Act.put, AAct.put] using h.size, fun u y hy => ?_⟩
    simp only [AAct.put, lk] at hy
    have hlt := hd t rfl
    by_cases hut : t = u
    · subst hut
      simp at hy
      subst hy
      have : t < c.tmps.size := by rw [h.size]; exact hlt
      simpa [Act.put, this] using hv
    · have : Nat.beq t u = false := by
        cases hb : Nat.beq t u with
        | false => rfl
        | true => exact absurd (Nat.eq_of_beq_eq_true hb) hut
      simp only [this, cond_false] at hy
      have := h.get u y hy
      simpa [Act.put, Array.getElem?_setIfInBounds_ne hut] using this

theorem ActRel.eval {S : Seal} {i : Emb} {a : AAct} {c : Act} (h : ActRel S i a c) {o : Operand} {x : AV} (hx : evL a.l o = some x) : V S i x (c.eval o) := by
  cases o with
  | tmp t => exact h.get t x hx
  | const v => exact constAV_ok hx
  | func f => cases hx; exact .d .fn
  | global g => cases hx

/-- the marks that a range over a function leaves among the deferred calls -/
def markOf (D : Nat) : Deferred := { target := .collected D, args := #[] }
def Marks (w w' : World) (d d' : List Deferred) : Prop := ∃ bs : List Nat, bs.Nodup ∧ d' = bs.map markOf ++ d ∧ ∀ D ∈ bs, w.heap.size ≤ D ∧ w'.heap[D]? = some (.deferred (some []))
theorem Marks.of_eq {w w' : World} {d d' : List Deferred} (h : d' = d) : Marks w w' d d' := ⟨[], .nil, by simpa using h, fun D hD => by cases hD⟩
theorem Marks.refl (w w' : World) (d : List Deferred) : Marks w w' d d := .of_eq rfl
theorem Marks.trans {S S' S'' : Seal} {i i' i'' : Emb} {H H' H'' : AHeap} {w w' w'' : World} {d d' d'' : List Deferred} (h : Marks w w' d d') (hh : HeapRel S' i' H' w') (t : Tr S i H w S' i' H' w')
    (t' : Tr S' i' H' w' S'' i'' H'' w'') (g : Marks w' w'' d' d'') : Marks w w'' d d'' := by
  obtain ⟨bs, nb, rfl, hb⟩ := h
  obtain ⟨cs, nc, rfl, hc⟩ := g
  refine ⟨cs ++ bs, List.nodup_append.2 ⟨nc, nb, ?_⟩, by simp, fun D hD => ?_⟩
  · rintro x hx y hy rfl
    have h1 := (hc x hx).1
    have h2 : x < w'.heap.size := (Array.getElem?_eq_some_iff.1 (hb x hy).2).1
    omega
  rcases List.mem_append.1 hD with hD | hD
  · exact ⟨Nat.le_trans t.grow (hc D hD).1, (hc D hD).2⟩
  · obtain ⟨h1, h2⟩ := hb D hD
    have hlt : D < w'.heap.size := (Array.getElem?_eq_some_iff.1 h2).1
    refine ⟨h1, (t'.old D hlt ?_).trans h2⟩
    rintro ⟨l, o, hm, hi⟩
    rcases hh.obj l o hm with ⟨b, hb', hr⟩ | ⟨hn, _⟩
    · rw [hi] at hb'; cases hb'
      exact hr.notDef _ h2
    · rw [hi] at hn; cases hn

/-- code: from a, H on; q is told how it ends. n: labels from n on are free; m: those below m are never given up -/
def AW (P : Program) (ro : Option Nat) (m : Nat) (c : Code) (a : AAct) (H : AHeap) (n : Nat) (Q : Exit → AAct → AHeap → Nat → Prop) : Prop :=
  ∀ S i w (ca : Act), ActRel S i a ca → HeapRel S i H w → (∀ l b, i l = some b → l < n) →
    c.wpIn (fen ro) 0 P (fun ex ca' w' => ∃ a' H' n' S' i', Q ex a' H' n' ∧ ActRel S' i' a' ca' ∧ Marks w w' ca.defers ca'.defers ∧ HeapRel S' i' H' w' ∧ (∀ l b, i' l = some b → l < n') ∧
      (∀ l, l < m → i' l = i l) ∧ Tr S i H w S' i' H' w') ca w

section
variable {P : Program} {ro : Option Nat} {a : AAct} {H : AHeap} {n m : Nat} {Q Q' : Exit → AAct → AHeap → Nat → Prop}

theorem AW.mono {c : Code} (h : AW P ro m c a H n Q) (hq : ∀ ex a H n, Q ex a H n → Q' ex a H n) : AW P ro m c a H n Q' :=
  fun S i w ca ha hh hn => wpIn_mono (h S i w ca ha hh hn) fun _ _ _ ⟨a', H', n', S', i', q, r⟩ => ⟨a', H', n', S', i', hq _ _ _ _ q, r⟩

theorem AW.skip (h : Q .normal a H n) : AW P ro m .skip a H n Q :=
  fun S i w _ ha hh hn => wpIn_skip ⟨a, H, n, S, i, h, ha, .refl _ _ _, hh, hn, fun _ _ => rfl, .refl S i H w⟩
theorem AW.label {l : Nat} (h : Q .normal a H n) : AW P ro m (.label l) a H n Q :=
  fun S i w _ ha hh hn => wpIn_label ⟨a, H, n, S, i, h, ha, .refl _ _ _, hh, hn, fun _ _ => rfl, .refl S i H w⟩
theorem AW.exit {id : Nat} (h : Q (.exit id) a H n) : AW P ro m (.exit id) a H n Q :=
  fun S i w _ ha hh hn => wpIn_exit ⟨a, H, n, S, i, h, ha, .refl _ _ _, hh, hn, fun _ _ => rfl, .refl S i H w⟩
theorem AW.ret (h : Q .ret a H n) : AW P ro m .ret a H n Q :=
  fun S i w _ ha hh hn => wpIn_ret ⟨a, H, n, S, i, h, ha, .refl _ _ _, hh, hn, fun _ _ => rfl, .refl S i H w⟩

abbrev then' (K : AAct → AHeap → Nat → Prop) (Q : Exit → AAct → AHeap → Nat → Prop) : Exit → AAct → AHeap → Nat → Prop
  | .normal => K
  | e => Q e
abbrev inBlk (id : Nat) (Q : Exit → AAct → AHeap → Nat → Prop) : Exit → AAct → AHeap → Nat → Prop
  | .exit j => if j = id then Q .normal else Q (.exit j)
  | e => Q e

theorem AW.seq {x y : Code} (h : AW P ro m x a H n (then' (fun a H n => AW P ro m y a H n Q) Q)) : AW P ro m (.seq x y) a H n Q := by
  intro S i w ca ha hh hn
  refine wpIn_seq (wpIn_mono (h S i w ca ha hh hn) ?_)
  rintro ex ca' w' ⟨a', H', n', S', i', q, ra, rd, rh, rn, re, rt⟩
  cases ex with
  | normal =>
    refine wpIn_mono (q S' i' w' ca' ra rh rn) ?_
    rintro ex ca'' w'' ⟨a'', H'', n'', S'', i'', q, ra', rd', rh', rn', re', rt'⟩
    exact ⟨a'', H'', n'', S'', i'', q, ra', rd.trans rh rt rt' rd', rh', rn', fun l hl => (re' l hl).trans (re l hl), rt.trans rt'⟩
  | exit id => exact ⟨a', H', n', S', i', q, ra, rd, rh, rn, re, rt⟩
  | goto l => exact ⟨a', H', n', S', i', q, ra, rd, rh, rn, re, rt⟩
  | ret => exact ⟨a', H', n', S', i', q, ra, rd, rh, rn, re, rt⟩
  | panic ch => exact ⟨a', H', n', S', i', q, ra, rd, rh, rn, re, rt⟩
  | outgrown => exact ⟨a', H', n', S', i', q, ra, rd, rh, rn, re, rt⟩

theorem AW.cond {c : Operand} {x y : Code} {b : Bool} (hc : evL a.l c = some (.d (.bool b))) (ht : b = true → AW P ro m x a H n Q) (hf : b = false → AW P ro m y a H n Q) :
    AW P ro m (.cond c x y) a H n Q := by
  intro S i w ca ha hh hn
  have hv := ha.eval hc
  have hb : ca.eval c = .bool b := by
    generalize ca.eval c = u at hv
    cases hv with
    | d h => cases h; rfl
  exact wpIn_cond_split hb (fun e => ht e S i w ca ha hh hn) (fun e => hf e S i w ca ha hh hn)

theorem AW.block {id : Nat} {c : Code} (h : AW P ro m c a H n (inBlk id Q)) : AW P ro m (.block id c) a H n Q := by
  intro S i w ca ha hh hn
  refine wpIn_block (wpIn_mono (h S i w ca ha hh hn) ?_)
  rintro ex ca' w' ⟨a', H', n', S', i', q, r⟩
  cases ex with
  | exit j =>
    simp only [inBlk] at q
    simp only [Exit.inBlock]
    split at q
    · rename_i hj; simp only [hj, if_true]; exact ⟨a', H', n', S', i', q, r⟩
    · rename_i hj; simp only [hj, if_false]; exact ⟨a', H', n', S', i', q, r⟩
  | normal => exact ⟨a', H', n', S', i', q, r⟩
  | goto l => exact ⟨a', H', n', S', i', q, r⟩
  | ret => exact ⟨a', H', n', S', i', q, r⟩
  | panic ch => exact ⟨a', H', n', S', i', q, r⟩
  | outgrown => exact ⟨a', H', n', S', i', q, r⟩

/-- less is known: slots and objects are dropped, labels from k on are free again -/
theorem AW.weaken {c : Code} {a' : AAct} {H' : AHeap} {k : Nat} (hm : m ≤ k) (hn' : a'.n = a.n) (ha : ∀ t x, lk a'.l t = some x → lk a.l t = some x)
    (hH : ∀ x, x ∈ H' → x ∈ H) (hal : ∀ t x, lk a'.l t = some x → x.lt k) (hHl : ∀ l o, (l, o) ∈ H' → l < k ∧ o.lt k) (h : AW P ro m c a' H' k Q) : AW P ro m c a H n Q := by
  intro S i w ca hact hh hn
  have h1 : ActRel S (i.cut k) a' ca := ⟨hact.size.trans hn'.symm, fun t x hx => (hact.get t x (ha t x hx)).cut (hal t x hx)⟩
  have h2 : HeapRel S (i.cut k) H' w := by
    refine ⟨hh.cell, hh.size, fun l o hm => ?_, fun l o l' o' b x y hl hl' => hh.inj l o l' o' b (hH _ x) (hH _ y) (Emb.cut_some hl).2 (Emb.cut_some hl').2,
      fun l b hl => hh.dom l b (Emb.cut_some hl).2⟩
    obtain ⟨hl, ho⟩ := hHl l o hm
    rcases hh.obj l o (hH _ hm) with ⟨b, hb, hr⟩ | ⟨hn, ho'⟩
    case inr => exact .inr ⟨by rw [Emb.cut_of hl]; exact hn, ho'⟩
    refine .inl ⟨b, by rw [Emb.cut_of hl]; exact hb, ?_⟩
    exact hr.relabel (fun _ hl => Emb.cut_of hl) ho
  have hblk : ∀ b, blk (i.cut k) H' b → blk i H b := by
    rintro b ⟨l, o, hx, hb⟩
    exact ⟨l, o, hH _ hx, (Emb.cut_some hb).2⟩
  refine wpIn_mono (h S (i.cut k) w ca h1 h2 fun l b hl => (Emb.cut_some hl).1) ?_
  rintro ex ca' w' ⟨a'', H'', n'', S'', i'', q, ra, rd, rh, rn, re, rt⟩
  refine ⟨a'', H'', n'', S'', i'', q, ra, rd, rh, rn, fun l hl => (re l hl).trans (Emb.cut_of (Nat.lt_of_lt_of_le hl hm)), ?_⟩
  exact ⟨rt.up, rt.grow, fun b hb hx => rt.old b hb fun h => hx (hblk b h), fun a v hv => (rt.newSeal a v hv).imp id (Or.imp (hblk _) id),
    fun l b hb => (rt.newEmb l b hb).imp (fun h => (Emb.cut_some h).2) (Or.imp (hblk b) id), fun b hb => (rt.sub b hb).imp (hblk b) id, rt.os, rt.out, rt.tape⟩

theorem wpIn_loopR {F : Fence} {n : Nat} {P : Program} {Q : Exit → Act → World → Prop} {a : Act} {w : World} {c : Code} (R : Nat → Act → World → Prop) (k₀ : Nat) (h₀ : R k₀ a w)
    (round : ∀ k a w, R k a w → c.wpIn F n P (Exit.then (fun a' w' => ∃ k', k' < k ∧ R k' a' w') Q) a w) : (Code.loop c).wpIn F n P Q a w := by
  intro b k cs hro hb hr
  have key : ∀ j a w, R j a w →
      ∃ e a' w', Q e a' w' ∧ ArrivesIn (Machine.fenced P F) P (lone (b.atR a (.code c :: .inLoop c :: k)) cs w) b k cs e a' w' := by
    intro j
    induction j using Nat.strongRecOn with
    | _ j ih =>
      intro a w hI
      obtain ⟨e, a₁, w₁, hq, harr⟩ := round j a w hI b (.inLoop c :: k) cs hro hb hr
      cases e with
      | normal =>
        obtain ⟨j', hlt, hI₁⟩ := hq
        obtain ⟨e₂, a₂, w₂, hq₂, harr₂⟩ := ih j' hlt a₁ w₁ hI₁
        exact ⟨e₂, a₂, w₂, hq₂, .of_steps (StepsIn.trans harr (.one (fenced_calm hb hr rfl) stepR_inLoop)) harr₂⟩
      | exit id => exact ⟨_, a₁, w₁, hq, .pass (x := .inLoop c) rfl (fun _ _ => .inl (by simp)) harr⟩
      | goto l => exact ⟨_, a₁, w₁, hq, .pass (x := .inLoop c) rfl (fun _ _ => .inl (by simp)) harr⟩
      | ret => exact ⟨_, a₁, w₁, hq, .pass (x := .inLoop c) rfl (fun _ _ => .inl (by simp)) harr⟩
      | panic ch => exact ⟨_, a₁, w₁, hq, .pass (x := .inLoop c) rfl (fun _ _ => .inl (by simp)) harr⟩
      | outgrown => exact ⟨_, a₁, w₁, hq, .pass (x := .inLoop c) rfl (fun _ _ => .inl (by simp)) harr⟩
  obtain ⟨e, a', w', hq, harr⟩ := key _ a w h₀
  exact ⟨e, a', w', hq, .of_steps (.one (fenced_calm hb hr rfl) stepR_loop) harr⟩

/-- a loop: what holds at every round's head, told by a parameter that goes down -/
theorem AW.loop {α : Type} {c : Code} (I : α → AAct → AHeap → Nat → Prop) (μ : α → Nat) (x₀ : α) (h₀ : I x₀ a H n)
    (round : ∀ x a H n, I x a H n → AW P ro m c a H n (then' (fun a H n => ∃ y, I y a H n ∧ μ y < μ x) Q)) : AW P ro m (.loop c) a H n Q := by
  intro S₀ i₀ w₀ ca₀ ha₀ hh₀ hn₀
  refine wpIn_loopR (fun k ca w => ∃ x a H' n' S i, I x a H' n' ∧ μ x = k ∧ ActRel S i a ca ∧ Marks w₀ w ca₀.defers ca.defers ∧ HeapRel S i H' w ∧
    (∀ l b, i l = some b → l < n') ∧ (∀ l, l < m → i l = i₀ l) ∧ Tr S₀ i₀ H w₀ S i H' w) (μ x₀)
    ⟨x₀, a, H, n, S₀, i₀, h₀, rfl, ha₀, .refl _ _ _, hh₀, hn₀, fun _ _ => rfl, .refl _ _ _ _⟩ ?_
  rintro k ca w ⟨x, a, H', n', S, i, hI, rfl, ra, rd, rh, rn, re, rt⟩
  refine wpIn_mono (round x a H' n' hI S i w ca ra rh rn) ?_
  rintro ex ca' w' ⟨a', H'', n'', S', i', q, ra', rd', rh', rn', re', rt'⟩
  cases ex with
  | normal =>
    obtain ⟨y, hy, hlt⟩ := q
    exact ⟨μ y, hlt, y, a', H'', n'', S', i', hy, rfl, ra', rd.trans rh rt rt' rd', rh', rn', fun l hl => (re' l hl).trans (re l hl), rt.trans rt'⟩
  | exit id => exact ⟨a', H'', n'', S', i', q, ra', rd.trans rh rt rt' rd', rh', rn', fun l hl => (re' l hl).trans (re l hl), rt.trans rt'⟩
  | goto l => exact ⟨a', H'', n'', S', i', q, ra', rd.trans rh rt rt' rd', rh', rn', fun l hl => (re' l hl).trans (re l hl), rt.trans rt'⟩
  | ret => exact ⟨a', H'', n'', S', i', q, ra', rd.trans rh rt rt' rd', rh', rn', fun l hl => (re' l hl).trans (re l hl), rt.trans rt'⟩
  | panic ch => exact ⟨a', H'', n'', S', i', q, ra', rd.trans rh rt rt' rd', rh', rn', fun l hl => (re' l hl).trans (re l hl), rt.trans rt'⟩
  | outgrown => exact ⟨a', H'', n'', S', i', q, ra', rd.trans rh rt rt' rd', rh', rn', fun l hl => (re' l hl).trans (re l hl), rt.trans rt'⟩
end
end Go.Proofs.Abs
