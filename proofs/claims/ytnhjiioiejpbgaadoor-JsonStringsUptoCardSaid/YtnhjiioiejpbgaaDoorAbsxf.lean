/- Several texts of one proof, one behind the other. -/
import Derived.Test.YtnhjiioiejpbgaaDoorAbsxe
import Derived.Lib.Strings
import Derived.Lib.Slices
import Derived.Lib.Walk
import Derived.Lib.Bytealg
section
/- A function of Go's library that finds a byte in a text. -/
namespace Go.Proofs.Abs
open Go
def IdxB (P : Program) (f : FuncId) : Prop :=
  (∃ fn, P.funcs[f]? = some fn ∧ (fn.name == "runtime.NumGoroutine") = false ∧ fn.body.isSome = true) ∧
  ∀ (s : ByteArray) (c : Int) (w : World), Calls P f #[.string s, .int .u8 c] w fun e w' => e = .returned (.int .i64 (Lib.indexByte s.data.toList c.toNat.toUInt8)) ∧ w' = w
theorem idxB_calls {P : Program} {f : FuncId} (h : IdxB P f) (s : List UInt8) (c : UInt8) :
    ACalls P f [.d (.str s), .d (.int .u8 ((c.toNat : Nat) : Int))] [] (.d (.int .i64 (Lib.indexByte s c))) [] := by
  refine ⟨h.1, fun S i w vs hl hv hh _ => ?_⟩
  match vs, hl, hv with
  | [v0, v1], _, hv =>
    have h0 := hv 0 (by simp) (by simp)
    have h1 := hv 1 (by simp) (by simp)
    simp only [List.getElem_cons_zero, List.getElem_cons_succ] at h0 h1
    cases h0 with
    | d h0 =>
      cases h1 with
      | d h1 =>
        cases h0
        cases h1
        refine (h.2 _ _ w).mono fun e w' hh' => ?_
        obtain ⟨he, rfl⟩ := hh'
        refine ⟨_, he, S, i, ?_, hh, fun _ _ hb => hb, Tr.refl _ _ _ _, fun l b hb => .inl hb⟩
        have hc : ((c.toNat : Nat) : Int).toNat.toUInt8 = c := by simp
        rw [hc]
        exact .d .int
end Go.Proofs.Abs
end
section
/- A row of one's own that grows. -/
namespace Go.Proofs.Abs
open Go
set_option linter.unusedVariables false
set_option linter.unusedSectionVars false
set_option linter.unusedSimpArgs false
theorem cellAt {w : World} {b : Nat} {c : Array Value} {et : TypeId} {f : Nat × Nat} (h : w.heap[b]? = some (.cells c et f)) (k : Nat) : w.cell? ⟨b, k, none⟩ = c[k]? := by
  unfold World.cell?
  simp only [h]
  cases c[k]? <;> rfl
/-- a row that is written anew where it lies -/
theorem post_roomR {S : Seal} {i : Emb} {w : World} {l nl b z n cap m : Nat} {c c' : Array Value} {e : TypeId} {o : AObj} {ds : List D} (hh : HeapRel S i [(l, o)] w) (hi : i l = some b) (hc : w.heap[b]? = some (.cells c e (0, 0)))
    (hns : ∀ a : Addr, a.block = b → S.cell a = none) (hsz : c'.size = c.size) (hf : i nl = none) (hne : nl ≠ l) (hds : ds.length ≤ c'.size) (hv : ∀ j (h1 : j < ds.length) (h2 : j < c'.size), DV S ds[j] c'[j])
    (hm : S.size b = some m) (hcap : cap * z ≤ m) (hn : n ≤ cap) : Post S i [(l, o)] w (.row nl z n) [(nl, .rowP ds)] (.slice (some ⟨b, 0, none⟩) n cap) (w.setRow b c') := by
  have hh0 : HeapRel S i [(l, .tok 0)] w := ⟨hh.cell, hh.size, fun l' o' hm' => by
    simp only [List.mem_singleton, Prod.mk.injEq] at hm'
    obtain ⟨rfl, rfl⟩ := hm'
    exact .inl ⟨b, hi, c, e, hc, fun a ha _ => hns a ha⟩, fun l1 o1 l2 o2 b' h1 h2 _ _ => by
    simp only [List.mem_singleton, Prod.mk.injEq] at h1 h2
    rw [h1.1, h2.1], hh.dom, hh.gr⟩
  have hset : (i.set nl b) nl = some b := by simp [Emb.set]
  obtain ⟨S', i', p1, p2, p3, p4, p5⟩ := post_room (k := 0) (c' := c') (nl := nl) (r := .row nl z n) (v := .slice (some ⟨b, 0, none⟩) n cap) hh0 hi hc (fun a ha _ => hns a ha) hsz (fun m hm => absurd hm (Nat.not_lt_zero _)) hf hne
    (.row hset (m := m) hm hcap hn) (Nat.le_refl _)
  have hb0 : i' nl = some b := by cases p1 with | row h _ _ _ => exact h
  have hnew := setRow_heap w b c c' e (0, 0) hc
  have hle : S.le S' := p4.up
  refine ⟨S', i', p1, ⟨p2.cell, p2.size, fun l' o' hm' => ?_, fun l1 o1 l2 o2 b' h1 h2 _ _ => ?_, p2.dom, p2.gr⟩, p3, ⟨p4.up, p4.grow, fun b' hb' hnb => p4.old b' hb' fun ⟨l', o', q1, q2⟩ => hnb ?_, fun a v ha => ?_, fun l' b' hb' => ?_, fun b' ⟨l', o', q1, q2⟩ => ?_, p4.os, p4.out, p4.tape⟩, fun l' b' hb' => ?_⟩
  · simp only [List.mem_singleton, Prod.mk.injEq] at hm'
    obtain ⟨rfl, rfl⟩ := hm'
    rcases p2.obj l' (.tok 0) List.mem_cons_self with ⟨b', hb', c1, e1, hc1, hns1⟩ | ⟨h, _⟩
    case inr => rw [hb0] at h; cases h
    rw [hb0] at hb'; cases hb'
    rw [hnew] at hc1
    cases hc1
    exact .inl ⟨_, hb0, c', e, hnew, hds, fun j h1 h2 => (hv j h1 h2).mono hle, fun a ha => hns1 a ha (Nat.zero_le _)⟩
  · simp only [List.mem_singleton, Prod.mk.injEq] at h1 h2
    rw [h1.1, h2.1]
  · simp only [List.mem_singleton, Prod.mk.injEq] at q1
    obtain ⟨rfl, rfl⟩ := q1
    exact ⟨l', o, List.mem_singleton.2 rfl, q2⟩
  · rcases p4.newSeal a v ha with h | ⟨l', o', q1, q2⟩ | h
    · exact .inl h
    · simp only [List.mem_singleton, Prod.mk.injEq] at q1
      obtain ⟨rfl, rfl⟩ := q1
      exact .inr (.inl ⟨l', o, List.mem_singleton.2 rfl, q2⟩)
    · exact .inr (.inr h)
  · rcases p4.newEmb l' b' hb' with h | ⟨l', o', q1, q2⟩ | h
    · exact .inl h
    · simp only [List.mem_singleton, Prod.mk.injEq] at q1
      obtain ⟨rfl, rfl⟩ := q1
      exact .inr (.inl ⟨l', o, List.mem_singleton.2 rfl, q2⟩)
    · exact .inr (.inr h)
  · simp only [List.mem_singleton, Prod.mk.injEq] at q1
    obtain ⟨rfl, rfl⟩ := q1
    rcases p4.sub b' ⟨l', .tok 0, List.mem_singleton.2 rfl, q2⟩ with ⟨l2, o2, q3, q4⟩ | h
    · simp only [List.mem_singleton, Prod.mk.injEq] at q3
      obtain ⟨rfl, rfl⟩ := q3
      exact .inl ⟨l2, o, List.mem_singleton.2 rfl, q4⟩
    · exact .inr h
  · rcases p5 l' b' hb' with h | ⟨h1, h2⟩
    · exact .inl h
    · exact .inr ⟨h1, h2⟩
section
variable {P : Program} {w : World} {α : Type} {e : α → D} {z : Nat} {g : Bool}
theorem AOpT.appW {A : List (Nat × AV)} {x y : Arg} {by' nl l0 n : Nat} {zz : List D} {yv : AV} {xs ys : List α} (he : EncOK e z g) (hx : evA A x = some (.row l0 z n)) (hn : n ≤ xs.length) (hy : evA A y = some yv) (hsrc : toSrc yv = some (ys.map e)) (hne : nl ≠ l0)
    (hzl : zz.length = z) (hby : 0 < by') (hfit : (n + ys.length) * 2 * by' ≤ 281474976710656) : AOpT P (.app x y z by' zz) A [(l0, rowO e xs)] (.row nl z (n + ys.length)) [(nl, rowO e (xs.take n ++ ys))] := by
  refine ⟨fun w hw hb => (by subst hw; cases hb), fun o hao => ?_⟩
  have hyz : ∀ d ∈ ys.map e, d.cells.length = z := mapLen he.len
  obtain ⟨c, hop, hk⟩ := compOp_app hao
  cases hk with
  | app hc ha hxa hya ht hu hu2 hz hj =>
    rename_i x0 y0 t u ee ts j
    obtain ⟨j', z0, hj', hz0, hcz⟩ := zeroA_inv hz
    rw [hj] at hj'
    cases hj'
    have hzz : zz.length = z0.cells.size := by simpa using (constDs_at hcz).1
    have hut := und_some hu (by simp)
    obtain ⟨d, hd, huu⟩ : ∃ d, ((∃ e', d = .slice e') ∨ d = .string) ∧ P.underlying u = some d := by
      rcases hu2 with ⟨e', h⟩ | h
      · exact ⟨_, .inl ⟨e', rfl⟩, und_some h (by simp)⟩
      · exact ⟨_, .inr rfl, und_some h (by simp)⟩
    have h0 : c.argTypes[0]? = some t := arr0 ht
    have h1 : c.argTypes[1]? = some u := by rw [← Array.getElem?_toList, ht]; rfl
    refine ⟨by simp [hop], fun S i w ρ hev hh hf => ?_⟩
    have hfn : i nl = none := hf nl (by simp [AHeap.keys]) (by simpa [AHeap.keys] using hne)
    have hhe : HeapRel S i [] w := hh.perm fun x hx => by cases hx
    have hkeys : ∀ l ∈ AHeap.keys [(nl, rowO e (xs.take n ++ ys))], l ∉ AHeap.keys [(l0, rowO e xs)] := fun l hl => by
      simp only [AHeap.keys, List.map_cons, List.map_nil, List.mem_singleton] at hl ⊢; subst hl; exact hne
    have hvx := argV hev hxa hx
    have hvy := argV hev hya hy
    have hexec : (execOp ρ o).run P w = ((Builtin.append_ c.argTypes o.type #[ρ x0, ρ y0]).run P w).andThen fun v w' => .ok (.value v) w' := by
      simp only [execOp, hop, resolve, hc, arr2 ha, List.map_toArray, List.map_cons, List.map_nil, Sem.run_bind, Sem.run_pure, Result.andThen_ok, invoke, builtin]
    generalize hxv : ρ x0 = vx at hvx
    rw [hexec, hxv]
    obtain ⟨new, hn1, hn2, hn3, hn4⟩ := src_ok (P := P) hsrc hvy hyz
    rw [List.length_map] at hn1 hn4
    have hcell : ∀ a v, S.cell a = some v → w.drew.cell? a = some v := fun a v h => by rw [World.cell?_drew]; exact hh.cell a v h
    obtain ⟨old, ho1, ho2, ho3⟩ := own_src (P := P) he (.inr rfl) hh (Src.row hn) hvx
    have htl : (xs.take n).length = n := by rw [List.length_take]; omega
    rw [htl] at ho1 ho3
    have w1 := ho3 w.drew (fun a => World.cell?_drew w a)
    have hone : ∀ v ∈ new, v.oneCell' = true := by
      intro v hv
      obtain ⟨m, hm, rfl⟩ := List.getElem_of_mem hv
      have hm' : m < (flat (ys.map e)).length := by rw [flat_len hyz, List.length_map]; omega
      exact one_of_dv (hn3 m hm' hm) (hn2 _ (List.getElem_mem hm'))
    have hlx : (cellsD e (xs.take n)).length = n * j.size := by rw [cellsD_len he, htl]
    have hly : (cellsD e ys).length = ys.length * j.size := cellsD_len he ys
    have hcd : cellsD e (xs.take n ++ ys) = cellsD e (xs.take n) ++ cellsD e ys := cellsD_app _ _
    have hlen : n + ys.length ≤ 140737488355328 := by
      have h1 : (n + ys.length) * 2 ≤ (n + ys.length) * 2 * j.bytes := Nat.le_mul_of_pos_right _ hby
      omega
    -- a new row
    have grown : ∀ (base : Option Addr) (cap : Nat), vx = .slice base n cap → cap < n + ys.length → Ends P (Post S i [(l0, rowO e xs)] w (.row nl j.size (n + ys.length)) [(nl, rowO e (xs.take n ++ ys))]) (((Builtin.append_ c.argTypes o.type #[vx, ρ y0]).run P w).andThen fun v w' => .ok (.value v) w') := by
      intro base cap hvb hg
      subst hvb
      have hfitg : Builtin.nextslicecap (n + ys.length) cap * j.bytes ≤ 281474976710656 := by
        refine Nat.le_trans (Nat.mul_le_mul_right _ (nextslicecap_le hg)) ?_
        rw [Nat.mul_comm 2]; exact hfit
      have hrun := run_append_grows' (P := P) (w := w) (ty := o.type) h0 h1 hut huu hd hj hz0 (hn4 w hh.cell).1 (hn4 w.drew hcell).2 w1.2 hg (by omega) hfitg
      rw [hrun, Result.andThen_ok]
      have hcap := grownCap_ge w (n + ys.length) cap ee
      generalize hgc : grownCap w (n + ys.length) cap ee = gcap at *
      generalize hC : old.toArray ++ new.toArray ++ Builtin.zeroCells z0.cells (gcap - (n + ys.length)) = C at *
      have hnb : NewBlk w (w.drew.alloc (.cells C ee)) C ee (0, 0) := by
        have := newblk_alloc w.drew C ee
        exact ⟨this.size, this.old, this.new, this.os, this.out, this.tape⟩
      have hsz : C.size = gcap * j.size := by
        rw [← hC]
        simp only [Array.size_append, size_zeroCells, ← hzz, hzl, List.size_toArray, ho1, hn1]
        rw [← Nat.add_mul, ← Nat.add_mul]
        congr 1; omega
      have hat : ∀ m (h : m < (old ++ new).length), C[m]? = some (old ++ new)[m] := by
        intro m hm
        rw [← hC, show old.toArray ++ new.toArray = (old ++ new).toArray by simp, Array.getElem?_append_left (by simpa using hm)]
        simp only [List.getElem?_toArray]
        exact List.getElem?_eq_getElem hm
      refine Post.more (post_row hhe hnb hfn ?_ (fun m h1 h2 => ?_) (by rw [hsz]; exact Nat.le_refl _) hcap) hkeys
      · rw [hcd, List.length_append, hlx, hly, hsz, ← Nat.add_mul]; exact Nat.mul_le_mul_right _ hcap
      · have h3 : m < (old ++ new).length := by
          rw [List.length_append, ho1, hn1, ← hlx, ← hly, ← List.length_append, ← hcd]; exact h1
        have h4 : C[m] = (old ++ new)[m] := (Array.getElem?_eq_some_iff.1 (hat m h3)).2
        rw [h4]
        simp only [hcd]
        by_cases hm : m < (cellsD e (xs.take n)).length
        · rw [List.getElem_append_left hm, List.getElem_append_left (by omega)]
          exact ho2 m hm (by omega)
        · have h5 : m < (old ++ new).length := h3
          rw [List.length_append] at h5
          have hm2 : m < (cellsD e (xs.take n)).length + (cellsD e ys).length := by rw [hcd, List.length_append] at h1; exact h1
          rw [List.getElem_append_right (by omega), List.getElem_append_right (by omega)]
          have := hn3 (m - (cellsD e (xs.take n)).length) (by show _ < (cellsD e ys).length; omega) (by omega)
          have he' : m - old.length = m - (cellsD e (xs.take n)).length := by omega
          simp only [he']
          exact this
    cases hvx with
    | rown =>
      by_cases hy0 : ys.length = 0
      · have hys : ys = [] := List.length_eq_zero_iff.1 hy0
        subst hys
        simp only [List.length_nil] at hn4
        rw [run_append_none' h0 h1 hut huu hd hj (hn4 w hh.cell).1 (hn4 w hh.cell).2, Result.andThen_ok]
        simp only [List.take_zero, List.append_nil, List.length_nil]
        exact Post.more (post_rowNil hhe hfn) (fun l hl => by simp only [AHeap.keys, List.map_cons, List.map_nil, List.mem_singleton] at hl ⊢; subst hl; exact hne)
      · exact grown none 0 rfl (by omega)
    | row hi hNs hcN hl =>
      rename_i b cap m
      by_cases hroom : n + ys.length ≤ cap
      · rcases hh.obj l0 _ List.mem_cons_self with ⟨b', hb', C, eb, hC, hsC, hvC, hns⟩ | ⟨hno, _⟩
        case inr => rw [hi] at hno; cases hno
        rw [hi] at hb'
        cases hb'
        obtain ⟨c1, e1, f1, h1', hN⟩ := hh.size _ _ hNs
        rw [hC] at h1'
        cases h1'
        have hfitC : n * j.size + new.length ≤ C.size := by
          rw [hn1, ← Nat.add_mul, hN]
          exact Nat.le_trans (Nat.mul_le_mul_right _ hroom) hcN
        rw [run_append_room' h0 h1 hut huu hd hj (hn4 w hh.cell).1 (hn4 w hh.cell).2 hC hone hroom hfitC, Result.andThen_ok]
        generalize hC' : (C.toList.take (n * j.size) ++ new ++ C.toList.drop (n * j.size + new.length)).toArray = C'
        have hsz : C'.size = C.size := by rw [← hC']; simp; omega
        have hkeep : ∀ m, m < n * j.size → C'[m]? = C[m]? := by
          intro m hm
          rw [← hC']
          simp only [List.getElem?_toArray]
          rw [List.getElem?_append_left (by simp; omega), List.getElem?_append_left (by simp; omega), List.getElem?_take]
          rw [if_pos (by omega)]
          simp
        have hat : ∀ m (h : m < new.length), C'[n * j.size + m]? = some new[m] := by
          intro m hm
          rw [← hC']
          simp only [List.getElem?_toArray]
          rw [List.getElem?_append_left (by simp; omega), List.getElem?_append_right (by simp; omega)]
          have : n * j.size + m - (List.take (n * j.size) C.toList).length = m := by simp; omega
          rw [this, List.getElem?_eq_getElem hm]
        have hxs : cellsD e xs = cellsD e (xs.take n) ++ cellsD e (xs.drop n) := by rw [← cellsD_app, List.take_append_drop]
        have hroomD : (cellsD e (xs.take n ++ ys)).length ≤ C'.size := by
          rw [hcd, List.length_append, hlx, hly, hsz, ← hn1]; exact hfitC
        refine post_roomR hh hi hC hns hsz hfn hne hroomD (fun q h1 h2 => ?_) hNs hcN hroom
        simp only [hcd]
        by_cases hm : q < (cellsD e (xs.take n)).length
        · rw [List.getElem_append_left hm]
          have h3 : q < (cellsD e xs).length := by rw [hxs, List.length_append]; omega
          have h4 : q < C.size := by omega
          have h5 : C'[q] = C[q] := by
            have := hkeep q (by omega)
            rw [Array.getElem?_eq_getElem h2, Array.getElem?_eq_getElem h4] at this
            exact Option.some.inj this
          rw [h5]
          have h6 := hvC q h3 h4
          have h7 : (cellsD e xs)[q] = (cellsD e (xs.take n))[q] := by
            simp only [hxs]
            rw [List.getElem_append_left hm]
          rw [h7] at h6
          exact h6
        · have hm2 : q < (cellsD e (xs.take n)).length + (cellsD e ys).length := by rw [hcd, List.length_append] at h1; exact h1
          rw [List.getElem_append_right (by omega)]
          have h3 : q - (cellsD e (xs.take n)).length < new.length := by omega
          have h5 : C'[q] = new[q - (cellsD e (xs.take n)).length] := by
            have := hat _ h3
            rw [show n * j.size + (q - (cellsD e (xs.take n)).length) = q by omega, Array.getElem?_eq_getElem h2] at this
            exact Option.some.inj this
          rw [h5]
          exact hn3 _ (by show _ < (cellsD e ys).length; omega) h3
      · exact grown (some ⟨b, 0, none⟩) cap rfl (by omega)
end
section
variable {P : Program} {aops os : List AOper} {draw : Bool} {N k c : Nat} {l : List (Nat × AV)} {H H' : AHeap} {A : List Tk} {Q : AAct → AHeap → Nat → Prop}
variable {x y : Arg} {gd : Option (Nat × Bool)} {af : List Nat} {t : Nat} {α : Type} {e : α → D} {z : Nat} {g : Bool} {xs ys zs : List α} {l0 n : Nat}
theorem RegV.appW {by' : Nat} {zz : List D} (hg : gOn gd (us l ⟨some t, .app x y z by' zz, gd, af⟩) = some true) (hx : evA (us l ⟨some t, .app x y z by' zz, gd, af⟩) x = some (.row l0 z n)) (hy : (evA (us l ⟨some t, .app x y z by' zz, gd, af⟩) y).bind toSrc = some (ys.map e)) (he : EncOK e z g)
    (hl : lkH H l0 = some (rowO e xs)) (hzl : zz.length = z) (hby : Nat.blt 0 by' = true) (hb : n ≤ xs.length ∧ (n + ys.length) * 2 * by' ≤ 281474976710656) (hzs : xs.take n ++ ys = zs) (hd : Nat.blt t N = true) (hne : Nat.beq c l0 = false)
    (hn0 : newOK c [(l0, rowO e xs)] [(c, rowO e zs)] = true) (hc : topK c [(c, rowO e zs)] = c + 1) (hH : appK [(c, rowO e zs)] (restK [(l0, rowO e xs)] [(c, rowO e zs)] H) = H')
    (hn : RegV P aops draw N (k + 1) os (c + 1) ((t, .row c z (n + ys.length)) :: l) H' (⟨[l0, c], false⟩ :: A) Q) : RegV P aops draw N k (⟨some t, .app x y z by' zz, gd, af⟩ :: os) c l H A Q := by
  have hne' : c ≠ l0 := fun h => by rw [h, Nat.beq_refl] at hne; cases hne
  obtain ⟨yv, hyv, hsrc⟩ := Option.bind_eq_some_iff.1 hy
  subst hzs
  have h0 := AOpT.appW (P := P) (nl := c) he hx hb.1 hyv hsrc hne' hzl (Nat.le_of_ble_eq_true hby) hb.2
  exact RegV.up (fun _ h' => RegU.op hg h0 hd (fun y hy => by cases List.mem_singleton.1 hy; exact lkH_mem hl) hn0 rfl (q := false) (fun h => by cases h) rfl hH hc h') hn
end
end Go.Proofs.Abs
end
section
/- Rows of one's own, handed to slices.Delete and slices.Insert; parts of their elements. -/
namespace Go.Proofs.Abs
open Go
set_option linter.unusedVariables false
set_option linter.unusedSectionVars false
set_option linter.unusedSimpArgs false
theorem Post.heapEq {S : Seal} {i : Emb} {H H' : AHeap} {w w1 w2 : World} {r : AV} {v : Value} (h : Post S i H w r H' v w1) (h1 : w2.heap = w1.heap) (h2 : w2.os = w1.os) (h3 : w2.output = w1.output) (h4 : w2.tape = w1.tape) : Post S i H w r H' v w2 := by
  obtain ⟨S', i', p1, p2, p3, p4, p5⟩ := h
  have hc : ∀ a, w2.cell? a = w1.cell? a := fun a => by unfold World.cell?; rw [h1]
  have ho : ∀ b o, ObjRel S' i' w1 b o → ObjRel S' i' w2 b o := by
    intro b o h
    cases o <;> simp only [ObjRel, h1] at h ⊢ <;> exact h
  refine ⟨S', i', p1, ⟨fun a v ha => by rw [hc]; exact p2.cell a v ha, fun b n hb => by rw [h1]; exact p2.size b n hb, fun l o hm => ?_, p2.inj, fun l b hb => (by rw [h1]; exact p2.dom l b hb), p2.gr⟩, p3,
    ⟨p4.up, by rw [h1]; exact p4.grow, fun b hb hn => by rw [h1]; exact p4.old b hb hn, p4.newSeal, p4.newEmb, p4.sub, by rw [h2]; exact p4.os, by rw [h3]; exact p4.out, by rw [h4]; exact p4.tape⟩, p5⟩
  rcases p2.obj l o hm with ⟨b, hb, hr⟩ | h
  · exact .inl ⟨b, hb, ho b o hr⟩
  · exact .inr h
/-- what comes of a row that is written where it lies -/
def RowTo (w w' : World) (b : Nat) (c c' : Array Value) : Prop := w'.heap = (w.setRow b c').heap ∧ w'.os = w.os ∧ w'.output = w.output ∧ w'.tape = w.tape ∧ c'.size = c.size
def HasFn (P : Program) (f : FuncId) : Prop := ∃ fn, P.funcs[f]? = some fn ∧ (fn.name == "runtime.NumGoroutine") = false ∧ fn.body.isSome = true
def DelB (P : Program) (f : FuncId) (z : Nat) : Prop := HasFn P f ∧
  (∀ (b n cap i j : Nat) (c : Array Value) (et : TypeId) (w : World), w.heap[b]? = some (.cells c et (0, 0)) → i ≤ j → j ≤ n → n ≤ cap → cap * z ≤ c.size → (∀ m v, m < n * z → c[m]? = some v → v.oneCell' = true) → n ≤ 140737488355328 →
    Calls P f #[.slice (some ⟨b, 0, none⟩) n cap, .int .i64 i, .int .i64 j] w fun e w' => ∃ c' : Array Value, e = .returned (.slice (some ⟨b, 0, none⟩) (n - (j - i)) cap) ∧ RowTo w w' b c c' ∧
      (∀ m, m < i * z → c'[m]? = c[m]?) ∧ ∀ m, m < (n - j) * z → c'[i * z + m]? = c[j * z + m]?) ∧
  ∀ w : World, Calls P f #[.slice none 0 0, .int .i64 0, .int .i64 0] w fun e w' => e = .returned (.slice none 0 0) ∧ w' = w
section
variable {P : Program} {f : FuncId} {α : Type} {e : α → D} {z : Nat} {g : Bool}
theorem cellsD_get {xs : List α} (he : EncOK e z g) {n m : Nat} (hn : n ≤ xs.length) (hm : m < n * z) (h1 : m < (cellsD e (xs.take n)).length) (h2 : m < (cellsD e xs).length) : (cellsD e (xs.take n))[m] = (cellsD e xs)[m] := by
  have : cellsD e xs = cellsD e (xs.take n) ++ cellsD e (xs.drop n) := by rw [← cellsD_app, List.take_append_drop]
  simp only [this]
  rw [List.getElem_append_left h1]
theorem cellsD_drop {xs : List α} (he : EncOK e z g) {n m : Nat} (hn : n ≤ xs.length) (h1 : m < (cellsD e (xs.drop n)).length) (h2 : n * z + m < (cellsD e xs).length) : (cellsD e (xs.drop n))[m] = (cellsD e xs)[n * z + m] := by
  have h3 : (cellsD e (xs.take n)).length = n * z := by rw [cellsD_len he, List.length_take, Nat.min_eq_left hn]
  have : cellsD e xs = cellsD e (xs.take n) ++ cellsD e (xs.drop n) := by rw [← cellsD_app, List.take_append_drop]
  simp only [this]
  rw [List.getElem_append_right (by omega)]
  congr 1
  omega
theorem delB_calls (he : EncOK e z g) (hc : DelB P f z) {xs : List α} {n : Nat} {i0 j0 : Int} (hb : 0 ≤ i0 ∧ i0 ≤ j0 ∧ j0 ≤ (n : Int) ∧ n ≤ xs.length ∧ n ≤ 140737488355328) :
    ACalls P f [.row 0 z n, .d (.int .i64 i0), .d (.int .i64 j0)] [(0, rowO e xs)] (.row 1 z (xs.take i0.toNat ++ (xs.take n).drop j0.toNat).length) [(1, rowO e (xs.take i0.toNat ++ (xs.take n).drop j0.toNat))] := by
  obtain ⟨b1, b2, b3, b4, b5⟩ := hb
  obtain ⟨p, rfl⟩ := Int.eq_ofNat_of_zero_le b1
  obtain ⟨q, rfl⟩ := Int.eq_ofNat_of_zero_le (show 0 ≤ j0 by omega)
  simp only [Int.toNat_natCast]
  refine ⟨hc.1, fun S i w vs hl hv hh hf => ?_⟩
  match vs, hl, hv with
  | [v0, v1, v2], _, hv =>
    have h0 := hv 0 (by simp) (by simp)
    have h1 := hv 1 (by simp) (by simp)
    have h2 := hv 2 (by simp) (by simp)
    simp only [List.getElem_cons_zero, List.getElem_cons_succ] at h0 h1 h2
    have hfn : i 1 = none := hf 1 (by simp [AHeap.keys]) (by simp [AHeap.keys])
    have e1 := vInt h1
    have e2 := vInt h2
    subst e1; subst e2
    cases h0 with
    | rown =>
      obtain rfl : p = 0 := by omega
      obtain rfl : q = 0 := by omega
      refine (hc.2.2 w).mono fun e' w' hh' => ?_
      obtain ⟨he', rfl⟩ := hh'
      refine ⟨_, he', ?_⟩
      have hhe : HeapRel S i [] w' := hh.perm fun x hx => by cases hx
      have hx := Post.more (post_rowNil (z := z) hhe hfn) (H := [(0, rowO e xs)]) (fun l hl => by simp only [AHeap.keys, List.map_cons, List.map_nil, List.mem_singleton] at hl ⊢; omega)
      have hzz : xs.take 0 ++ (xs.take 0).drop 0 = [] := by simp
      rw [hzz]
      exact hx
    | row hi hNs hcN hle =>
      rename_i b cap m hx0
      rcases hh.obj 0 _ List.mem_cons_self with ⟨b', hb', C, et, hC, hsC, hvC, hns⟩ | ⟨hno, _⟩
      case inr => rw [hi] at hno; cases hno
      rw [hi] at hb'
      cases hb'
      obtain ⟨c1, e1, f1, h1', hN⟩ := hh.size _ _ hNs
      rw [hC] at h1'
      cases h1'
      have hlx := cellsD_len he xs
      have hnz : n * z ≤ xs.length * z := Nat.mul_le_mul_right _ b4
      refine (hc.2.1 b n cap p q C et w hC (by omega) (by omega) hle (by omega) (fun m' v hm hv' => ?_) b5).mono fun e' w' hh' => ?_
      · have h3 : m' < (cellsD e xs).length := by omega
        have h4 : m' < C.size := by omega
        rw [Array.getElem?_eq_getElem h4] at hv'
        cases hv'
        exact one_of_dv (hvC m' h3 h4) (cellsD_sc he xs _ (List.getElem_mem h3))
      · obtain ⟨c', he', ⟨w1, w2, w3, w4, w5⟩, k1, k2⟩ := hh'
        refine ⟨_, he', ?_⟩
        have hlen : (xs.take p ++ (xs.take n).drop q).length = n - (q - p) := by simp; omega
        have hl1 : (cellsD e (xs.take p)).length = p * z := by rw [cellsD_len he, List.length_take]; congr 1; omega
        have hl2 : (cellsD e ((xs.take n).drop q)).length = (n - q) * z := by rw [cellsD_len he, List.length_drop, List.length_take]; congr 1; omega
        have hcd : cellsD e (xs.take p ++ (xs.take n).drop q) = cellsD e (xs.take p) ++ cellsD e ((xs.take n).drop q) := cellsD_app _ _
        have hpn : p * z + (n - q) * z ≤ n * z := by rw [← Nat.add_mul]; exact Nat.mul_le_mul_right _ (by omega)
        have hqn : q * z + (n - q) * z = n * z := by rw [← Nat.add_mul]; congr 1; omega
        rw [hlen]
        refine Post.heapEq (post_roomR (c' := c') hh hi hC hns w5 hfn (by decide) ?_ (fun r h1 h2 => ?_) hNs hcN (by omega)) w1 w2 w3 w4
        · rw [hcd, List.length_append, hl1, hl2]; omega
        · simp only [hcd]
          have h1' : r < p * z + (n - q) * z := by rw [hcd, List.length_append, hl1, hl2] at h1; exact h1
          by_cases hr : r < p * z
          · rw [List.getElem_append_left (by omega)]
            have h3 : r < C.size := by omega
            have h4 : c'[r] = C[r] := by
              have := k1 r hr
              rw [Array.getElem?_eq_getElem h2, Array.getElem?_eq_getElem h3] at this
              exact Option.some.inj this
            rw [h4, cellsD_get he (show p ≤ xs.length by omega) hr (by omega) (by omega)]
            exact hvC r (by omega) h3
          · rw [List.getElem_append_right (by omega)]
            have h3 : q * z + (r - p * z) < C.size := by omega
            have h4 : c'[r] = C[q * z + (r - p * z)] := by
              have := k2 (r - p * z) (by omega)
              rw [show p * z + (r - p * z) = r by omega, Array.getElem?_eq_getElem h2, Array.getElem?_eq_getElem h3] at this
              exact Option.some.inj this
            rw [h4]
            have h5 : q * z + (r - p * z) < (cellsD e (xs.take n)).length := by rw [cellsD_len he, List.length_take, Nat.min_eq_left b4]; omega
            have h6 := cellsD_drop (xs := xs.take n) he (n := q) (m := r - p * z) (by rw [List.length_take]; omega) (by omega) h5
            have h7 := cellsD_get he b4 (show q * z + (r - p * z) < n * z by omega) h5 (by omega)
            have h8 := hvC (q * z + (r - p * z)) (by omega) h3
            rw [← h7, ← h6] at h8
            simp only [hl1]
            exact h8
/-- what slices.Insert gives of one element -/
def InsB (P : Program) (f : FuncId) (z bt : Nat) : Prop := HasFn P f ∧
  (∀ (b n cap i vb vo vc : Nat) (c : Array Value) (et : TypeId) (new : List Value) (w : World), w.heap[b]? = some (.cells c et (0, 0)) → i ≤ n → n ≤ cap → cap * z ≤ c.size → (∀ m v, m < n * z → c[m]? = some v → v.oneCell' = true) →
    vb ≠ b → new.length = z → (∀ k v, new[k]? = some v → w.cell? ⟨vb, vo + k, none⟩ = some v ∧ v.oneCell' = true) → (n + 1) * 2 * bt ≤ 281474976710656 →
    Calls P f #[.slice (some ⟨b, 0, none⟩) n cap, .int .i64 i, .slice (some ⟨vb, vo, none⟩) 1 vc] w fun e w' => ∃ (c' : Array Value) (nb ncap : Nat), e = .returned (.slice (some ⟨nb, 0, none⟩) (n + 1) ncap) ∧
      ((nb = b ∧ ncap = cap ∧ n + 1 ≤ cap ∧ RowTo w w' b c c') ∨ (nb = w.heap.size ∧ (∃ et2, NewBlk w w' c' et2 (0, 0)) ∧ n + 1 ≤ ncap ∧ ncap * z ≤ c'.size)) ∧
      (∀ m, m < i * z → c'[m]? = c[m]?) ∧ (∀ m, m < z → c'[i * z + m]? = new[m]?) ∧ ∀ m, m < (n - i) * z → c'[(i + 1) * z + m]? = c[i * z + m]?) ∧
  ∀ (vb vo vc : Nat) (new : List Value) (w : World), new.length = z → (∀ k v, new[k]? = some v → w.cell? ⟨vb, vo + k, none⟩ = some v ∧ v.oneCell' = true) → 
    Calls P f #[.slice none 0 0, .int .i64 0, .slice (some ⟨vb, vo, none⟩) 1 vc] w fun e w' => ∃ (c' : Array Value) (et : TypeId) (ncap : Nat), e = .returned (.slice (some ⟨w.heap.size, 0, none⟩) 1 ncap) ∧ NewBlk w w' c' et (0, 0) ∧ 1 ≤ ncap ∧ ncap * z ≤ c'.size ∧ ∀ m, m < z → c'[m]? = new[m]?
theorem insB_calls (he : EncOK e z g) {bt : Nat} (hz : 0 < z) (hc : InsB P f z bt) {xs : List α} {n : Nat} {i0 : Int} {ys : List α} (hb : 0 ≤ i0 ∧ i0 ≤ (n : Int) ∧ n ≤ xs.length ∧ ys.length = 1 ∧ (n + ys.length) * 2 * bt ≤ 281474976710656) :
    ACalls P f [.row 0 z n, .d (.int .i64 i0), .d (.sl (ys.map e))] [(0, rowO e xs)] (.row 1 z ((xs.take n).take i0.toNat ++ ys ++ (xs.take n).drop i0.toNat).length) [(1, rowO e ((xs.take n).take i0.toNat ++ ys ++ (xs.take n).drop i0.toNat))] := by
  obtain ⟨b1, b2, b3, b4, b5⟩ := hb
  obtain ⟨p, rfl⟩ := Int.eq_ofNat_of_zero_le b1
  match ys, b4 with
  | [y], _ =>
  simp only [Int.toNat_natCast]
  simp only [List.length_singleton] at b5
  have hpn : p ≤ n := by omega
  have htl : (xs.take n).length = n := by rw [List.length_take, Nat.min_eq_left b3]
  have hlen : ((xs.take n).take p ++ [y] ++ (xs.take n).drop p).length = n + 1 := by simp only [List.length_append, List.length_take, List.length_singleton, List.length_drop]; omega
  have hl1 : (cellsD e ((xs.take n).take p)).length = p * z := by rw [cellsD_len he, List.length_take, htl, Nat.min_eq_left hpn]
  have hl2 : (cellsD e [y]).length = z := by rw [cellsD_len he]; simp
  have hl3 : (cellsD e ((xs.take n).drop p)).length = (n - p) * z := by rw [cellsD_len he, List.length_drop, htl]
  have hcd : cellsD e ((xs.take n).take p ++ [y] ++ (xs.take n).drop p) = cellsD e ((xs.take n).take p) ++ cellsD e [y] ++ cellsD e ((xs.take n).drop p) := by rw [cellsD_app, cellsD_app]
  have hsum : p * z + z + (n - p) * z = (n + 1) * z := by rw [← Nat.succ_mul, ← Nat.add_mul]; congr 1; omega
  have hpq : p * z + (n - p) * z = n * z := by rw [← Nat.add_mul]; congr 1; omega
  refine ⟨hc.1, fun S i w vs hl hv hh hf => ?_⟩
  match vs, hl, hv with
  | [v0, v1, v2], _, hv =>
    have h0 := hv 0 (by simp) (by simp)
    have h1 := hv 1 (by simp) (by simp)
    have h2 := hv 2 (by simp) (by simp)
    simp only [List.getElem_cons_zero, List.getElem_cons_succ] at h0 h1 h2
    have hfn : i 1 = none := hf 1 (by simp [AHeap.keys]) (by simp [AHeap.keys])
    have hhe : HeapRel S i [] w := hh.perm fun x hx => by cases hx
    have e1 := vInt h1
    subst e1
    -- the element that is put in
    obtain ⟨vb, vo, vc, fv, rfl, hcell, hdv⟩ : ∃ (vb vo vc : Nat) (fv : Nat → Value), v2 = .slice (some ⟨vb, vo, none⟩) 1 vc ∧ (∀ k, k < z → S.cell ⟨vb, vo + k, none⟩ = some (fv k)) ∧ ∀ k (hk : k < (cellsD e [y]).length), DV S (cellsD e [y])[k] (fv k) := by
      have hd := vD h2
      generalize hL : ([y] : List α).map e = L at hd
      cases hd with
      | nilsl => simp at hL
      | emp => simp at hL
      | sl fv hz' hg' hc' hs' hv' =>
        subst hL
        exact ⟨_, _, _, fv, rfl, fun k hk => hs' k (by show k < (cellsD e [y]).length; omega), fun k hk => hv' k hk⟩
    let new : List Value := (List.range z).map fv
    have hnl : new.length = z := by simp [new]
    have hnew : ∀ k v, new[k]? = some v → w.cell? ⟨vb, vo + k, none⟩ = some v ∧ v.oneCell' = true := by
      intro k v hk
      obtain ⟨hk1, hk2⟩ := List.getElem?_eq_some_iff.1 hk
      have hk3 : k < z := by omega
      have : v = fv k := by rw [← hk2]; simp [new]
      subst this
      exact ⟨hh.cell _ _ (hcell k hk3), one_of_dv (hdv k (by omega)) (cellsD_sc he [y] _ (List.getElem_mem (by omega)))⟩
    have hnat : ∀ k (h1 : k < (cellsD e [y]).length), new[k]? = some (fv k) := fun k h1 => by
      have : k < z := by omega
      simp [new, this]
    cases h0 with
    | rown =>
      obtain rfl : p = 0 := by omega
      refine (hc.2.2 vb vo vc new w hnl hnew).mono fun e' w' hh' => ?_
      obtain ⟨c', et, ncap, he', hnb, k1, k2, k3⟩ := hh'
      refine ⟨_, he', ?_⟩
      have hzz : (xs.take 0).take 0 ++ [y] ++ (xs.take 0).drop 0 = [y] := by simp
      rw [hzz]
      refine Post.more (post_row hhe hnb hfn ?_ (fun r q1 q2 => ?_) k2 k1) (fun l hl => by simp only [AHeap.keys, List.map_cons, List.map_nil, List.mem_singleton] at hl ⊢; omega)
      · rw [hl2]
        refine Nat.le_trans ?_ k2
        exact Nat.le_mul_of_pos_left _ k1
      · have := k3 r (by omega)
        rw [Array.getElem?_eq_getElem q2, hnat r q1] at this
        rw [Option.some.inj this]
        exact hdv r q1
    | row hi hNs hcN hle =>
      rename_i b cap m hx0
      rcases hh.obj 0 _ List.mem_cons_self with ⟨b', hb', C, et, hC, hsC, hvC, hns⟩ | ⟨hno, _⟩
      case inr => rw [hi] at hno; cases hno
      rw [hi] at hb'
      cases hb'
      obtain ⟨c1, e1, f1, h1', hN⟩ := hh.size _ _ hNs
      rw [hC] at h1'
      cases h1'
      have hlx := cellsD_len he xs
      have hnz : n * z ≤ xs.length * z := Nat.mul_le_mul_right _ b3
      have hvb : vb ≠ b := by
        intro hbb
        have h3 := hcell 0 hz
        rw [hns ⟨vb, vo + 0, none⟩ hbb] at h3
        cases h3
      refine (hc.2.1 b n cap p vb vo vc C et new w hC hpn hle (by omega) (fun m' v hm hv' => ?_) hvb hnl hnew b5).mono fun e' w' hh' => ?_
      · have h3 : m' < (cellsD e xs).length := by omega
        have h4 : m' < C.size := by omega
        rw [Array.getElem?_eq_getElem h4] at hv'
        cases hv'
        exact one_of_dv (hvC m' h3 h4) (cellsD_sc he xs _ (List.getElem_mem h3))
      · obtain ⟨c', nb, ncap, he', hor, k1, k2, k3⟩ := hh'
        refine ⟨_, he', ?_⟩
        rw [hlen]
        have hcont : ∀ r (q1 : r < (cellsD e ((xs.take n).take p ++ [y] ++ (xs.take n).drop p)).length) (q2 : r < c'.size), DV S (cellsD e ((xs.take n).take p ++ [y] ++ (xs.take n).drop p))[r] c'[r] := by
          intro r q1 q2
          have q3 : r < (n + 1) * z := by rw [hcd, List.length_append, List.length_append, hl1, hl2, hl3] at q1; omega
          simp only [hcd]
          by_cases hr : r < p * z
          · rw [List.getElem_append_left (by rw [List.length_append]; omega), List.getElem_append_left (by omega)]
            have h3 : r < C.size := by omega
            have h4 : c'[r] = C[r] := by
              have := k1 r hr
              rw [Array.getElem?_eq_getElem q2, Array.getElem?_eq_getElem h3] at this
              exact Option.some.inj this
            rw [h4, cellsD_get he (show p ≤ (xs.take n).length by omega) hr (by omega) (by rw [cellsD_len he, htl]; omega), cellsD_get he b3 (show r < n * z by omega) (by rw [cellsD_len he, htl]; omega) (by omega)]
            exact hvC r (by omega) h3
          · by_cases hr2 : r < p * z + z
            · rw [List.getElem_append_left (by rw [List.length_append]; omega), List.getElem_append_right (by omega)]
              have h3 : r - p * z < (cellsD e [y]).length := by omega
              have h4 : c'[r] = fv (r - p * z) := by
                have := k2 (r - p * z) (by omega)
                rw [show p * z + (r - p * z) = r by omega, Array.getElem?_eq_getElem q2, hnat _ h3] at this
                exact Option.some.inj this
              rw [h4]
              simp only [hl1]
              exact hdv _ h3
            · rw [List.getElem_append_right (by rw [List.length_append]; omega)]
              have h3 : p * z + (r - (p * z + z)) < C.size := by omega
              have h4 : c'[r] = C[p * z + (r - (p * z + z))] := by
                have := k3 (r - (p * z + z)) (by omega)
                rw [Nat.succ_mul, show p * z + z + (r - (p * z + z)) = r by omega, Array.getElem?_eq_getElem q2, Array.getElem?_eq_getElem h3] at this
                exact Option.some.inj this
              rw [h4]
              have h5 : p * z + (r - (p * z + z)) < (cellsD e (xs.take n)).length := by rw [cellsD_len he, htl]; omega
              have h6 := cellsD_drop (xs := xs.take n) he (n := p) (m := r - (p * z + z)) (by omega) (by omega) h5
              have h7 := cellsD_get he b3 (show p * z + (r - (p * z + z)) < n * z by omega) h5 (by omega)
              have h8 := hvC (p * z + (r - (p * z + z))) (by omega) h3
              rw [← h7, ← h6] at h8
              simp only [List.length_append, hl1, hl2]
              exact h8
        have hdl : (cellsD e ((xs.take n).take p ++ [y] ++ (xs.take n).drop p)).length = (n + 1) * z := by rw [cellsD_len he, hlen]
        rcases hor with ⟨rfl, rfl, k4, w1, w2, w3, w4, w5⟩ | ⟨rfl, ⟨et2, hnb⟩, k4, k5⟩
        · refine Post.heapEq (post_roomR (c' := c') hh hi hC hns w5 hfn (by decide) ?_ hcont hNs hcN k4) w1 w2 w3 w4
          rw [hdl, w5, hN]
          exact Nat.le_trans (Nat.mul_le_mul_right _ k4) hcN
        · refine Post.more (post_row hhe hnb hfn ?_ hcont k5 k4) (fun l hl => by simp only [AHeap.keys, List.map_cons, List.map_nil, List.mem_singleton] at hl ⊢; omega)
          rw [hdl]
          exact Nat.le_trans (Nat.mul_le_mul_right _ k4) k5
end
section
variable {P : Program} {α : Type} {e : α → D} {z : Nat} {g : Bool}
theorem upd_sub {a b : AV} (h : Sub a b) : ∀ (L : List AV) (j : Nat), SubL (upd L j [a]) (upd L j [b])
  | [], j => by simp only [upd]; exact SubL.refl _
  | x :: L, 0 => by simp only [upd]; exact .cons h (SubL.refl _)
  | x :: L, j + 1 => by simp only [upd]; exact .cons (.refl _) (upd_sub h L j)
theorem AOpT.subO1 {ao : AOp} {A : List (Nat × AV)} {H : AHeap} {r : AV} {l : Nat} {p q : AObj} (h : AOpT P ao A H r [(l, p)]) (hs : SubO p q) : AOpT P ao A H r [(l, q)] := by
  refine ⟨h.1, fun o ho => ⟨(h.2 o ho).1, fun S i w ρ hev hh hf => ?_⟩⟩
  refine ((h.2 o ho).2 S i w ρ hev hh hf).mono fun v w' hp => ?_
  obtain ⟨S', i', p1, p2, p3, p4, p5⟩ := hp
  refine ⟨S', i', p1, ⟨p2.cell, p2.size, fun l' o' hm => ?_, fun l1 o1 l2 o2 b x y _ _ => ?_, p2.dom, p2.gr⟩, p3, ⟨p4.up, p4.grow, p4.old, p4.newSeal, p4.newEmb, fun b ⟨l', o', hm, hb⟩ => ?_, p4.os, p4.out, p4.tape⟩, p5⟩
  · cases List.mem_singleton.1 hm
    rcases p2.obj _ _ List.mem_cons_self with ⟨b, hb, hr⟩ | ⟨hb, hz⟩
    · exact .inl ⟨b, hb, hs.1 _ _ _ _ hr⟩
    · exact .inr ⟨hb, hs.2 hz⟩
  · cases List.mem_singleton.1 x; cases List.mem_singleton.1 y; rfl
  · cases List.mem_singleton.1 hm
    exact p4.sub b ⟨l, p, List.mem_singleton.2 rfl, hb⟩
section
variable [Inhabited α]
theorem load_partX {H : AHeap} {l0 i j : Nat} {xs : List α} {X : List AV} {c : D} {r : List D} (h : EncOK e z g) (hl : lkH H l0 = some (.cells ((cellsD e xs).map .d ++ X))) (hi : i < xs.length) (hc : (e (xs.getD i default)).cells.drop j = c :: r) :
    loadA H (.ptr l0 (i * z + j)) 1 false = some ⟨.d c, [(l0, .cells ((cellsD e xs).map .d ++ X))], [(l0, .cells ((cellsD e xs).map .d ++ X))], True⟩ := by
  obtain ⟨R, hR⟩ := cellsD_at h xs i hi
  rw [← rd_get hi] at hc
  have hjz : j ≤ (e xs[i]).cells.length := by
    rcases Nat.lt_or_ge (e xs[i]).cells.length j with h | h
    · rw [List.drop_of_length_le (by omega)] at hc; cases hc
    · exact h
  have hle : i * z + j ≤ ((cellsD e xs).map AV.d).length := by
    rw [List.length_map, cellsD_len h]
    rw [h.len] at hjz
    have := Nat.mul_le_mul_right z (show i + 1 ≤ xs.length from hi)
    rw [Nat.succ_mul] at this; omega
  have hd : ((cellsD e xs).map AV.d ++ X).drop (i * z + j) = .d c :: (r.map .d ++ (R.map .d ++ X)) := by
    rw [List.drop_append_of_le_length hle, ← List.map_drop, ← List.drop_drop, hR, List.drop_append_of_le_length hjz, hc]
    simp
  simp only [loadA, hl, hd, cond_false]
end
end
section
variable {P : Program} {aops os : List AOper} {draw : Bool} {N k c : Nat} {l : List (Nat × AV)} {H H' : AHeap} {A : List Tk} {Q : AAct → AHeap → Nat → Prop}
variable {gd : Option (Nat × Bool)} {af : List Nat} {t : Nat}
variable {α : Type} [Inhabited α] {e : α → D} {z : Nat} {g : Bool} {xs ys : List α} {l0 i j : Nat} {x y : Arg}
theorem RegV.ldPR {cc : D} {r : List D} (hz : Nat.blt 0 z = true) (hg : gOn gd (us l ⟨some t, .load x 1 false, gd, af⟩) = some true) (hx : evA (us l ⟨some t, .load x 1 false, gd, af⟩) x = some (.ptr l0 (i * z + j))) (he : EncOK e z g) (hl : lkH H l0 = some (rowO e xs)) (hi : i < xs.length)
    (hcc : (e (xs.getD i default)).cells.drop j = cc :: r) (hd : Nat.blt t N = true)
    (hH : appK [(l0, rowO e xs)] (restK [(l0, rowO e xs)] [(l0, rowO e xs)] H) = H') (hn : newOK c [(l0, rowO e xs)] [(l0, rowO e xs)] = true) (hc : topK c [(l0, rowO e xs)] = c)
    (hn' : RegV P aops draw N (k + 1) os c ((t, .d cc) :: l) H' (⟨[l0, l0], true⟩ :: A) Q) : RegV P aops draw N k (⟨some t, .load x 1 false, gd, af⟩ :: os) c l H A Q :=
  have h0 : AOpT P (.load x 1 false) (us l ⟨some t, .load x 1 false, gd, af⟩) [(l0, rowO e xs)] (.d cc) [(l0, rowO e xs)] :=
    AOpT.rowP (cells_ne he (Nat.le_of_ble_eq_true hz) hi) fun X =>
      evOp_ok (own := false) (nl := 0) (H := [(l0, .cells ((cellsD e xs).map .d ++ X))]) (q := ⟨_, _, _, True⟩) (by simp only [evOp, hx, Option.bind_some]; exact load_partX he lk1 hi hcc) trivial
  RegV.up (fun _ h' => RegU.op hg h0 hd (fun y hy => by cases List.mem_singleton.1 hy; exact lkH_mem hl) hn rfl (fun _ => rfl) rfl hH hc h') hn'
theorem RegV.stPR {v : α} {w : AV} {cc : D} (hz : Nat.blt 0 z = true) (hg : gOn gd (us l ⟨none, .store x y 1, gd, af⟩) = some true) (hx : evA (us l ⟨none, .store x y 1, gd, af⟩) x = some (.ptr l0 (i * z + j))) (hy : evA (us l ⟨none, .store x y 1, gd, af⟩) y = some w) (hw : w.scalar = true) (hw' : cellsAV w = some [w]) (hs : Sub w (.d cc))
    (hv : upd ((e (xs.getD i default)).cells.map .d) j [.d cc] = (e v).cells.map .d) (hj : Nat.blt j z = true)
    (he : EncOK e z g) (hl : lkH H l0 = some (rowO e xs)) (hi : i < xs.length) (hn : newOK c [(l0, rowO e xs)] [(l0, rowO e (xs.set i v))] = true)
    (hH : appK [(l0, rowO e (xs.set i v))] (restK [(l0, rowO e xs)] [(l0, rowO e (xs.set i v))] H) = H') (hc : topK c [(l0, rowO e (xs.set i v))] = c)
    (hn' : RegV P aops draw N (k + 1) os c l H' (⟨[l0, l0], false⟩ :: A) Q) : RegV P aops draw N k (⟨none, .store x y 1, gd, af⟩ :: os) c l H A Q := by
  have hj' : j < z := Nat.le_of_ble_eq_true hj
  rw [← rd_get hi] at hv
  have hle : i * z + j + 1 ≤ ((cellsD e xs).map AV.d).length := by
    rw [List.length_map, cellsD_len he]
    have := Nat.mul_le_mul_right z (show i + 1 ≤ xs.length from hi)
    rw [Nat.succ_mul] at this; omega
  have h0 : AOpT P (.store x y 1) (us l ⟨none, .store x y 1, gd, af⟩) [(l0, rowO e xs)] .any [(l0, rowO e (xs.set i v))] := by
    refine AOpT.rowP (cells_ne he (by omega) hi) fun X => ?_
    have hu := upd_elem he v j [AV.d cc] xs i hi (by simp; omega) hv
    have hu2 : upd ((cellsD e xs).map .d ++ X) (i * z + j) [AV.d cc] = (cellsD e (xs.set i v)).map .d ++ X := by
      rw [upd_mid' _ _ _ _ (by simpa using hle), hu]
    have h1 : AOpT P (.store x y 1) (us l ⟨none, .store x y 1, gd, af⟩) [(l0, .cells ((cellsD e xs).map .d ++ X))] .any [(l0, .cells (upd ((cellsD e xs).map .d ++ X) (i * z + j) [w]))] :=
      evOp_ok (own := false) (nl := 0) (H := [(l0, .cells ((cellsD e xs).map .d ++ X))]) (q := ⟨_, _, _, [w].length = 1 ∧ i * z + j + 1 ≤ ((cellsD e xs).map AV.d ++ X).length ∧ [w].all AV.scalar = true⟩)
        (by simp only [evOp, hx, hy, Option.bind_some, hw', lk1]) ⟨rfl, by rw [List.length_append]; omega, by simp [hw]⟩
    rw [← hu2]
    exact h1.subO1 (.cells (upd_sub hs _ _))
  exact RegV.up (fun _ h' => RegU.op hg h0 rfl (fun y hy => by cases List.mem_singleton.1 hy; exact lkH_mem hl) hn rfl (q := false) (fun h => by cases h) rfl hH hc h') hn'
end
end Go.Proofs.Abs
end
