/- Rows and arrays of one's own, with typed elements. -/
import Derived.Test.YtgimibhacllcpaaAbs35
namespace Go.Proofs.Abs
open Go
set_option linter.unusedVariables false
set_option linter.unusedSectionVars false

/-- how an element is said -/
structure EncOK {α : Type} (e : α → D) (z : Nat) (g : Bool) : Prop where
  len : ∀ a, (e a).cells.length = z
  sc : ∀ a, ∀ c ∈ (e a).cells, c.isAgg = false
  ag : ∀ a, (e a).isAgg = g
abbrev cellsD {α : Type} (e : α → D) (xs : List α) : List D := flat (xs.map e)
abbrev cellsO {α : Type} (e : α → D) (xs : List α) : AObj := .rowD (cellsD e xs)
abbrev cellsC {α : Type} (e : α → D) (xs : List α) : AObj := .cells ((cellsD e xs).map .d)

/-! ### objects that say the same -/
def EqO (p q : AObj) : Prop := (∀ S i w b, ObjRel S i w b p ↔ ObjRel S i w b q) ∧ (p.nil0 ↔ q.nil0)
inductive EqH : AHeap → AHeap → Prop
  | nil : EqH [] []
  | cons {l p q r s} (h : EqO p q) (hr : EqH r s) : EqH ((l, p) :: r) ((l, q) :: s)
theorem EqO.refl (p : AObj) : EqO p p := ⟨fun _ _ _ _ => Iff.rfl, Iff.rfl⟩
theorem EqO.symm {p q : AObj} (h : EqO p q) : EqO q p := ⟨fun S i w b => (h.1 S i w b).symm, h.2.symm⟩
theorem EqO.row {α : Type} {e : α → D} {xs : List α} : EqO (cellsC e xs) (cellsO e xs) := ⟨fun _ _ _ _ => Iff.rfl, Iff.rfl⟩
theorem EqH.symm : ∀ {H G : AHeap}, EqH H G → EqH G H
  | _, _, .nil => .nil
  | _, _, .cons h hr => .cons h.symm hr.symm
theorem EqH.keys : ∀ {H G : AHeap}, EqH H G → H.keys = G.keys
  | _, _, .nil => rfl
  | _, _, .cons h hr => congrArg (List.cons _) hr.keys
theorem EqH.mem : ∀ {H G : AHeap}, EqH H G → ∀ {l q}, (l, q) ∈ G → ∃ p, (l, p) ∈ H ∧ EqO p q
  | _, _, .cons h hr, l, q, hm => by
    rcases List.mem_cons.1 hm with hm | hm
    · cases hm; exact ⟨_, List.mem_cons_self, h⟩
    · obtain ⟨p, h1, h2⟩ := hr.mem hm
      exact ⟨p, List.mem_cons_of_mem _ h1, h2⟩
theorem HeapRel.eqH {S : Seal} {i : Emb} {H G : AHeap} {w : World} (h : HeapRel S i H w) (he : EqH H G) : HeapRel S i G w := by
  refine ⟨h.cell, h.size, fun l o hm => ?_, fun l o l' o' b x y hl hl' => ?_, h.dom⟩
  · obtain ⟨p, h1, h2⟩ := he.mem hm
    exact (h.obj l p h1).imp (fun ⟨b, hb, hr⟩ => ⟨b, hb, (h2.1 _ _ _ _).1 hr⟩) fun ⟨a, b⟩ => ⟨a, h2.2.1 b⟩
  · obtain ⟨p, h1, _⟩ := he.mem x
    obtain ⟨p', h1', _⟩ := he.mem y
    exact h.inj _ _ _ _ b h1 h1' hl hl'
theorem blk_eqH {i : Emb} {H G : AHeap} (he : EqH H G) {b : Nat} (h : blk i G b) : blk i H b := by
  obtain ⟨l, o, hm, hb⟩ := h
  obtain ⟨p, h1, _⟩ := he.mem hm
  exact ⟨l, p, h1, hb⟩
theorem Post.eqH {S : Seal} {i : Emb} {H H' G G' : AHeap} {w w' : World} {r : AV} {v : Value} (h : Post S i H w r H' v w') (he : EqH H G) (he' : EqH H' G') : Post S i G w r G' v w' := by
  obtain ⟨S', i', hv, hh, hle, t, hn⟩ := h
  refine ⟨S', i', hv, hh.eqH he', hle, ⟨t.up, t.grow, fun b hb hx => t.old b hb fun h => hx (blk_eqH he.symm h), fun a v h => (t.newSeal a v h).imp id (Or.imp (blk_eqH he.symm) id), fun l b h => (t.newEmb l b h).imp id (Or.imp (blk_eqH he.symm) id),
    fun b h => (t.sub b (blk_eqH he' h)).imp (blk_eqH he.symm) id, t.os, t.out, t.tape⟩, fun l b hb => ?_⟩
  rw [← he.keys, ← he'.keys]
  exact hn l b hb
theorem AOpT.eqH {P : Program} {ao : AOp} {args : List (Nat × AV)} {H H' G G' : AHeap} {r : AV} (h : AOpT P ao args H r H') (he : EqH H G) (he' : EqH H' G') : AOpT P ao args G r G' :=
  ⟨h.1, fun o ho => ⟨(h.2 o ho).1, fun S i w ρ h1 h2 h3 => ((h.2 o ho).2 S i w ρ h1 (h2.eqH he.symm) (by rw [he.keys, he'.keys]; exact h3)).mono fun v w hp => hp.eqH he he'⟩⟩
theorem lk1 {l : Nat} {o : AObj} : lkH [(l, o)] l = some o := by simp [lkH]

section
variable {α : Type} {e : α → D} {z : Nat} {g : Bool}
theorem cellsD_cons (x : α) (xs : List α) : cellsD e (x :: xs) = (e x).cells ++ cellsD e xs := by simp [flat]
theorem cellsD_app (xs ys : List α) : cellsD e (xs ++ ys) = cellsD e xs ++ cellsD e ys := by simp [flat]
theorem cellsD_len (h : EncOK e z g) (xs : List α) : (cellsD e xs).length = xs.length * z := by
  have := flat_len (l := xs.map e) (z := z) (fun d hd => by obtain ⟨a, _, rfl⟩ := List.mem_map.1 hd; exact h.len a)
  simpa using this
theorem cellsD_sc (h : EncOK e z g) (xs : List α) : ∀ c ∈ cellsD e xs, c.isAgg = false := by
  intro c hc
  simp only [flat, List.mem_flatMap, List.mem_map] at hc
  obtain ⟨d, ⟨a, _, rfl⟩, hc⟩ := hc
  exact h.sc a c hc
theorem cellsD_at (h : EncOK e z g) : ∀ (xs : List α) (i : Nat) (hi : i < xs.length), ∃ R, (cellsD e xs).drop (i * z) = (e xs[i]).cells ++ R
  | [], i, hi => by simp at hi
  | x :: xs, 0, hi => ⟨cellsD e xs, by simp [cellsD_cons]⟩
  | x :: xs, i + 1, hi => by
    obtain ⟨R, hR⟩ := cellsD_at h xs i (by simpa using hi)
    refine ⟨R, ?_⟩
    rw [cellsD_cons, Nat.succ_mul, Nat.add_comm, ← List.drop_drop, List.drop_left' (h.len x)]
    simpa using hR
theorem upd_nil (L : List AV) (n : Nat) : upd L n [] = L := by cases L <;> cases n <;> simp [upd]
theorem upd_pre : ∀ (A B cs : List AV) (n : Nat), upd (A ++ B) (A.length + n) cs = A ++ upd B n cs
  | [], B, cs, n => by simp
  | a :: A, B, cs, n => by
    cases cs with
    | nil => rw [upd_nil, upd_nil]
    | cons c cs =>
      have := upd_pre A B (c :: cs) n
      rw [List.length_cons, List.cons_append, show A.length + 1 + n = (A.length + n) + 1 by omega]
      simp only [upd]
      rw [this]; rfl
theorem upd_in : ∀ (cs A B : List AV), cs.length = A.length → upd (A ++ B) 0 cs = cs ++ B
  | [], [], B, h => by cases B <;> simp [upd]
  | c :: cs, a :: A, B, h => by
    simp only [List.cons_append, upd]
    rw [upd_in cs A B (by simpa using h)]
theorem upd_mid' : ∀ (cs A B : List AV) (j : Nat), j + cs.length ≤ A.length → upd (A ++ B) j cs = upd A j cs ++ B
  | [], A, B, j, h => by rw [upd_nil, upd_nil]
  | c :: cs, a :: A, B, 0, h => by
    simp only [List.cons_append, upd]
    rw [upd_mid' cs A B 0 (by simp at h ⊢; omega)]
  | c :: cs, a :: A, B, j + 1, h => by
    simp only [List.cons_append, upd]
    rw [upd_mid' (c :: cs) A B j (by simp at h ⊢; omega)]
  | c :: cs, [], B, j, h => by simp at h
/-- an element is written, whole or in part -/
theorem upd_elem (h : EncOK e z g) (y : α) (j : Nat) (cs : List AV) : ∀ (xs : List α) (i : Nat) (hi : i < xs.length), j + cs.length ≤ z → upd ((e xs[i]).cells.map .d) j cs = (e y).cells.map .d →
    upd ((cellsD e xs).map .d) (i * z + j) cs = (cellsD e (xs.set i y)).map .d
  | [], i, hi, _, _ => by simp at hi
  | x :: xs, 0, hi, hj, hu => by
    rw [cellsD_cons, List.map_append, Nat.zero_mul, Nat.zero_add, upd_mid' _ _ _ _ (by simpa [h.len] using hj)]
    simp only [List.getElem_cons_zero] at hu
    rw [hu, List.set_cons_zero, cellsD_cons, List.map_append]
  | x :: xs, i + 1, hi, hj, hu => by
    have ih := upd_elem h y j cs xs i (by simpa using hi) hj (by simpa using hu)
    have hl : ((e x).cells.map AV.d).length = z := by simp [h.len]
    rw [cellsD_cons, List.map_append, show (i + 1) * z + j = ((e x).cells.map AV.d).length + (i * z + j) by rw [hl, Nat.succ_mul]; omega, upd_pre, ih, List.set_cons_succ, cellsD_cons, List.map_append]
theorem toDs_d : ∀ {l : List D}, (∀ c ∈ l, c.isAgg = false) → toDs (l.map .d) = some l
  | [], _ => rfl
  | c :: l, h => by
    have h1 := h c List.mem_cons_self
    have h2 := toDs_d (l := l) fun x hx => h x (List.mem_cons_of_mem _ hx)
    simp only [List.map_cons, toDs, toD, h1, cond_false, h2]
theorem mkAgg_d {l : List D} (h : ∀ c ∈ l, c.isAgg = false) : mkAgg (l.map .d) = .d (.agg l) := by simp only [mkAgg, toDs_d h]
theorem agg_cells {d : D} (h : d.isAgg = true) : d = .agg d.cells := by cases d <;> first | rfl | cases h
theorem one_cells {d : D} (h : d.isAgg = false) : d.cells = [d] := by cases d <;> first | rfl | cases h
theorem scalar_d {l : List D} (h : ∀ c ∈ l, c.isAgg = false) : (l.map AV.d).all AV.scalar = true := by
  rw [List.all_eq_true]
  intro x hx
  obtain ⟨c, hc, rfl⟩ := List.mem_map.1 hx
  simp [AV.scalar, h c hc]
theorem rd_get [Inhabited α] {xs : List α} {i : Nat} (h : i < xs.length) : xs[i] = xs.getD i default := by simp [h]

/-- an element is read -/
theorem load_elem [Inhabited α] {H : AHeap} {l0 i : Nat} {xs : List α} (h : EncOK e z g) (hl : lkH H l0 = some (cellsC e xs)) (hi : i < xs.length) :
    ∃ s : Prop, s ∧ loadA H (.ptr l0 (i * z)) z g = some ⟨.d (e (xs.getD i default)), [(l0, cellsC e xs)], [(l0, cellsC e xs)], s⟩ := by
  obtain ⟨R, hR⟩ := cellsD_at h xs i hi
  have hz := h.len xs[i]
  have hd : ((cellsD e xs).map AV.d).drop (i * z) = (e xs[i]).cells.map .d ++ R.map .d := by rw [← List.map_drop, hR, List.map_append]
  have hle : i * z + z ≤ ((cellsD e xs).map AV.d).length := by
    rw [List.length_map, cellsD_len h]
    have := Nat.mul_le_mul_right z (show i + 1 ≤ xs.length from hi)
    rw [Nat.succ_mul] at this; exact this
  simp only [loadA, hl, hd]
  have hag := h.ag xs[i]
  cases g with
  | true =>
    refine ⟨_, hle, ?_⟩
    rw [cond_true, List.take_append_of_le_length (by simp [hz]), List.take_of_length_le (by simp [hz]), mkAgg_d (h.sc _), ← agg_cells hag, rd_get hi]
  | false =>
    refine ⟨True, trivial, ?_⟩
    rw [cond_false, one_cells hag, rd_get hi]
    rfl
/-- a part of an element -/
theorem load_part [Inhabited α] {H : AHeap} {l0 i j : Nat} {xs : List α} {c : D} {r : List D} (h : EncOK e z g) (hl : lkH H l0 = some (cellsC e xs)) (hi : i < xs.length) (hc : (e (xs.getD i default)).cells.drop j = c :: r) :
    loadA H (.ptr l0 (i * z + j)) 1 false = some ⟨.d c, [(l0, cellsC e xs)], [(l0, cellsC e xs)], True⟩ := by
  obtain ⟨R, hR⟩ := cellsD_at h xs i hi
  rw [← rd_get hi] at hc
  have hjz : j ≤ (e xs[i]).cells.length := by
    rcases Nat.lt_or_ge (e xs[i]).cells.length j with h | h
    · rw [List.drop_of_length_le (by omega)] at hc; cases hc
    · exact h
  have hd : ((cellsD e xs).map AV.d).drop (i * z + j) = .d c :: (r.map .d ++ R.map .d) := by
    rw [← List.map_drop, ← List.drop_drop, hR, List.drop_append_of_le_length hjz, hc]
    simp
  simp only [loadA, hl, hd, cond_false]
end

section
variable {P : Program} {aops os : List AOper} {draw : Bool} {N k c : Nat} {l : List (Nat × AV)} {H H' : AHeap} {A : List Tk} {Q : AAct → AHeap → Nat → Prop}
variable {gd : Option (Nat × Bool)} {af : List Nat} {t : Nat}
variable {α : Type} [Inhabited α] {e : α → D} {z : Nat} {g : Bool} {xs ys : List α} {l0 i j o len cap : Nat} {x y : Arg} {n m : Int} {kd : IntKind}

theorem RegV.ldS (hg : gOn gd (us l ⟨some t, .load x z g, gd, af⟩) = some true) (hx : evA (us l ⟨some t, .load x z g, gd, af⟩) x = some (.ptr l0 (i * z))) (he : EncOK e z g) (hl : lkH H l0 = some (cellsO e xs)) (hi : i < xs.length) (hd : Nat.blt t N = true)
    (hH : appK [(l0, cellsO e xs)] (restK [(l0, cellsO e xs)] [(l0, cellsO e xs)] H) = H') (hn : newOK c [(l0, cellsO e xs)] [(l0, cellsO e xs)] = true) (hc : topK c [(l0, cellsO e xs)] = c)
    (hn' : RegV P aops draw N (k + 1) os c ((t, .d (e (xs.getD i default))) :: l) H' (⟨[l0, l0], true⟩ :: A) Q) : RegV P aops draw N k (⟨some t, .load x z g, gd, af⟩ :: os) c l H A Q := by
  obtain ⟨s, hs, hld⟩ := load_elem (H := [(l0, cellsC e xs)]) he lk1 hi
  have h0 : AOpT P (.load x z g) (us l ⟨some t, .load x z g, gd, af⟩) [(l0, cellsC e xs)] (.d (e (xs.getD i default))) [(l0, cellsC e xs)] :=
    evOp_ok (own := false) (nl := 0) (H := [(l0, cellsC e xs)]) (q := ⟨_, _, _, s⟩) (by simp only [evOp, hx, Option.bind_some]; exact hld) hs
  exact RegV.up (fun _ h' => RegU.op hg (h0.eqH (.cons .row .nil) (.cons .row .nil)) hd (fun y hy => by cases List.mem_singleton.1 hy; exact lkH_mem hl) hn rfl (fun _ => rfl) rfl hH hc h') hn'
theorem RegV.ldP {cc : D} {r : List D} (hg : gOn gd (us l ⟨some t, .load x 1 false, gd, af⟩) = some true) (hx : evA (us l ⟨some t, .load x 1 false, gd, af⟩) x = some (.ptr l0 (i * z + j))) (he : EncOK e z g) (hl : lkH H l0 = some (cellsO e xs)) (hi : i < xs.length)
    (hcc : (e (xs.getD i default)).cells.drop j = cc :: r) (hd : Nat.blt t N = true)
    (hH : appK [(l0, cellsO e xs)] (restK [(l0, cellsO e xs)] [(l0, cellsO e xs)] H) = H') (hn : newOK c [(l0, cellsO e xs)] [(l0, cellsO e xs)] = true) (hc : topK c [(l0, cellsO e xs)] = c)
    (hn' : RegV P aops draw N (k + 1) os c ((t, .d cc) :: l) H' (⟨[l0, l0], true⟩ :: A) Q) : RegV P aops draw N k (⟨some t, .load x 1 false, gd, af⟩ :: os) c l H A Q :=
  have h0 : AOpT P (.load x 1 false) (us l ⟨some t, .load x 1 false, gd, af⟩) [(l0, cellsC e xs)] (.d cc) [(l0, cellsC e xs)] :=
    evOp_ok (own := false) (nl := 0) (H := [(l0, cellsC e xs)]) (q := ⟨_, _, _, True⟩) (by simp only [evOp, hx, Option.bind_some]; exact load_part he lk1 hi hcc) trivial
  RegV.up (fun _ h' => RegU.op hg (h0.eqH (.cons .row .nil) (.cons .row .nil)) hd (fun y hy => by cases List.mem_singleton.1 hy; exact lkH_mem hl) hn rfl (fun _ => rfl) rfl hH hc h') hn'
/-- an element is written -/
theorem RegV.stS {v : α} {w : AV} (hg : gOn gd (us l ⟨none, .store x y z, gd, af⟩) = some true) (hx : evA (us l ⟨none, .store x y z, gd, af⟩) x = some (.ptr l0 (i * z))) (hy : evA (us l ⟨none, .store x y z, gd, af⟩) y = some w) (hw : cellsAV w = some ((e v).cells.map .d))
    (he : EncOK e z g) (hl : lkH H l0 = some (cellsO e xs)) (hi : i < xs.length) (hn : newOK c [(l0, cellsO e xs)] [(l0, cellsO e (xs.set i v))] = true)
    (hH : appK [(l0, cellsO e (xs.set i v))] (restK [(l0, cellsO e xs)] [(l0, cellsO e (xs.set i v))] H) = H') (hc : topK c [(l0, cellsO e (xs.set i v))] = c)
    (hn' : RegV P aops draw N (k + 1) os c l H' (⟨[l0, l0], false⟩ :: A) Q) : RegV P aops draw N k (⟨none, .store x y z, gd, af⟩ :: os) c l H A Q := by
  have hlen : ((e v).cells.map AV.d).length = z := by simp [he.len]
  have hu := upd_elem he v 0 ((e v).cells.map .d) xs i hi (by simp [he.len]) (by
    have := upd_in ((e v).cells.map .d) ((e xs[i]).cells.map .d) [] (by simp [he.len])
    simpa using this)
  have hle : i * z + z ≤ ((cellsD e xs).map AV.d).length := by
    rw [List.length_map, cellsD_len he]
    have := Nat.mul_le_mul_right z (show i + 1 ≤ xs.length from hi)
    rw [Nat.succ_mul] at this; exact this
  rw [Nat.add_zero] at hu
  have h0 : AOpT P (.store x y z) (us l ⟨none, .store x y z, gd, af⟩) [(l0, cellsC e xs)] .any [(l0, cellsC e (xs.set i v))] :=
    evOp_ok (own := false) (nl := 0) (H := [(l0, cellsC e xs)]) (q := ⟨_, _, _, ((e v).cells.map AV.d).length = z ∧ i * z + z ≤ ((cellsD e xs).map AV.d).length ∧ ((e v).cells.map AV.d).all AV.scalar = true⟩)
      (by simp only [evOp, hx, hy, Option.bind_some, hw, lk1]; rw [hu]) ⟨hlen, hle, scalar_d (he.sc v)⟩
  exact RegV.up (fun _ h' => RegU.op hg (h0.eqH (.cons .row .nil) (.cons .row .nil)) rfl (fun y hy => by cases List.mem_singleton.1 hy; exact lkH_mem hl) hn rfl (q := false) (fun h => by cases h) rfl hH hc h') hn'
/-- a part of an element is written -/
theorem RegV.stP {v : α} {w : AV} (hg : gOn gd (us l ⟨none, .store x y 1, gd, af⟩) = some true) (hx : evA (us l ⟨none, .store x y 1, gd, af⟩) x = some (.ptr l0 (i * z + j))) (hy : evA (us l ⟨none, .store x y 1, gd, af⟩) y = some w) (hw : w.scalar = true) (hw' : cellsAV w = some [w])
    (hv : upd ((e (xs.getD i default)).cells.map .d) j [w] = (e v).cells.map .d) (hj : Nat.blt j z = true)
    (he : EncOK e z g) (hl : lkH H l0 = some (cellsO e xs)) (hi : i < xs.length) (hn : newOK c [(l0, cellsO e xs)] [(l0, cellsO e (xs.set i v))] = true)
    (hH : appK [(l0, cellsO e (xs.set i v))] (restK [(l0, cellsO e xs)] [(l0, cellsO e (xs.set i v))] H) = H') (hc : topK c [(l0, cellsO e (xs.set i v))] = c)
    (hn' : RegV P aops draw N (k + 1) os c l H' (⟨[l0, l0], false⟩ :: A) Q) : RegV P aops draw N k (⟨none, .store x y 1, gd, af⟩ :: os) c l H A Q := by
  have hj' : j < z := Nat.le_of_ble_eq_true hj
  rw [← rd_get hi] at hv
  have hu := upd_elem he v j [w] xs i hi (by simp; omega) hv
  have hle : i * z + j + 1 ≤ ((cellsD e xs).map AV.d).length := by
    rw [List.length_map, cellsD_len he]
    have := Nat.mul_le_mul_right z (show i + 1 ≤ xs.length from hi)
    rw [Nat.succ_mul] at this; omega
  have h0 : AOpT P (.store x y 1) (us l ⟨none, .store x y 1, gd, af⟩) [(l0, cellsC e xs)] .any [(l0, cellsC e (xs.set i v))] :=
    evOp_ok (own := false) (nl := 0) (H := [(l0, cellsC e xs)]) (q := ⟨_, _, _, [w].length = 1 ∧ i * z + j + 1 ≤ ((cellsD e xs).map AV.d).length ∧ [w].all AV.scalar = true⟩)
      (by simp only [evOp, hx, hy, Option.bind_some, hw', lk1]; rw [hu]) ⟨rfl, hle, by simp [hw]⟩
  exact RegV.up (fun _ h' => RegU.op hg (h0.eqH (.cons .row .nil) (.cons .row .nil)) rfl (fun y hy => by cases List.mem_singleton.1 hy; exact lkH_mem hl) hn rfl (q := false) (fun h => by cases h) rfl hH hc h') hn'
/-- an element's place -/
theorem RegV.iaS (hg : gOn gd (us l ⟨some t, .iaddr x y z, gd, af⟩) = some true) (hx : evA (us l ⟨some t, .iaddr x y z, gd, af⟩) x = some (.sl l0 (o * z) len cap z)) (hy : evA (us l ⟨some t, .iaddr x y z, gd, af⟩) y = some (.d (.int kd n))) (hb : 0 ≤ n ∧ n < (len : Int)) (hd : Nat.blt t N = true)
    (hn : RegV P aops draw N (k + 1) os c ((t, .ptr l0 ((o + n.toNat) * z)) :: l) H (⟨[], true⟩ :: A) Q) : RegV P aops draw N k (⟨some t, .iaddr x y z, gd, af⟩ :: os) c l H A Q := by
  refine RegV.p1 (v := .ptr l0 (o * z + n.toNat * z)) (s := 0 ≤ n ∧ n < (len : Int)) hg ?_ hb hd (by rw [Nat.add_mul]) hn
  simp only [evOp, hx, hy, Nat.beq_refl, cond_true]; rfl
theorem RegV.iaS0 (hg : gOn gd (us l ⟨some t, .iaddr x y z, gd, af⟩) = some true) (hx : evA (us l ⟨some t, .iaddr x y z, gd, af⟩) x = some (.sl l0 0 len cap z)) (hy : evA (us l ⟨some t, .iaddr x y z, gd, af⟩) y = some (.d (.int kd n))) (hb : 0 ≤ n ∧ n < (len : Int)) (hd : Nat.blt t N = true)
    (hn : RegV P aops draw N (k + 1) os c ((t, .ptr l0 (n.toNat * z)) :: l) H (⟨[], true⟩ :: A) Q) : RegV P aops draw N k (⟨some t, .iaddr x y z, gd, af⟩ :: os) c l H A Q := by
  refine RegV.p1 (v := .ptr l0 (0 + n.toNat * z)) (s := 0 ≤ n ∧ n < (len : Int)) hg ?_ hb hd (by rw [Nat.zero_add]) hn
  simp only [evOp, hx, hy, Nat.beq_refl, cond_true]; rfl
/-- a part of a row of one's own -/
theorem RegV.slS0 {la ha : Option Arg} {lo hi : Int} (hg : gOn gd (us l ⟨some t, .slc x la ha none z, gd, af⟩) = some true) (hx : evA (us l ⟨some t, .slc x la ha none z, gd, af⟩) x = some (.sl l0 0 len cap z)) (hlo : oInt (evA (us l ⟨some t, .slc x la ha none z, gd, af⟩)) 0 la = some lo)
    (hhi : oInt (evA (us l ⟨some t, .slc x la ha none z, gd, af⟩)) (len : Int) ha = some hi) (hb : 0 ≤ lo ∧ lo ≤ hi ∧ hi ≤ (cap : Int) ∧ (lo = 0 ∨ lo < (cap : Int))) (hd : Nat.blt t N = true)
    (hn : RegV P aops draw N (k + 1) os c ((t, .sl l0 (lo.toNat * z) (hi.toNat - lo.toNat) (cap - lo.toNat) z) :: l) H (⟨[], true⟩ :: A) Q) : RegV P aops draw N k (⟨some t, .slc x la ha none z, gd, af⟩ :: os) c l H A Q := by
  refine RegV.p1 (v := .sl l0 (0 + lo.toNat * z) (hi.toNat - lo.toNat) (cap - lo.toNat) z) (s := 0 ≤ lo ∧ lo ≤ hi ∧ hi ≤ (cap : Int) ∧ (lo = 0 ∨ lo < (cap : Int))) hg ?_ hb hd (by rw [Nat.zero_add]) hn
  simp only [evOp, hx, hlo, Nat.beq_refl, cond_true, hhi, Option.bind_some]; rfl
/-- a row's head -/
theorem RegV.slH {ha : Option Arg} {hi : Int} (hg : gOn gd (us l ⟨some t, .slc x none ha none z, gd, af⟩) = some true) (hx : evA (us l ⟨some t, .slc x none ha none z, gd, af⟩) x = some (.sl l0 0 len cap z))
    (hhi : oInt (evA (us l ⟨some t, .slc x none ha none z, gd, af⟩)) (len : Int) ha = some hi) (hb : 0 ≤ hi ∧ hi ≤ (cap : Int)) (hd : Nat.blt t N = true)
    (hn : RegV P aops draw N (k + 1) os c ((t, .sl l0 0 hi.toNat cap z) :: l) H (⟨[], true⟩ :: A) Q) : RegV P aops draw N k (⟨some t, .slc x none ha none z, gd, af⟩ :: os) c l H A Q := by
  refine RegV.slS0 (lo := 0) hg hx rfl hhi ⟨by omega, hb.1, hb.2, .inl rfl⟩ hd ?_
  have e1 : (0 : Int).toNat * z = 0 := by simp
  rw [e1]
  exact hn
/-- a row is made -/
theorem RegV.mkS {kn kc : IntKind} {by' : Nat} {zz : List D} {a0 : α} (hg : gOn gd (us l ⟨some t, .mksl x y z by' zz, gd, af⟩) = some true) (hx : evA (us l ⟨some t, .mksl x y z by' zz, gd, af⟩) x = some (.d (.int kn n))) (hy : evA (us l ⟨some t, .mksl x y z by' zz, gd, af⟩) y = some (.d (.int kc m)))
    (he : EncOK e z g) (hzz : zz.map zAV = (e a0).cells.map .d) (hby : Nat.blt 0 by' = true) (hb : 0 ≤ n ∧ n ≤ m ∧ m * by' ≤ 281474976710656) (hd : Nat.blt t N = true) (hH : restK [] [(c, .tok 0)] H = H)
    (hn : RegV P aops draw N (k + 1) os (c + 1) ((t, .sl c 0 n.toNat m.toNat z) :: l) ((c, cellsO e (List.replicate m.toNat a0)) :: H) (⟨[c], false⟩ :: A) Q) : RegV P aops draw N k (⟨some t, .mksl x y z by' zz, gd, af⟩ :: os) c l H A Q := by
  have hcs : (List.replicate m.toNat (zz.map zAV)).flatten = (cellsD e (List.replicate m.toNat a0)).map .d := by
    rw [hzz]
    generalize m.toNat = q
    induction q with
    | zero => rfl
    | succ q ih => rw [List.replicate_succ, List.flatten_cons, ih, List.replicate_succ, cellsD_cons, List.map_append]
  have hzl : zz.length = z := by
    have := congrArg List.length hzz
    simpa [he.len] using this
  have h0 : AOpT P (.mksl x y z by' zz) (us l ⟨some t, .mksl x y z by' zz, gd, af⟩) [] (.sl c 0 n.toNat m.toNat z) [(c, cellsC e (List.replicate m.toNat a0))] :=
    evOp_ok (own := true) (nl := c) (H := H) (q := ⟨_, _, _, 0 ≤ n ∧ n ≤ m ∧ m * by' ≤ 281474976710656 ∧ 0 < by' ∧ zz.length = z⟩) (by simp only [evOp, hx, hy, cond_true, hcs]) ⟨hb.1, hb.2.1, hb.2.2, Nat.le_of_ble_eq_true hby, hzl⟩
  refine RegV.up (fun _ h' => RegU.op hg (h0.eqH .nil (.cons .row .nil)) hd (fun y hy => by cases hy) ?_ rfl (q := false) (fun h => by cases h) rfl ?_ ?_ h') hn
  · simp [newOK]
  · have : ∀ (H : AHeap) (a b : AObj), restK [] [(c, a)] H = restK [] [(c, b)] H := by
      intro H a b
      induction H with
      | nil => rfl
      | cons p r ih => obtain ⟨l, o⟩ := p; simp only [restK, hasK, ih]
    rw [this H _ (.tok 0), hH]; rfl
  · exact topK_one
/-- to a row of one's own is appended, where there is room -/
theorem RegV.apS {by' : Nat} {zz : List D} (hg : gOn gd (us l ⟨some t, .app x y z by' zz, gd, af⟩) = some true) (hx : evA (us l ⟨some t, .app x y z by' zz, gd, af⟩) x = some (.sl l0 0 len cap z)) (hy : (evA (us l ⟨some t, .app x y z by' zz, gd, af⟩) y).bind toSrc = some (ys.map e))
    (hl : lkH H l0 = some (cellsO e xs)) (he : EncOK e z g) (hzz : zz.length = z) (hby : Nat.blt 0 by' = true) (hb : len + ys.length ≤ cap ∧ cap ≤ xs.length) (hd : Nat.blt t N = true)
    (hn0 : newOK c [(l0, cellsO e xs)] [(l0, cellsO e (xs.take len ++ ys ++ xs.drop (len + ys.length)))] = true)
    (hH : appK [(l0, cellsO e (xs.take len ++ ys ++ xs.drop (len + ys.length)))] (restK [(l0, cellsO e xs)] [(l0, cellsO e (xs.take len ++ ys ++ xs.drop (len + ys.length)))] H) = H') (hc : topK c [(l0, cellsO e (xs.take len ++ ys ++ xs.drop (len + ys.length)))] = c)
    (hn : RegV P aops draw N (k + 1) os c ((t, .sl l0 0 (len + ys.length) cap z) :: l) H' (⟨[l0, l0], false⟩ :: A) Q) : RegV P aops draw N k (⟨some t, .app x y z by' zz, gd, af⟩ :: os) c l H A Q := by
  have hu : upd ((cellsD e xs).map .d) (len * z) ((flat (ys.map e)).map .d) = (cellsD e (xs.take len ++ ys ++ xs.drop (len + ys.length))).map .d := by
    have hs : xs = xs.take len ++ ((xs.drop len).take ys.length ++ xs.drop (len + ys.length)) := by
      rw [← List.drop_drop, List.take_append_drop, List.take_append_drop]
    have h1 : (xs.take len).length = len := by simp; omega
    have h2 : ((xs.drop len).take ys.length).length = ys.length := by simp; omega
    conv => lhs; rw [hs]
    rw [cellsD_app, cellsD_app, List.map_append, List.map_append]
    have h3 : ((cellsD e (xs.take len)).map AV.d).length = len * z := by rw [List.length_map, cellsD_len he, h1]
    rw [show len * z = ((cellsD e (xs.take len)).map AV.d).length + 0 by rw [h3]; rfl, upd_pre, upd_in _ _ _ (by
      show (List.map AV.d (cellsD e ys)).length = _
      rw [List.length_map, List.length_map, cellsD_len he, cellsD_len he, h2])]
    rw [cellsD_app, cellsD_app, List.map_append, List.map_append, List.append_assoc]
  have hcapz : cap * z ≤ ((cellsD e xs).map AV.d).length := by rw [List.length_map, cellsD_len he]; exact Nat.mul_le_mul_right _ hb.2
  have h0 : AOpT P (.app x y z by' zz) (us l ⟨some t, .app x y z by' zz, gd, af⟩) [(l0, cellsC e xs)] (.sl l0 0 (len + (ys.map e).length) cap z) [(l0, cellsC e (xs.take len ++ ys ++ xs.drop (len + ys.length)))] :=
    evOp_ok (own := false) (nl := 0) (H := [(l0, cellsC e xs)]) (q := ⟨_, _, _, zz.length = z ∧ 0 < by' ∧ len + (ys.map e).length ≤ cap ∧ cap * z ≤ ((cellsD e xs).map AV.d).length ∧ ∀ d ∈ ys.map e, d.cells.length = z⟩)
      (by simp only [evOp, hx, hy, Nat.beq_refl, cond_true, lk1]; rw [hu]) ⟨hzz, Nat.le_of_ble_eq_true hby, by simpa using hb.1, hcapz, mapLen he.len⟩
  exact RegV.up (fun _ h' => RegU.op hg (h0.eqH (.cons .row .nil) (.cons .row .nil)) hd (fun y hy => by cases List.mem_singleton.1 hy; exact lkH_mem hl) hn0 rfl (q := false) (fun h => by cases h) (by rw [List.length_map]) hH hc h') hn

/-! ### arrays -/
/-- an array of its own -/
theorem RegV.newA {zz : List D} (hg : gOn gd (us l ⟨some t, .alloc zz, gd, af⟩) = some true) (hzz : zz.map zAV = (cellsD e xs).map .d) (hd : Nat.blt t N = true) (hH : restK [] [(c, .tok 0)] H = H)
    (hn : RegV P aops draw N (k + 1) os (c + 1) ((t, .ptr c 0) :: l) ((c, cellsO e xs) :: H) (⟨[c], false⟩ :: A) Q) : RegV P aops draw N k (⟨some t, .alloc zz, gd, af⟩ :: os) c l H A Q := by
  have h0 : AOpT P (.alloc zz) (us l ⟨some t, .alloc zz, gd, af⟩) [] (.ptr c 0) [(c, cellsC e xs)] := evOp_ok (own := true) (nl := c) (H := H) (q := ⟨_, _, _, True⟩) (by simp only [evOp, hzz]) trivial
  refine RegV.up (fun _ h' => RegU.op hg (h0.eqH .nil (.cons .row .nil)) hd (fun y hy => by cases hy) ?_ rfl (q := false) (fun h => by cases h) rfl ?_ ?_ h') hn
  · simp [newOK]
  · have : ∀ (H : AHeap) (a b : AObj), restK [] [(c, a)] H = restK [] [(c, b)] H := by
      intro H a b
      induction H with
      | nil => rfl
      | cons p r ih => obtain ⟨l, o⟩ := p; simp only [restK, hasK, ih]
    rw [this H _ (.tok 0), hH]; rfl
  · exact topK_one
/-- an array is written whole -/
theorem RegV.stA {q : Nat} (hg : gOn gd (us l ⟨none, .store x y q, gd, af⟩) = some true) (hx : evA (us l ⟨none, .store x y q, gd, af⟩) x = some (.ptr l0 0)) (hy : evA (us l ⟨none, .store x y q, gd, af⟩) y = some (.d (.agg (cellsD e ys))))
    (he : EncOK e z g) (hl : lkH H l0 = some (cellsO e xs)) (hq : xs.length * z = q ∧ ys.length * z = q) (hn : newOK c [(l0, cellsO e xs)] [(l0, cellsO e ys)] = true)
    (hH : appK [(l0, cellsO e ys)] (restK [(l0, cellsO e xs)] [(l0, cellsO e ys)] H) = H') (hc : topK c [(l0, cellsO e ys)] = c)
    (hn' : RegV P aops draw N (k + 1) os c l H' (⟨[l0, l0], false⟩ :: A) Q) : RegV P aops draw N k (⟨none, .store x y q, gd, af⟩ :: os) c l H A Q := by
  have hu : upd ((cellsD e xs).map .d) 0 ((cellsD e ys).map .d) = (cellsD e ys).map .d := by
    have := upd_in ((cellsD e ys).map .d) ((cellsD e xs).map .d) [] (by rw [List.length_map, List.length_map, cellsD_len he, cellsD_len he]; omega)
    simpa using this
  have h0 : AOpT P (.store x y q) (us l ⟨none, .store x y q, gd, af⟩) [(l0, cellsC e xs)] .any [(l0, cellsC e ys)] :=
    evOp_ok (own := false) (nl := 0) (H := [(l0, cellsC e xs)]) (q := ⟨_, _, _, ((cellsD e ys).map AV.d).length = q ∧ 0 + q ≤ ((cellsD e xs).map AV.d).length ∧ ((cellsD e ys).map AV.d).all AV.scalar = true⟩)
      (by simp only [evOp, hx, hy, Option.bind_some, cellsAV, D.cells, lk1]; rw [hu]) ⟨by rw [List.length_map, cellsD_len he]; exact hq.2, by rw [List.length_map, cellsD_len he]; omega, scalar_d (cellsD_sc he ys)⟩
  exact RegV.up (fun _ h' => RegU.op hg (h0.eqH (.cons .row .nil) (.cons .row .nil)) rfl (fun y hy => by cases List.mem_singleton.1 hy; exact lkH_mem hl) hn rfl (q := false) (fun h => by cases h) rfl hH hc h') hn'
/-- an array is read whole -/
theorem load_arr {q : Nat} (he : EncOK e z g) (hl : lkH H l0 = some (cellsC e xs)) (hq : xs.length * z = q) : loadA H (.ptr l0 0) q true = some ⟨.d (.agg (cellsD e xs)), [(l0, cellsC e xs)], [(l0, cellsC e xs)], 0 + q ≤ ((cellsD e xs).map AV.d).length⟩ := by
  simp only [loadA, hl, cond_true, List.drop_zero]
  rw [List.take_of_length_le (by rw [List.length_map, cellsD_len he]; omega), mkAgg_d (cellsD_sc he xs)]
theorem RegV.ldA {q : Nat} (hg : gOn gd (us l ⟨some t, .load x q true, gd, af⟩) = some true) (hx : evA (us l ⟨some t, .load x q true, gd, af⟩) x = some (.ptr l0 0)) (he : EncOK e z g) (hl : lkH H l0 = some (cellsO e xs)) (hq : xs.length * z = q) (hd : Nat.blt t N = true)
    (hH : appK [(l0, cellsO e xs)] (restK [(l0, cellsO e xs)] [(l0, cellsO e xs)] H) = H') (hn : newOK c [(l0, cellsO e xs)] [(l0, cellsO e xs)] = true) (hc : topK c [(l0, cellsO e xs)] = c)
    (hn' : RegV P aops draw N (k + 1) os c ((t, .d (.agg (cellsD e xs))) :: l) H' (⟨[l0, l0], true⟩ :: A) Q) : RegV P aops draw N k (⟨some t, .load x q true, gd, af⟩ :: os) c l H A Q :=
  have h0 : AOpT P (.load x q true) (us l ⟨some t, .load x q true, gd, af⟩) [(l0, cellsC e xs)] (.d (.agg (cellsD e xs))) [(l0, cellsC e xs)] :=
    evOp_ok (own := false) (nl := 0) (H := [(l0, cellsC e xs)]) (q := ⟨_, _, _, 0 + q ≤ ((cellsD e xs).map AV.d).length⟩) (by simp only [evOp, hx, Option.bind_some]; exact load_arr he lk1 hq) (by rw [List.length_map, cellsD_len he]; omega)
  RegV.up (fun _ h' => RegU.op hg (h0.eqH (.cons .row .nil) (.cons .row .nil)) hd (fun y hy => by cases List.mem_singleton.1 hy; exact lkH_mem hl) hn rfl (fun _ => rfl) rfl hH hc h') hn'
end
/-- .. where cells are asked for -/
theorem SubO.rowC {α : Type} {e : α → D} {xs : List α} {s : Nat → Nat} : SubO (cellsO e xs) ((cellsC e xs).ren s) := by
  have : (cellsC e xs).ren s = cellsC e xs := by
    have h : ∀ l : List D, AV.renL s (l.map .d) = l.map .d := fun l => by
      rw [renL_eq, List.map_map]; rfl
    show AObj.cells _ = _
    rw [h]
  rw [this]
  exact ⟨fun _ _ _ _ h => h, fun h => h⟩
theorem ltbC {α : Type} {e : α → D} {xs : List α} {k : Nat} : AObj.ltb k (cellsC e xs) = true := by
  show AV.ltbL k ((cellsD e xs).map AV.d) = true
  induction cellsD e xs with
  | nil => rfl
  | cons d l ih => simp only [List.map_cons, AV.ltbL, AV.ltb, Bool.true_and]; exact ih
end Go.Proofs.Abs
