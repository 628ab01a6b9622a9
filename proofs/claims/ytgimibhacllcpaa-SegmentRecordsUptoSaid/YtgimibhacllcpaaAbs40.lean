/- Rows of one's own whose room is not known: what append and make bring forth. -/
import Derived.Test.YtgimibhacllcpaaAbs39
namespace Go.Proofs.Abs
open Go
set_option linter.unusedVariables false
set_option linter.unusedSectionVars false
section
variable {P : Program}
/-- a slot with such a row -/
theorem AOpT.rowArg {ao : AOp} {A : List (Nat × AV)} {H H' : AHeap} {r : AV} {t l z n : Nat} (ht : lk A t = some (.row l z n)) (h1 : ∀ cap, n ≤ cap → AOpT P ao ((t, .sl l 0 n cap z) :: A) H r H') (h2 : n = 0 → AOpT P ao ((t, .nils) :: A) H r H') : AOpT P ao A H r H' := by
  refine ⟨(h1 n (Nat.le_refl _)).1, fun o ho => ⟨((h1 n (Nat.le_refl _)).2 o ho).1, fun S i w ρ hev hh hf => ?_⟩⟩
  have hv := hev (.tmp t) _ ht
  have key : ∀ x, V S i x (ρ (.tmp t)) → ∀ y a, evL ((t, x) :: A) y = some a → V S i a (ρ y) := by
    intro x hx y a hy
    cases y with
    | tmp u =>
      simp only [evL, lk] at hy
      cases hb : Nat.beq t u with
      | true => rw [hb] at hy; cases hy; cases Nat.eq_of_beq_eq_true hb; exact hx
      | false => rw [hb] at hy; exact hev (.tmp u) a hy
    | const v => exact hev (.const v) a hy
    | func f => exact hev (.func f) a hy
    | global g => cases hy
  generalize hu : ρ (.tmp t) = u at hv
  cases hv with
  | rown => exact ((h2 rfl).2 o ho).2 S i w ρ (key _ (by rw [hu]; exact .nils)) hh hf
  | row h hn hc hl => exact ((h1 _ hl).2 o ho).2 S i w ρ (key _ (by rw [hu]; exact .sl h)) hh hf
/-- such a row's cells -/
theorem AOpT.rowP {ao : AOp} {A : List (Nat × AV)} {r : AV} {l0 : Nat} {ds ds' : List D} (hne : ds ≠ []) (h : ∀ X : List AV, AOpT P ao A [(l0, .cells (ds.map .d ++ X))] r [(l0, .cells (ds'.map .d ++ X))]) : AOpT P ao A [(l0, .rowP ds)] r [(l0, .rowP ds')] := by
  refine ⟨(h []).1, fun o ho => ⟨((h []).2 o ho).1, fun S i w ρ hev hh hf => ?_⟩⟩
  rcases hh.obj _ _ List.mem_cons_self with ⟨b, hb, c, e, hc, hs, hv, hns⟩ | ⟨_, hz⟩
  case inr => exact absurd hz hne
  let X : List AV := List.replicate (c.size - ds.length) .any
  have hlen : (ds.map AV.d ++ X).length = c.size := by simp [X]; omega
  have hh' : HeapRel S i [(l0, .cells (ds.map .d ++ X))] w := by
    refine ⟨hh.cell, hh.size, fun l o hm => ?_, fun l o l' o' b x y _ _ => ?_, hh.dom⟩
    · cases List.mem_singleton.1 hm
      refine .inl ⟨b, hb, c, e, hc, hlen.symm, fun j h1 h2 => ?_, hns⟩
      by_cases hj : j < ds.length
      · rw [List.getElem_append_left (by simpa using hj), List.getElem_map]
        exact .d (hv j hj h2)
      · rw [List.getElem_append_right (by simpa using Nat.le_of_not_lt hj)]
        simp only [X, List.getElem_replicate]
        exact .any
    · cases List.mem_singleton.1 x; cases List.mem_singleton.1 y; rfl
  refine (((h X).2 o ho).2 S i w ρ hev hh' hf).mono fun v w' hp => ?_
  obtain ⟨S', i', p1, p2, p3, p4, p5⟩ := hp
  have hb1 : ∀ {k : Emb} {b : Nat} {p q : AObj}, blk k [(l0, p)] b → blk k [(l0, q)] b := by
    rintro k b p q ⟨l, o, hm, hk⟩
    cases List.mem_singleton.1 hm
    exact ⟨l0, q, List.mem_singleton.2 rfl, hk⟩
  refine ⟨S', i', p1, ⟨p2.cell, p2.size, fun l o hm => ?_, fun l o l' o' b x y _ _ => ?_, p2.dom⟩, p3, ⟨p4.up, p4.grow, fun b hb hx => p4.old b hb fun h => hx (hb1 h), fun a v h => (p4.newSeal a v h).imp id (Or.imp hb1 id), fun l b h => (p4.newEmb l b h).imp id (Or.imp hb1 id),
    fun b h => (p4.sub b (hb1 h)).imp hb1 id, p4.os, p4.out, p4.tape⟩, p5⟩
  · cases List.mem_singleton.1 hm
    rcases p2.obj _ _ List.mem_cons_self with ⟨b', hb', c', e', hc', hs', hv', hns'⟩ | ⟨_, hz⟩
    case inr => exact hz.elim
    refine .inl ⟨b', hb', c', e', hc', by rw [hs']; simp, fun j h1 h2 => ?_, hns'⟩
    have := hv' j (by simp; omega) h2
    rw [List.getElem_append_left (by simpa using h1), List.getElem_map] at this
    exact vD this
  · cases List.mem_singleton.1 x; cases List.mem_singleton.1 y; rfl

abbrev rowO {α : Type} (e : α → D) (xs : List α) : AObj := .rowP (cellsD e xs)
section
variable {α : Type} {e : α → D} {z : Nat} {g : Bool}
theorem load_elemX [Inhabited α] {H : AHeap} {l0 i : Nat} {xs : List α} {X : List AV} (h : EncOK e z g) (hl : lkH H l0 = some (.cells ((cellsD e xs).map .d ++ X))) (hi : i < xs.length) :
    ∃ s : Prop, s ∧ loadA H (.ptr l0 (i * z)) z g = some ⟨.d (e (xs.getD i default)), [(l0, .cells ((cellsD e xs).map .d ++ X))], [(l0, .cells ((cellsD e xs).map .d ++ X))], s⟩ := by
  obtain ⟨R, hR⟩ := cellsD_at h xs i hi
  have hz := h.len xs[i]
  have hlt : i * z + z ≤ ((cellsD e xs).map AV.d).length := by
    rw [List.length_map, cellsD_len h]
    have := Nat.mul_le_mul_right z (show i + 1 ≤ xs.length from hi)
    rw [Nat.succ_mul] at this; exact this
  have hd : ((cellsD e xs).map AV.d ++ X).drop (i * z) = (e xs[i]).cells.map .d ++ (R.map .d ++ X) := by rw [List.drop_append_of_le_length (by omega), ← List.map_drop, hR, List.map_append, List.append_assoc]
  have hle : i * z + z ≤ ((cellsD e xs).map AV.d ++ X).length := by rw [List.length_append]; omega
  simp only [loadA, hl, hd]
  have hag := h.ag xs[i]
  cases g with
  | true =>
    refine ⟨_, hle, ?_⟩
    rw [cond_true, List.take_append_of_le_length (by simp [hz]), List.take_of_length_le (by simp [hz]), mkAgg_d (h.sc _), ← agg_cells hag, rd_get hi]
  | false =>
    refine ⟨True, trivial, ?_⟩
    rw [cond_false, one_cells hag, rd_get hi]
    rfl
theorem upd_elemX (h : EncOK e z g) (y : α) (xs : List α) (X : List AV) (i : Nat) (hi : i < xs.length) : upd ((cellsD e xs).map .d ++ X) (i * z) ((e y).cells.map .d) = (cellsD e (xs.set i y)).map .d ++ X := by
  have hu := upd_elem h y 0 ((e y).cells.map .d) xs i hi (by simp [h.len]) (by
    have := upd_in ((e y).cells.map .d) ((e xs[i]).cells.map .d) [] (by simp [h.len])
    simpa using this)
  rw [Nat.add_zero] at hu
  rw [upd_mid' _ _ _ _ ?_, hu]
  rw [List.length_map, List.length_map, cellsD_len h, h.len]
  have := Nat.mul_le_mul_right z (show i + 1 ≤ xs.length from hi)
  rw [Nat.succ_mul] at this; exact this
end

section
variable {aops os : List AOper} {draw : Bool} {N k c : Nat} {l : List (Nat × AV)} {H H' : AHeap} {A : List Tk} {Q : AAct → AHeap → Nat → Prop}
variable {gd : Option (Nat × Bool)} {af : List Nat} {t u : Nat}
variable {α : Type} [Inhabited α] {e : α → D} {z : Nat} {g : Bool} {xs ys : List α} {l0 i j o len cap : Nat} {x y : Arg} {n m : Int} {kd : IntKind}
theorem cells_ne (he : EncOK e z g) (hz : 0 < z) (hi : i < xs.length) : cellsD e xs ≠ [] := by
  intro h
  have h1 := congrArg List.length h
  rw [cellsD_len he] at h1
  have : 0 < xs.length * z := Nat.mul_pos (by omega) hz
  simp at h1; omega
theorem RegV.ldR (hz : Nat.blt 0 z = true) (hg : gOn gd (us l ⟨some t, .load x z g, gd, af⟩) = some true) (hx : evA (us l ⟨some t, .load x z g, gd, af⟩) x = some (.ptr l0 (i * z))) (he : EncOK e z g) (hl : lkH H l0 = some (rowO e xs)) (hi : i < xs.length) (hd : Nat.blt t N = true)
    (hH : appK [(l0, rowO e xs)] (restK [(l0, rowO e xs)] [(l0, rowO e xs)] H) = H') (hn : newOK c [(l0, rowO e xs)] [(l0, rowO e xs)] = true) (hc : topK c [(l0, rowO e xs)] = c)
    (hn' : RegV P aops draw N (k + 1) os c ((t, .d (e (xs.getD i default))) :: l) H' (⟨[l0, l0], true⟩ :: A) Q) : RegV P aops draw N k (⟨some t, .load x z g, gd, af⟩ :: os) c l H A Q := by
  have h0 : AOpT P (.load x z g) (us l ⟨some t, .load x z g, gd, af⟩) [(l0, rowO e xs)] (.d (e (xs.getD i default))) [(l0, rowO e xs)] := by
    refine AOpT.rowP (cells_ne he (Nat.le_of_ble_eq_true hz) hi) fun X => ?_
    obtain ⟨s, hs, hld⟩ := load_elemX (H := [(l0, .cells ((cellsD e xs).map .d ++ X))]) (X := X) he lk1 hi
    exact evOp_ok (own := false) (nl := 0) (H := [(l0, .cells ((cellsD e xs).map .d ++ X))]) (q := ⟨_, _, _, s⟩) (by simp only [evOp, hx, Option.bind_some]; exact hld) hs
  exact RegV.up (fun _ h' => RegU.op hg h0 hd (fun y hy => by cases List.mem_singleton.1 hy; exact lkH_mem hl) hn rfl (fun _ => rfl) rfl hH hc h') hn'
theorem RegV.stR {v : α} {w : AV} (hz : Nat.blt 0 z = true) (hg : gOn gd (us l ⟨none, .store x y z, gd, af⟩) = some true) (hx : evA (us l ⟨none, .store x y z, gd, af⟩) x = some (.ptr l0 (i * z))) (hy : evA (us l ⟨none, .store x y z, gd, af⟩) y = some w) (hw : cellsAV w = some ((e v).cells.map .d))
    (he : EncOK e z g) (hl : lkH H l0 = some (rowO e xs)) (hi : i < xs.length) (hn : newOK c [(l0, rowO e xs)] [(l0, rowO e (xs.set i v))] = true)
    (hH : appK [(l0, rowO e (xs.set i v))] (restK [(l0, rowO e xs)] [(l0, rowO e (xs.set i v))] H) = H') (hc : topK c [(l0, rowO e (xs.set i v))] = c)
    (hn' : RegV P aops draw N (k + 1) os c l H' (⟨[l0, l0], false⟩ :: A) Q) : RegV P aops draw N k (⟨none, .store x y z, gd, af⟩ :: os) c l H A Q := by
  have h0 : AOpT P (.store x y z) (us l ⟨none, .store x y z, gd, af⟩) [(l0, rowO e xs)] .any [(l0, rowO e (xs.set i v))] := by
    refine AOpT.rowP (cells_ne he (Nat.le_of_ble_eq_true hz) hi) fun X => ?_
    have hlen : ((e v).cells.map AV.d).length = z := by simp [he.len]
    have hle : i * z + z ≤ ((cellsD e xs).map AV.d ++ X).length := by
      rw [List.length_append, List.length_map, cellsD_len he]
      have := Nat.mul_le_mul_right z (show i + 1 ≤ xs.length from hi)
      rw [Nat.succ_mul] at this; omega
    exact evOp_ok (own := false) (nl := 0) (H := [(l0, .cells ((cellsD e xs).map .d ++ X))]) (q := ⟨_, _, _, ((e v).cells.map AV.d).length = z ∧ i * z + z ≤ ((cellsD e xs).map AV.d ++ X).length ∧ ((e v).cells.map AV.d).all AV.scalar = true⟩)
      (by simp only [evOp, hx, hy, Option.bind_some, hw, lk1]; rw [upd_elemX he v xs X i hi]) ⟨hlen, hle, scalar_d (he.sc v)⟩
  exact RegV.up (fun _ h' => RegU.op hg h0 rfl (fun y hy => by cases List.mem_singleton.1 hy; exact lkH_mem hl) hn rfl (q := false) (fun h => by cases h) rfl hH hc h') hn'
theorem evA_head {t : Nat} {v : AV} {l : List (Nat × AV)} : evA ((t, v) :: l) (.t t) = some v := by simp [evA, lk]
/-- an element's place -/
theorem RegV.iaR (hg : gOn gd (us l ⟨some t, .iaddr (.t u) y z, gd, af⟩) = some true) (hx : lk (us l ⟨some t, .iaddr (.t u) y z, gd, af⟩) u = some (.row l0 z len)) (hy : ∀ v, evA ((u, v) :: us l ⟨some t, .iaddr (.t u) y z, gd, af⟩) y = some (.d (.int kd n))) (hb : 0 ≤ n ∧ n < (len : Int)) (hd : Nat.blt t N = true)
    (hn : RegV P aops draw N (k + 1) os c ((t, .ptr l0 (n.toNat * z)) :: l) H (⟨[], true⟩ :: A) Q) : RegV P aops draw N k (⟨some t, .iaddr (.t u) y z, gd, af⟩ :: os) c l H A Q := by
  have h0 : AOpT P (.iaddr (.t u) y z) (us l ⟨some t, .iaddr (.t u) y z, gd, af⟩) [] (.ptr l0 (0 + n.toNat * z)) [] := by
    refine AOpT.rowArg hx (fun cap _ => ?_) (fun h => by omega)
    exact evOp_ok (own := false) (nl := 0) (H := []) (q := ⟨_, _, _, 0 ≤ n ∧ n < (len : Int)⟩) (by simp only [evOp, evA_head, hy, Nat.beq_refl, cond_true]; rfl) hb
  exact RegV.up (fun _ h' => RegU.op (hin := []) (hout := []) hg h0 hd (fun x hx => by cases hx) rfl rfl (fun _ => rfl) (by rw [Nat.zero_add]) (restK_nil H) rfl h') hn
theorem RegV.lenR (hg : gOn gd (us l ⟨some t, .len (.t u), gd, af⟩) = some true) (hx : lk (us l ⟨some t, .len (.t u), gd, af⟩) u = some (.row l0 z len)) (hd : Nat.blt t N = true)
    (hn : RegV P aops draw N (k + 1) os c ((t, .d (.int .i64 (len : Int))) :: l) H (⟨[], true⟩ :: A) Q) : RegV P aops draw N k (⟨some t, .len (.t u), gd, af⟩ :: os) c l H A Q := by
  have h0 : AOpT P (.len (.t u)) (us l ⟨some t, .len (.t u), gd, af⟩) [] (.d (.int .i64 (len : Int))) [] := by
    refine AOpT.rowArg hx (fun cap _ => ?_) (fun h => ?_)
    · exact evOp_ok (own := false) (nl := 0) (H := []) (q := ⟨_, _, _, True⟩) (by simp only [evOp, evA_head]; rfl) trivial
    · subst h
      exact evOp_ok (own := false) (nl := 0) (H := []) (q := ⟨_, _, _, True⟩) (by simp only [evOp, evA_head]; rfl) trivial
  exact RegV.up (fun _ h' => RegU.op (hin := []) (hout := []) hg h0 hd (fun x hx => by cases hx) rfl rfl (fun _ => rfl) rfl (restK_nil H) rfl h') hn
end
theorem compBin_no {op : BinOp} {t : TypeId} {x y a b : Arg} {z by' : Nat} {zz : List D} : (compBin P op t x y = .app a b z by' zz → False) ∧ (compBin P op t x y = .grow a b z by' zz → False) := by
  constructor <;> intro h <;> unfold compBin at h <;> repeat' (first | cases h | split at h)
theorem compConv_no {s d : TypeId} {x a b : Arg} {z by' : Nat} {zz : List D} : (compConv P s d x = .app a b z by' zz → False) ∧ (compConv P s d x = .grow a b z by' zz → False) := by
  constructor <;> intro h <;> unfold compConv at h <;> repeat' (first | cases h | split at h)
theorem compOp_app {op : Op} {a b : Arg} {z by' : Nat} {zz : List D} (h : compOp P op = .app a b z by' zz) : ∃ c, op = .call c ∧ CallK P c (.app a b z by' zz) := by
  cases op with
  | call c =>
    simp only [compOp] at h
    rcases compCall_inv (P := P) (c := c) with hb | hk
    · rw [hb] at h; cases h
    · rw [h] at hk; exact ⟨c, rfl, hk⟩
  | binOp op t x y t' =>
    simp only [compOp] at h
    split at h
    · exact (compBin_no.1 h).elim
    · cases h
  | convert s d x =>
    simp only [compOp] at h
    split at h
    · exact (compConv_no.1 h).elim
    · cases h
  | makeFunc fn first caps =>
    cases fn with
    | func f =>
      simp only [compOp] at h
      repeat' (first | cases h | split at h)
    | _ => cases h
  | _ =>
    simp only [compOp, szK, sbK, aggK] at h
    repeat' (first | cases h | split at h)
theorem compOp_grow {op : Op} {a b : Arg} {z by' : Nat} {zz : List D} (h : compOp P op = .grow a b z by' zz) : ∃ c, op = .call c ∧ CallK P c (.grow a b z by' zz) := by
  cases op with
  | call c =>
    simp only [compOp] at h
    rcases compCall_inv (P := P) (c := c) with hb | hk
    · rw [hb] at h; cases h
    · rw [h] at hk; exact ⟨c, rfl, hk⟩
  | binOp op t x y t' =>
    simp only [compOp] at h
    split at h
    · exact (compBin_no.2 h).elim
    · cases h
  | convert s d x =>
    simp only [compOp] at h
    split at h
    · exact (compConv_no.2 h).elim
    · cases h
  | makeFunc fn first caps =>
    cases fn with
    | func f =>
      simp only [compOp] at h
      repeat' (first | cases h | split at h)
    | _ => cases h
  | _ =>
    simp only [compOp, szK, sbK, aggK] at h
    repeat' (first | cases h | split at h)

/-- a new row of one's own, its room not known -/
theorem post_row {S : Seal} {i : Emb} {w w' : World} {c : Array Value} {e : TypeId} {nl z n cap : Nat} {ds : List D} (hh : HeapRel S i [] w) (hn : NewBlk w w' c e (0, 0)) (hf : i nl = none) (hds : ds.length ≤ c.size)
    (hv : ∀ j (h1 : j < ds.length) (h2 : j < c.size), DV S ds[j] c[j]) (hcap : cap * z ≤ c.size) (hnc : n ≤ cap) : Post S i [] w (.row nl z n) [(nl, .rowP ds)] (.slice (some ⟨w.heap.size, 0, none⟩) n cap) w' := by
  have hi : i.set nl w.heap.size nl = some w.heap.size := by simp [Emb.set]
  obtain ⟨S', i', p1, p2, p3, p4, p5⟩ := post_tok (k := 0) (nl := nl) (r := .row nl z n) (v := .slice (some ⟨w.heap.size, 0, none⟩) n cap) hh hn hf (.row hi (m := c.size) (by simp [Seal.add]) hcap hnc)
  have hb0 : i' nl = some w.heap.size := by cases p1 with | row h _ _ _ => exact h
  have hle : S.le S' := p4.up
  refine ⟨S', i', p1, ⟨p2.cell, p2.size, fun l o hm => ?_, fun l o l' o' b x y _ _ => ?_, p2.dom⟩, p3, ⟨p4.up, p4.grow, p4.old, p4.newSeal, p4.newEmb, fun b ⟨l, o, hm, hb⟩ => ?_, p4.os, p4.out, p4.tape⟩, p5⟩
  · cases List.mem_singleton.1 hm
    rcases p2.obj nl (.tok 0) List.mem_cons_self with ⟨b', hb', c', e', hc', hns⟩ | ⟨h, _⟩
    case inr => rw [hb0] at h; cases h
    rw [hb0] at hb'; cases hb'
    have := hn.new
    rw [hc'] at this
    cases this
    exact .inl ⟨_, hb0, c, e, hc', hds, fun j h1 h2 => (hv j h1 h2).mono hle, fun a ha => hns a ha (Nat.zero_le _)⟩
  · cases List.mem_singleton.1 x; cases List.mem_singleton.1 y; rfl
  · cases List.mem_singleton.1 hm
    exact p4.sub b ⟨nl, .tok 0, List.mem_singleton.2 rfl, hb⟩
theorem post_rowNil {S : Seal} {i : Emb} {w : World} {nl z : Nat} (hh : HeapRel S i [] w) (hf : i nl = none) : Post S i [] w (.row nl z 0) [(nl, .rowP [])] (.slice none 0 0) w := by
  refine ⟨S, i, .rown, ⟨hh.cell, hh.size, fun l o hm => ?_, fun l o l' o' b hm hm' _ _ => ?_, hh.dom⟩, fun _ _ h => h, ⟨.refl S, Nat.le_refl _, fun _ _ _ => rfl, fun _ _ h => .inl h, fun _ _ h => .inl h, ?_, rfl, rfl, rfl⟩, fun _ _ h => .inl h⟩
  · cases List.mem_singleton.1 hm; exact .inr ⟨hf, rfl⟩
  · cases List.mem_singleton.1 hm; cases List.mem_singleton.1 hm'; rfl
  · rintro b ⟨l, o, hm, hb⟩
    cases List.mem_singleton.1 hm
    rw [hf] at hb; cases hb

theorem AOpT.appR {A : List (Nat × AV)} {x y : Arg} {z by' nl : Nat} {zz : List D} {yv : AV} {ys : List D} (hx : evA A x = some .nils) (hy : evA A y = some yv) (hsrc : toSrc yv = some ys) (hzl : zz.length = z) (hby : 0 < by') (hfit : ys.length * by' ≤ 281474976710656)
    (hyz : ∀ d ∈ ys, d.cells.length = z) : AOpT P (.app x y z by' zz) A [] (.row nl z ys.length) [(nl, .rowP (flat ys))] := by
  refine ⟨fun w hw hb => (by subst hw; cases hb), fun o hao => ?_⟩
  obtain ⟨c, hop, hk⟩ := compOp_app hao
  cases hk with
  | app hc ha hxa hya ht hu hu2 hz hj =>
    rename_i x0 y0 t u e ts j
    obtain ⟨j', z0, hj', hz0, hcz⟩ := zeroA_inv hz
    rw [hj] at hj'
    cases hj'
    have hzz : zz.length = z0.cells.size := by simpa using (constDs_at hcz).1
    have hut := und_some hu (by simp)
    obtain ⟨d, hd, huu⟩ : ∃ d, ((∃ e', d = .slice e') ∨ d = .string) ∧ P.underlying u = some d := by
      rcases hu2 with ⟨e', h⟩ | h
      · exact ⟨_, .inl ⟨e', rfl⟩, und_some h (by simp)⟩
      · exact ⟨_, .inr rfl, und_some h (by simp)⟩
    have h0 : c.argTypes[0]? = some t := arr0 ht
    have h1 : c.argTypes[1]? = some u := by rw [← Array.getElem?_toList, ht]; rfl
    refine ⟨by simp [hop], fun S i w ρ hev hh hf => ?_⟩
    have hfn : i nl = none := hf nl (by simp [AHeap.keys]) (by simp [AHeap.keys])
    have hxn : ρ x0 = .slice none 0 0 := by
      have := argV hev hxa hx
      generalize ρ x0 = v at this
      cases this; rfl
    have hvy := argV hev hya hy
    have hexec : (execOp ρ o).run P w = ((Builtin.append_ c.argTypes o.type #[ρ x0, ρ y0]).run P w).andThen fun v w' => .ok (.value v) w' := by
      simp only [execOp, hop, resolve, hc, arr2 ha, List.map_toArray, List.map_cons, List.map_nil, Sem.run_bind, Sem.run_pure, Result.andThen_ok, invoke, builtin]
    rw [hexec, hxn]
    obtain ⟨new, hn1, hn2, hn3, hn4⟩ := src_ok (P := P) hsrc hvy hyz
    cases ys with
    | nil =>
      rw [run_append_none' h0 h1 hut huu hd hj (hn4 w hh.cell).1 (hn4 w hh.cell).2, Result.andThen_ok]
      exact post_rowNil hh hfn
    | cons y1 yr =>
      have hnc : Builtin.nextslicecap ((y1 :: yr).length) 0 = (y1 :: yr).length := nextslicecap_zero (by simp)
      have hlen : (y1 :: yr).length ≤ 281474976710656 := Nat.le_trans (Nat.le_mul_of_pos_right _ hby) hfit
      have hcell : ∀ a v, S.cell a = some v → w.drew.cell? a = some v := fun a v h => by rw [World.cell?_drew]; exact hh.cell a v h
      have hrun := run_append_grows' (P := P) (w := w) (ty := o.type) h0 h1 hut huu hd hj hz0 (base := none) (sLen := 0) (sCap := 0) (old := #[]) (hn4 w hh.cell).1 (hn4 w.drew hcell).2 (by simp [Builtin.firstCells]) (by simp) (by simp at hlen ⊢; omega)
        (by rw [Nat.zero_add, hnc]; exact hfit)
      rw [Nat.zero_add] at hrun
      rw [hrun, Result.andThen_ok]
      have hcap := grownCap_ge w (y1 :: yr).length 0 e
      generalize hgc : grownCap w (y1 :: yr).length 0 e = cap at *
      generalize hC : #[] ++ new.toArray ++ Builtin.zeroCells z0.cells (cap - (y1 :: yr).length) = C at *
      have hnb : NewBlk w (w.drew.alloc (.cells C e)) C e (0, 0) := by
        have := newblk_alloc w.drew C e
        exact ⟨this.size, this.old, this.new, this.os, this.out, this.tape⟩
      have hfl := flat_len hyz
      have hsz : C.size = cap * j.size := by
        rw [← hC]
        simp only [Array.size_append, size_zeroCells, ← hzz, hzl, List.size_toArray, hn1, List.size_toArray, List.length_nil, Nat.zero_add]
        rw [← Nat.add_mul]
        congr 1; omega
      refine post_row hh hnb hfn ?_ (fun m h1 h2 => ?_) (by rw [hsz]; exact Nat.le_refl _) hcap
      · rw [hsz, hfl]; exact Nat.mul_le_mul_right _ hcap
      · have h3 : m < new.length := by rw [hn1, ← hfl]; exact h1
        have : C[m]? = some new[m] := by
          rw [← hC]
          simp only [Array.empty_append]
          rw [Array.getElem?_append_left (by simpa using h3)]
          simp [h3]
        have h4 : C[m] = new[m] := by
          have := (Array.getElem?_eq_some_iff.1 this).2
          exact this
        rw [h4]
        exact hn3 m h1 h3
/-- a row of which nothing is told yet may be appended to -/
theorem Sub.rowAp {l z : Nat} : Sub (.row l z 0) (.ap l z []) := by
  intro S i v hv
  cases hv with
  | rown => exact .apn
  | row h hn hc hl => exact .ap (xs := []) h (.sl (z := z) (l := []) (fun _ => undef) (by simp) (by simp [flat]) (by simp) (by simp [flat]) (by simp [flat])) (by simp) hn hc
theorem SubO.rowTok {s : Nat → Nat} : SubO (.rowP []) ((AObj.tok 0).ren s) := by
  refine ⟨fun S i w b ⟨c, e, hc, _, _, hf⟩ => ⟨c, e, hc, fun a ha _ => hf a ha⟩, fun _ => rfl⟩
end
end Go.Proofs.Abs
