/- The generator's rules: operations with typed data. -/
import Derived.Test.YtgimibhacllcpaaAbs29
namespace Go.Proofs.Abs
open Go
set_option linter.unusedVariables false

/-! ### pure words -/
def rd {α : Type} [Inhabited α] (xs : List α) (i : Int) : α := xs.getD i.toNat default
def gd {α : Type} (p : Prop) [Decidable p] (x : Option α) : Option α := if p then x else none
theorem gd_some {α : Type} {p : Prop} [Decidable p] {x : Option α} {r : α} (h : gd p x = some r) : p ∧ x = some r := by
  unfold gd at h
  split at h
  · exact ⟨by assumption, h⟩
  · cases h
theorem gd_pos {α : Type} {p : Prop} [Decidable p] {x : Option α} (h : p) : gd p x = x := if_pos h
theorem cond_pos {α : Type} {c : Bool} {x y : α} {r : α} (hc : c = true) (h : cond c x y = r) : x = r := by rw [hc] at h; exact h
theorem cond_neg {α : Type} {c : Bool} {x y : α} {r : α} (hc : c = false) (h : cond c x y = r) : y = r := by rw [hc] at h; exact h
theorem bind_some {α β : Type} {o : Option α} {f : α → Option β} {r : β} (h : o.bind f = some r) : ∃ x, o = some x ∧ f x = some r := by
  cases o with
  | none => cases h
  | some x => exact ⟨x, rfl, h⟩
/-- how a loop ends: at one of its ends, or by what the function returns -/
inductive LR (σ ρ : Type) where
  | b (n : Nat) (s : σ)
  | r (x : ρ)

theorem at_map {α : Type} [Inhabited α] {e : α → D} {xs : List α} {i : Int} (hb : 0 ≤ i ∧ i < (xs.length : Int)) : at' (xs.map e) i.toNat = e (rd xs i) := by
  have h : i.toNat < xs.length := by omega
  simp [at', rd, h]
theorem map_app {α β : Type} (f : α → β) (xs ys : List α) : xs.map f ++ ys.map f = (xs ++ ys).map f := List.map_append.symm

/-! ### a region from its operation k on, with what was touched -/
def RegV (P : Program) (aops : List AOper) (draw : Bool) (N k : Nat) (os : List AOper) (c : Nat) (l : List (Nat × AV)) (H : AHeap) (A : List Tk) (Q : AAct → AHeap → Nat → Prop) : Prop :=
  ∃ T, RegU P aops N k os c l H T Q ∧ (draw = true → indepT (A.reverse ++ T) aops = true)

section
variable {P : Program} {aops os : List AOper} {draw : Bool} {N k c : Nat} {l : List (Nat × AV)} {H : AHeap} {A : List Tk} {Q : AAct → AHeap → Nat → Prop}
variable {op : AOp} {g : Option (Nat × Bool)} {af : List Nat} {t : Nat}

theorem AWc.rg {ro : Option Nat} {m n : Nat} {Q : Exit → AAct → AHeap → Nat → Prop} (hmix : P.follows .mixedOrders = true) (hm : Nat.ble m n = true) (hH : nodupH H = true) (h : RegV P aops draw N 0 aops n l H [] (Q .normal)) :
    AWc P ro m (.region draw aops) ⟨N, l⟩ H n Q := by
  obtain ⟨T, h1, h2⟩ := h
  exact AWc.reg hmix (Nat.le_of_ble_eq_true hm) hH h1 h2
theorem RegV.nil0 (h : Q ⟨N, l⟩ H c) : RegV P aops false N k [] c l H A Q := ⟨[], RegU.nil h, fun h => by cases h⟩
theorem RegV.nil1 (hT : indepT A.reverse aops = true) (h : Q ⟨N, l⟩ H c) : RegV P aops true N k [] c l H A Q := ⟨[], RegU.nil h, fun _ => by rw [List.append_nil]; exact hT⟩
theorem RegV.up {x : AOper} {t : Tk} {c' : Nat} {l' : List (Nat × AV)} {H' : AHeap} (hs : ∀ T, RegU P aops N (k + 1) os c' l' H' T Q → RegU P aops N k (x :: os) c l H (t :: T) Q) (h : RegV P aops draw N (k + 1) os c' l' H' (t :: A) Q) :
    RegV P aops draw N k (x :: os) c l H A Q := by
  obtain ⟨T, h1, h2⟩ := h
  exact ⟨t :: T, hs T h1, fun hd => by have := h2 hd; rw [List.reverse_cons, List.append_assoc] at this; exact this⟩

abbrev us (l : List (Nat × AV)) (x : AOper) : List (Nat × AV) := pickL l (usesO x)
theorem RegV.p1 {v v' : AV} {s : Prop} (hg : gOn g (us l ⟨some t, op, g, af⟩) = some true) (h : evOp false 0 (evA (us l ⟨some t, op, g, af⟩)) H op = some ⟨v, [], [], s⟩) (hs : s) (hd : Nat.blt t N = true) (hv : v = v')
    (hn : RegV P aops draw N (k + 1) os c ((t, v') :: l) H (⟨[], true⟩ :: A) Q) : RegV P aops draw N k (⟨some t, op, g, af⟩ :: os) c l H A Q :=
  RegV.up (fun _ => RegU.p1 hg h hs hd hv) hn
theorem RegV.p0 {v : AV} (hg : gOn g (us l ⟨some t, op, g, af⟩) = some true) (h : evOp false 0 (evA (us l ⟨some t, op, g, af⟩)) H op = some ⟨v, [], [], True⟩) (hd : Nat.blt t N = true)
    (hn : RegV P aops draw N (k + 1) os c ((t, v) :: l) H (⟨[], true⟩ :: A) Q) : RegV P aops draw N k (⟨some t, op, g, af⟩ :: os) c l H A Q :=
  RegV.up (fun _ => RegU.p0 hg h hd) hn
theorem RegV.no {d : Option Nat} (hg : gOn g (us l ⟨d, op, g, af⟩) = some false) (hd : dstOK d N = true) (hn : RegV P aops draw N (k + 1) os c (putL d (.tup []) l) H (⟨[], true⟩ :: A) Q) :
    RegV P aops draw N k (⟨d, op, g, af⟩ :: os) c l H A Q := RegV.up (fun _ => RegU.no hg hd) hn
theorem RegV.ld {v v' : AV} {s : Prop} {x : Nat × AObj} (hg : gOn g (us l ⟨some t, op, g, af⟩) = some true) (h : evOp false 0 (evA (us l ⟨some t, op, g, af⟩)) H op = some ⟨v, [x], [x], s⟩) (hs : s) (hd : Nat.blt t N = true) (hv : v = v')
    {H' : AHeap} (hH : appK [x] (restK [x] [x] H) = H') (hn : newOK c [x] [x] = true) (hc : topK c [x] = c)
    (hn' : RegV P aops draw N (k + 1) os c ((t, v') :: l) H' (⟨AHeap.keys [x] ++ AHeap.keys [x], true⟩ :: A) Q) : RegV P aops draw N k (⟨some t, op, g, af⟩ :: os) c l H A Q :=
  RegV.up (fun _ => RegU.op (hin := [x]) (hout := [x]) hg (evOp_ok h hs) hd (evOp_hin h) hn rfl (fun _ => rfl) hv hH hc) hn'
theorem RegV.ev {d : Option Nat} {own : Bool} {v v' : AV} {s : Prop} {hin hout H' : AHeap} {c' : Nat} {l' : List (Nat × AV)} (hg : gOn g (us l ⟨d, op, g, af⟩) = some true) (h : evOp own c (evA (us l ⟨d, op, g, af⟩)) H op = some ⟨v, hin, hout, s⟩) (hs : s)
    (hd : dstOK d N = true) (hn : newOK c hin hout = true) (hF : nodupH hout = true) (hv : v = v') (hl : putL d v' l = l') (hH : appK hout (restK hin hout H) = H') (hc : topK c hout = c')
    (hn' : RegV P aops draw N (k + 1) os c' l' H' (⟨hin.keys ++ hout.keys, false⟩ :: A) Q) : RegV P aops draw N k (⟨d, op, g, af⟩ :: os) c l H A Q :=
  RegV.up (fun _ h' => RegU.ev hg h hs hd hn hF hv hH hc (by rw [hl]; exact h')) hn'
theorem RegV.call {d : Option Nat} {gg : Arg} {as : List Arg} {fv : AV} {vs ws ys : List AV} {f : FuncId} {r r' : AV} {hin hout H' : AHeap} {c' : Nat} {l' : List (Nat × AV)} {q : Bool} (hcall : ACalls P f ys hin r hout)
    (hg : gOn g (us l ⟨d, .call gg as, g, af⟩) = some true) (hf : evA (us l ⟨d, .call gg as, g, af⟩) gg = some fv) (has : allAV (evA (us l ⟨d, .call gg as, g, af⟩)) as = some vs) (hco : callOf fv vs = some (f, ws)) (hsub : SubL ws ys)
    (hr : Sub r r') (hq : q = true → hin = hout) (hd : dstOK d N = true) (hin' : ∀ x ∈ hin, lkH H x.1 = some x.2) (hn : newOK c hin hout = true) (hF : nodupH hout = true) (hl : putL d r' l = l') (hH : appK hout (restK hin hout H) = H') (hc : topK c hout = c')
    (hn' : RegV P aops draw N (k + 1) os c' l' H' (⟨hin.keys ++ hout.keys, q⟩ :: A) Q) : RegV P aops draw N k (⟨d, .call gg as, g, af⟩ :: os) c l H A Q :=
  RegV.up (fun _ h' => RegU.call hcall hg hf has hco hsub hr hq hd hin' hn hF hH hc (by rw [hl]; exact h')) hn'
theorem RegV.call0 {gg : Arg} {as : List Arg} {fv : AV} {vs ws ys : List AV} {f : FuncId} {r : AV} (hcall : ACalls P f ys [] r [])
    (hg : gOn g (us l ⟨some t, .call gg as, g, af⟩) = some true) (hf : evA (us l ⟨some t, .call gg as, g, af⟩) gg = some fv) (has : allAV (evA (us l ⟨some t, .call gg as, g, af⟩)) as = some vs) (hco : callOf fv vs = some (f, ws)) (hsub : SubL ws ys)
    (hd : Nat.blt t N = true) (hn' : RegV P aops draw N (k + 1) os c ((t, r) :: l) H (⟨[], true⟩ :: A) Q) : RegV P aops draw N k (⟨some t, .call gg as, g, af⟩ :: os) c l H A Q :=
  RegV.up (fun _ => RegU.call0 hcall hg hf has hco hsub hd) hn'

/-! ### typed operations -/
variable {α : Type} {e : α → D} {z : Nat}
/-- an element's place, in data -/
theorem RegV.iad [Inhabited α] {x i : Arg} {y : AV} {xs : List α} {kd : IntKind} {n : Int} (hg : gOn g (us l ⟨some t, .iaddr x i z, g, af⟩) = some true) (hx : evA (us l ⟨some t, .iaddr x i z, g, af⟩) x = some y) (hy : toSl y = some (xs.map e))
    (hi : evA (us l ⟨some t, .iaddr x i z, g, af⟩) i = some (.d (.int kd n))) (hz : ∀ a, (e a).cells.length = z) (hb : 0 ≤ n ∧ n < (xs.length : Int)) (hd : Nat.blt t N = true)
    (hn : RegV P aops draw N (k + 1) os c ((t, .cp (e (rd xs n)) 0) :: l) H (⟨[], true⟩ :: A) Q) : RegV P aops draw N k (⟨some t, .iaddr x i z, g, af⟩ :: os) c l H A Q := by
  refine RegV.p1 (v := .cp (at' (xs.map e) n.toNat) 0) (s := 0 ≤ n ∧ n < ((xs.map e).length : Nat) ∧ (at' (xs.map e) n.toNat).cells.length = z) hg ?_ ⟨hb.1, by simpa using hb.2, by rw [at_map hb]; exact hz _⟩ hd (by rw [at_map hb]) hn
  simp only [evOp, hx, hi]
  cases y <;> simp only [toSl, reduceCtorEq] at hy <;> first | (simp only [toSl, hy, Option.bind_some]; rfl) | (cases hy; rfl)
theorem RegV.len {x : Arg} {y : AV} {xs : List α} (hg : gOn g (us l ⟨some t, .len x, g, af⟩) = some true) (hx : evA (us l ⟨some t, .len x, g, af⟩) x = some y) (hy : toSl y = some (xs.map e)) (hd : Nat.blt t N = true)
    (hn : RegV P aops draw N (k + 1) os c ((t, .d (.int .i64 (xs.length : Int))) :: l) H (⟨[], true⟩ :: A) Q) : RegV P aops draw N k (⟨some t, .len x, g, af⟩ :: os) c l H A Q := by
  refine RegV.p1 (v := .d (.int .i64 ((xs.map e).length : Nat))) (s := True) hg ?_ trivial hd (by rw [List.length_map]) hn
  simp only [evOp, hx]
  cases y <;> simp only [toSl, reduceCtorEq] at hy <;> first | (simp only [toSl, hy, Option.bind_some]; rfl) | (cases hy; rfl)

def sl {α : Type} (xs : List α) (lo hi : Int) : List α := (xs.take hi.toNat).drop lo.toNat
/-- a part of data -/
theorem RegV.slc {x : Arg} {la ha mx : Option Arg} {xs : List α} {lo hi hi0 : Int} (hg : gOn g (us l ⟨some t, .slc x la ha mx z, g, af⟩) = some true)
    (h : evOp false 0 (evA (us l ⟨some t, .slc x la ha mx z, g, af⟩)) H (.slc x la ha mx z) = some ⟨.d (.sl (((xs.map e).take hi0.toNat).drop lo.toNat)), [], [], 0 ≤ lo ∧ lo ≤ hi0 ∧ hi0 ≤ ((xs.map e).length : Nat) ∧ ∀ d ∈ xs.map e, d.cells.length = z⟩)
    (hh : hi0 = hi) (hb : 0 ≤ lo ∧ lo ≤ hi ∧ hi ≤ (xs.length : Int)) (hz : ∀ a, (e a).cells.length = z) (hd : Nat.blt t N = true)
    (hn : RegV P aops draw N (k + 1) os c ((t, .d (.sl ((sl xs lo hi).map e))) :: l) H (⟨[], true⟩ :: A) Q) : RegV P aops draw N k (⟨some t, .slc x la ha mx z, g, af⟩ :: os) c l H A Q := by
  subst hh
  refine RegV.p1 hg h ⟨hb.1, hb.2.1, by simpa using hb.2.2, fun d hd => ?_⟩ hd ?_ hn
  · obtain ⟨a, _, rfl⟩ := List.mem_map.1 hd
    exact hz a
  · simp only [sl, List.map_drop, List.map_take]
theorem mlen (xs : List α) : (((xs.map e).length : Nat) : Int) = (xs.length : Int) := by rw [List.length_map]

theorem restK_keys {a b a' b' : AObj} {x y : Nat} : ∀ (H : AHeap), restK [(x, a)] [(y, b)] H = restK [(x, a')] [(y, b')] H
  | [] => rfl
  | (l, o) :: r => by simp only [restK, hasK, restK_keys (a := a) (b := b) (a' := a') (b' := b') r]
theorem mapLen {xs : List α} (hz : ∀ a, (e a).cells.length = z) : ∀ d ∈ xs.map e, d.cells.length = z := fun d hd => by
  obtain ⟨a, _, rfl⟩ := List.mem_map.1 hd
  exact hz a
theorem topK_one {o : AObj} : topK c [(c, o)] = c + 1 := by
  have : Nat.blt c c = false := by
    cases h : Nat.blt c c with
    | false => rfl
    | true => have := Nat.le_of_ble_eq_true h; omega
  simp only [topK, this, cond_false]
/-- to nothing is appended -/
theorem RegV.appN {x y : Arg} {ys : List α} {by' : Nat} {zz : List D} (hg : gOn g (us l ⟨some t, .app x y z by' zz, g, af⟩) = some true) (hx : evA (us l ⟨some t, .app x y z by' zz, g, af⟩) x = some .nils)
    (hy : (evA (us l ⟨some t, .app x y z by' zz, g, af⟩) y).bind toSrc = some (ys.map e)) (hz : ∀ a, (e a).cells.length = z) (hzz : zz.length = z) (hby : Nat.blt 0 by' = true) (hb : ys.length * by' ≤ 281474976710656) (hd : Nat.blt t N = true)
    (hH : restK [] [(c, .tok 0)] H = H)
    (hn : RegV P aops draw N (k + 1) os (c + 1) ((t, .ap c z (ys.map e)) :: l) ((c, .tok ((ys.map e).length * z)) :: H) (⟨[c], false⟩ :: A) Q) : RegV P aops draw N k (⟨some t, .app x y z by' zz, g, af⟩ :: os) c l H A Q := by
  refine RegV.ev (own := true) (v := .ap c z (ys.map e)) (hin := []) (hout := [(c, .tok ((ys.map e).length * z))]) (s := zz.length = z ∧ 0 < by' ∧ (ys.map e).length * by' ≤ 281474976710656 ∧ ∀ d ∈ ys.map e, d.cells.length = z) hg ?_ ?_ hd ?_ rfl rfl rfl ?_ ?_ hn
  · simp only [evOp, hx, hy]; rfl
  · exact ⟨hzz, Nat.le_of_ble_eq_true hby, by simpa using hb, mapLen hz⟩
  · simp [newOK]
  · have : ∀ (H : AHeap) (a b : AObj), restK [] [(c, a)] H = restK [] [(c, b)] H := by
      intro H a b
      induction H with
      | nil => rfl
      | cons p r ih => obtain ⟨l, o⟩ := p; simp only [restK, hasK, ih]
    rw [this H _ (.tok 0), hH]; rfl
  · exact topK_one
/-- behind what is our own is appended -/
theorem RegV.appA {x y : Arg} {l0 : Nat} {xs ys : List α} {by' : Nat} {zz : List D} {H1 : AHeap} (hg : gOn g (us l ⟨some t, .app x y z by' zz, g, af⟩) = some true) (hx : evA (us l ⟨some t, .app x y z by' zz, g, af⟩) x = some (.ap l0 z (xs.map e)))
    (hy : (evA (us l ⟨some t, .app x y z by' zz, g, af⟩) y).bind toSrc = some (ys.map e)) (hl : lkH H l0 = some (.tok ((xs.map e).length * z))) (hz : ∀ a, (e a).cells.length = z) (hzz : zz.length = z) (hby : Nat.blt 0 by' = true)
    (hb : (xs.length + ys.length) * 2 * by' ≤ 281474976710656) (hne : Nat.beq c l0 = false) (hd : Nat.blt t N = true) (hH : restK [(l0, .tok 0)] [(c, .tok 0)] H = H1)
    (hn : RegV P aops draw N (k + 1) os (c + 1) ((t, .ap c z ((xs ++ ys).map e)) :: l) ((c, .tok (((xs ++ ys).map e).length * z)) :: H1) (⟨[l0, c], false⟩ :: A) Q) : RegV P aops draw N k (⟨some t, .app x y z by' zz, g, af⟩ :: os) c l H A Q := by
  have hne' : c ≠ l0 := fun h => by rw [h, Nat.beq_refl] at hne; cases hne
  refine RegV.ev (own := true) (v := .ap c z (xs.map e ++ ys.map e)) (hin := [(l0, .tok ((xs.map e).length * z))]) (hout := [(c, .tok ((xs.map e ++ ys.map e).length * z))])
    (s := c ≠ l0 ∧ (xs.map e).length * z = (xs.map e).length * z ∧ zz.length = z ∧ 0 < by' ∧ ((xs.map e).length + (ys.map e).length) * 2 * by' ≤ 281474976710656 ∧ ∀ d ∈ ys.map e, d.cells.length = z) hg ?_ ?_ hd ?_ rfl ?_ rfl ?_ ?_ hn
  · simp only [evOp, hx, hy, Nat.beq_refl, cond_true, hl]
  · exact ⟨hne', rfl, hzz, Nat.le_of_ble_eq_true hby, by simpa using hb, mapLen hz⟩
  · simp [newOK]
  · rw [map_app]
  · rw [map_app, restK_keys H (a' := .tok 0) (b' := .tok 0), hH]; rfl
  · exact topK_one
/-- on a truth there are two ways -/
theorem RegV.split {b : Bool} (ht : b = true → RegV P aops draw N k os c ((t, .d (.bool true)) :: l) H A Q) (hf : b = false → RegV P aops draw N k os c ((t, .d (.bool false)) :: l) H A Q) : RegV P aops draw N k os c ((t, .d (.bool b)) :: l) H A Q := by
  cases b with
  | true => exact ht rfl
  | false => exact hf rfl
/-- bytes as a text -/
theorem map_byteOf (b : List UInt8) : (b.map byteD).map byteOf = b := by
  rw [List.map_map]
  conv => rhs; rw [← List.map_id b]
  apply List.map_congr_left
  intro x _
  simp [byteD, byteOf]
theorem RegV.bs2s {x : Arg} {b : List UInt8} (hg : gOn g (us l ⟨some t, .bs2s x, g, af⟩) = some true) (hx : (evA (us l ⟨some t, .bs2s x, g, af⟩) x).bind toSl = some (b.map byteD)) (hd : Nat.blt t N = true)
    (hn : RegV P aops draw N (k + 1) os c ((t, .d (.str b)) :: l) H (⟨[], true⟩ :: A) Q) : RegV P aops draw N k (⟨some t, .bs2s x, g, af⟩ :: os) c l H A Q := by
  refine RegV.p1 (v := .d (.str ((b.map byteD).map byteOf))) (s := ∀ d ∈ b.map byteD, isByte d) hg ?_ (fun d hd => ?_) hd (by rw [map_byteOf]) hn
  · simp only [evOp, hx]; rfl
  · obtain ⟨a, _, rfl⟩ := List.mem_map.1 hd
    have := a.toNat_lt
    simp only [byteD, isByte]; omega
end

section
variable {P : Program} {ro : Option Nat} {a : AAct} {H : AHeap} {n m : Nat} {Q : Exit → AAct → AHeap → Nat → Prop}
theorem inBlk_eq {id : Nat} (h : Q .normal a H n) : inBlk id Q (.exit id) a H n := by simp only [inBlk, if_true]; exact h
theorem inBlk_ne {id j : Nat} (hne : Nat.beq j id = false) (h : Q (.exit j) a H n) : inBlk id Q (.exit j) a H n := by
  have : j ≠ id := fun h => by rw [h, Nat.beq_refl] at hne; cases hne
  simp only [inBlk, if_neg this]; exact h
end
end Go.Proofs.Abs
