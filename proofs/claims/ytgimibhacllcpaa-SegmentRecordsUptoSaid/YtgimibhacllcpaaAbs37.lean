/- Elements of arrays; an empty row that may be appended to; rows are frozen. -/
import Derived.Test.YtgimibhacllcpaaAbs36
namespace Go.Proofs.Abs
open Go
set_option linter.unusedVariables false
set_option linter.unusedSectionVars false
section
variable {P : Program}
theorem compBin_aad {op : BinOp} {t : TypeId} {x y a b : Arg} {n z : Nat} : compBin P op t x y = .aaddr a b n z → False := by
  intro h
  unfold compBin at h
  repeat' (first | cases h | split at h)
theorem compConv_aad {s d : TypeId} {x a b : Arg} {n z : Nat} : compConv P s d x = .aaddr a b n z → False := by
  intro h
  unfold compConv at h
  repeat' (first | cases h | split at h)
theorem compCall_aad {c : Call} {a b : Arg} {n z : Nat} : compCall P c = .aaddr a b n z → False := by
  intro h
  unfold compCall at h
  repeat' (first | cases h | split at h)
  all_goals (simp only [sbK, szK] at h; repeat' (first | cases h | split at h))
theorem compOp_aad {op : Op} {a b : Arg} {n z : Nat} (h : compOp P op = .aaddr a b n z) : ∃ t x k e j, op = .indexAddr t x k ∧ argA x = some a ∧ argA k = some b ∧ und P t = .array n e ∧ P.info? e = some j ∧ j.size = z := by
  cases op with
  | call c => simp only [compOp] at h; exact (compCall_aad h).elim
  | indexAddr t x k =>
    simp only [compOp] at h
    split at h <;> first | cases h | skip
    · simp only [szK] at h; split at h <;> cases h
    · rename_i a' b' n' e ha hb hu
      simp only [szK] at h
      split at h <;> cases h
      rename_i j hj
      exact ⟨t, x, k, e, j, rfl, ha, hb, hu, hj, rfl⟩
  | binOp op t x y t' =>
    simp only [compOp] at h
    split at h
    · exact (compBin_aad h).elim
    · cases h
  | convert s d x =>
    simp only [compOp] at h
    split at h
    · exact (compConv_aad h).elim
    · cases h
  | makeFunc fn first caps =>
    cases fn with
    | func f =>
      simp only [compOp] at h
      repeat' (first | cases h | split at h)
    | _ => cases h
  | _ =>
    simp only [compOp, szK, sbK, aggK] at h
    repeat' (first | cases h | split at h)
theorem AOpT.aad {args : List (Nat × AV)} {x y : Arg} {n z l off : Nat} {kd : IntKind} {i : Int} (hx : evA args x = some (.ptr l off)) (hy : evA args y = some (.d (.int kd i))) (hb : 0 ≤ i ∧ i < (n : Int)) :
    AOpT P (.aaddr x y n z) args [] (.ptr l (off + i.toNat * z)) [] := by
  refine ⟨fun z hz hb => (by subst hz; cases hb), fun o hao => ?_⟩
  obtain ⟨t, x0, k0, e, j, hop, ha, hk, hu, hj, rfl⟩ := compOp_aad hao
  refine .pure (by simp [hop]) fun S i' w ρ hev hh => ?_
  have h1 := argV hev ha hx
  have h2 := vInt (argV hev hk hy)
  generalize hux : ρ x0 = u at h1
  cases h1 with
  | ptr hi =>
    refine ⟨_, ?_, .ptr hi⟩
    simp only [execOp, hop, Instr.indexAt, hux, h2, asIntOf, Sem.run_bind, Sem.run_pure, Result.andThen_ok, run_und (und_some hu (by simp))]
    have hsa : ∀ a : Addr, (Instr.sureAddr (.pointer (some a))).run P w = .ok a w := fun _ => rfl
    rw [hsa, Result.andThen_ok, if_pos hb]
    simp only [Sem.run_bind, run_sizeOf hj, Result.andThen_ok, Sem.run_pure, addr_add]

/-! ### a row is sealed -/
def Seal.row (S : Seal) (b k : Nat) (c : Array Value) : Seal where
  cell a := if a.block = b ∧ a.spot = none ∧ a.off < k then c[a.off]? else S.cell a
  size x := if x = b then some c.size else S.size x
theorem seal_row {S : Seal} {i : Emb} {H : AHeap} {w : World} {l0 b k : Nat} {o : AObj} {c : Array Value} {e : TypeId} (hh : HeapRel S i H w) (hm : (l0, o) ∈ H) (hi : i l0 = some b) (hc : w.heap[b]? = some (.cells c e (0, 0)))
    (hns : ∀ a : Addr, a.block = b → S.cell a = none) : S.le (S.row b k c) ∧ HeapRel (S.row b k c) i (setH l0 (.tok k) H) w ∧ Tr S i H w (S.row b k c) i (setH l0 (.tok k) H) w := by
  have hle : S.le (S.row b k c) := by
    refine ⟨fun a v ha => ?_, fun x n hx => ?_⟩
    · simp only [Seal.row]
      rw [if_neg]
      · exact ha
      · rintro ⟨h, _⟩
        rw [hns a h] at ha; cases ha
    · simp only [Seal.row]
      split
      · rename_i h
        subst h
        obtain ⟨c', e', f', h1, h2⟩ := hh.size _ n hx
        rw [hc] at h1
        cases h1
        rw [h2]
      · exact hx
  refine ⟨hle, ⟨fun a v ha => ?_, fun x n hx => ?_, fun l p hp => ?_, fun l p l' p' x h1 h2 e1 e2 => ?_, hh.dom⟩, ⟨hle, Nat.le_refl _, fun _ _ _ => rfl, fun a v ha => ?_, fun _ _ h => .inl h, fun x ⟨l, p, hp, hx⟩ => .inl ?_, rfl, rfl, rfl⟩⟩
  · simp only [Seal.row] at ha
    split at ha
    · rename_i h
      unfold World.cell?
      rw [h.1, hc]
      simp [h.2.1, ha]
    · exact hh.cell a v ha
  · simp only [Seal.row] at hx
    split at hx
    · rename_i h
      subst h
      cases hx
      exact ⟨c, e, _, hc, rfl⟩
    · exact hh.size x n hx
  · rcases mem_setH hp with ⟨rfl, rfl, _⟩ | ⟨hne, hp⟩
    · refine .inl ⟨b, hi, c, e, hc, fun a ha ho => ?_⟩
      simp only [Seal.row]
      rw [if_neg (by omega)]
      exact hns a ha
    · rcases hh.obj l p hp with ⟨b', hb', hr⟩ | hr
      · refine .inl ⟨b', hb', hr.later hle (fun _ _ h => h) rfl fun a v ha hab => ?_⟩
        simp only [Seal.row] at ha
        split at ha
        · rename_i h
          have : b' = b := hab.symm.trans h.1
          subst this
          exact absurd (hh.inj _ _ _ _ _ hp hm hb' hi) hne
        · exact ha
      · exact .inr hr
  · have k1 : ∃ q, (l, q) ∈ H := by
      rcases mem_setH h1 with ⟨rfl, _, h⟩ | ⟨_, h⟩
      · exact h
      · exact ⟨_, h⟩
    have k2 : ∃ q, (l', q) ∈ H := by
      rcases mem_setH h2 with ⟨rfl, _, h⟩ | ⟨_, h⟩
      · exact h
      · exact ⟨_, h⟩
    obtain ⟨q, h1⟩ := k1
    obtain ⟨q', h2⟩ := k2
    exact hh.inj _ _ _ _ x h1 h2 e1 e2
  · simp only [Seal.row] at ha
    split at ha
    · rename_i h
      exact .inr (.inl ⟨l0, o, hm, by rw [h.1]; exact hi⟩)
    · exact .inl ha
  · rcases mem_setH hp with ⟨rfl, _, q, h⟩ | ⟨_, h⟩
    · exact ⟨_, q, h, hx⟩
    · exact ⟨_, _, h, hx⟩

section
variable {α : Type} {e : α → D} {z : Nat} {g : Bool}
theorem flat_drop (h : EncOK e z g) (xs : List α) (o len : Nat) (hle : o + len ≤ xs.length) : ∀ m (hm : m < (cellsD e ((xs.drop o).take len)).length), ∃ h2 : o * z + m < (cellsD e xs).length, (cellsD e xs)[o * z + m] = (cellsD e ((xs.drop o).take len))[m] := by
  intro m hm
  have hs : xs = xs.take o ++ ((xs.drop o).take len ++ xs.drop (o + len)) := by rw [← List.drop_drop, List.take_append_drop, List.take_append_drop]
  have hl : (cellsD e (xs.take o)).length = o * z := by rw [cellsD_len h]; congr 1; simp; omega
  have hd : cellsD e xs = cellsD e (xs.take o) ++ (cellsD e ((xs.drop o).take len) ++ cellsD e (xs.drop (o + len))) := by
    conv => lhs; rw [hs]
    rw [cellsD_app, cellsD_app]
  have h2 : o * z + m < (cellsD e xs).length := by rw [hd]; simp only [List.length_append, hl]; omega
  refine ⟨h2, ?_⟩
  have : (cellsD e xs)[o * z + m]? = some (cellsD e ((xs.drop o).take len))[m] := by
    rw [hd, List.getElem?_append_right (by omega), hl, Nat.add_sub_cancel_left, List.getElem?_append_left hm, List.getElem?_eq_getElem hm]
  exact (List.getElem?_eq_some_iff.1 this).2
/-- a part of a sealed row reads as data -/
theorem dv_row (h : EncOK e z g) {S : Seal} {i : Emb} {b : Nat} {xs : List α} {c : Array Value} (hs : c.size = ((cellsD e xs).map AV.d).length) (hv : ∀ j (h1 : j < ((cellsD e xs).map AV.d).length) (h2 : j < c.size), V S i ((cellsD e xs).map AV.d)[j] c[j])
    (hle : S.le (S.row b (xs.length * z) c)) (o len cap : Nat) (ho : o + len ≤ xs.length) (hc : len ≤ cap) : DV (S.row b (xs.length * z) c) (.sl (((xs.drop o).take len).map e)) (.slice (some ⟨b, o * z, none⟩) len cap) := by
  have hl : (((xs.drop o).take len).map e).length = len := by simp; omega
  have hk := flat_drop h xs o len ho
  have := DV.sl (S := S.row b (xs.length * z) c) (z := z) (l := ((xs.drop o).take len).map e) (b := b) (o := o * z) (cap := cap) (fun m => c.getD (o * z + m) undef) (fun d hd => by obtain ⟨a, _, rfl⟩ := List.mem_map.1 hd; exact h.len a)
    (cellsD_sc h _) (by rw [hl]; exact hc) (fun m hm => ?_) (fun m hm => ?_)
  · rwa [hl] at this
  · obtain ⟨h2, _⟩ := hk m hm
    have h3 : o * z + m < c.size := by rw [hs, List.length_map]; exact h2
    have h4 : o * z + m < xs.length * z := by rw [← cellsD_len h]; exact h2
    simp only [Seal.row]
    rw [if_pos ⟨trivial, trivial, h4⟩]
    simp [h3]
  · obtain ⟨h2, he⟩ := hk m hm
    have h3 : o * z + m < c.size := by rw [hs, List.length_map]; exact h2
    have := hv (o * z + m) (by rw [List.length_map]; exact h2) h3
    rw [List.getElem_map, he] at this
    have := (vD this).mono hle
    have e2 : c.getD (o * z + m) undef = c[o * z + m] := by simp [h3]
    rw [e2]; exact this

/-- what a row of one's own becomes, when it is sealed -/
inductive Frz (l0 : Nat) (e : α → D) (z : Nat) (xs : List α) : AV → AV → Prop
  | same {v} : Frz l0 e z xs v v
  | data {o len cap : Nat} (h : o + len ≤ xs.length ∧ len ≤ cap) : Frz l0 e z xs (.sl l0 (o * z) len cap z) (.d (.sl (((xs.drop o).take len).map e)))
  | data0 {len cap : Nat} (h : len ≤ xs.length ∧ len ≤ cap) : Frz l0 e z xs (.sl l0 0 len cap z) (.d (.sl ((xs.take len).map e)))
  | all {len cap : Nat} (h : len = xs.length ∧ len ≤ cap) : Frz l0 e z xs (.sl l0 0 len cap z) (.d (.sl (xs.map e)))
  | win {len cap : Nat} (h : len ≤ xs.length ∧ cap = xs.length) : Frz l0 e z xs (.sl l0 0 len cap z) (.win (xs.map e) len)
  | ap {len cap : Nat} (h : len = xs.length ∧ cap = len) : Frz l0 e z xs (.sl l0 0 len cap z) (.ap l0 z (xs.map e))
def frzS (l0 : Nat) (e : α → D) (z : Nat) (xs : List α) (l : List (Nat × AV)) : List (Nat × AV) → Prop
  | [] => True
  | (t, v) :: r => (∃ u, lk l t = some u ∧ Frz l0 e z xs u v) ∧ frzS l0 e z xs l r
theorem frzS.get {l0 : Nat} {xs : List α} {l : List (Nat × AV)} : ∀ {l' : List (Nat × AV)}, frzS l0 e z xs l l' → ∀ t v, lk l' t = some v → ∃ u, lk l t = some u ∧ Frz l0 e z xs u v
  | [], _, t, v, h => by cases h
  | (k, x) :: r, h, t, v, hv => by
    simp only [lk] at hv
    cases hb : Nat.beq k t with
    | true => rw [hb] at hv; cases hv; cases Nat.eq_of_beq_eq_true hb; exact h.1
    | false => rw [hb] at hv; exact frzS.get h.2 t v hv

variable {ro : Option Nat} {N n m : Nat} {H : AHeap} {Q : Exit → AAct → AHeap → Nat → Prop} {l l' : List (Nat × AV)}
theorem AWc.seal {c : ACode} {l0 : Nat} {xs : List α} {H' : AHeap} (he : EncOK e z g) (hl : lkH H l0 = some (cellsO e xs)) (hs : frzS l0 e z xs l l') (hH : setH l0 (.tok (xs.length * z)) H = H') (h : AWc P ro m c ⟨N, l'⟩ H' n Q) :
    AWc P ro m c ⟨N, l⟩ H n Q := by
  subst hH
  intro cc hcc S i w ca hact hh hn
  have hm := lkH_mem hl
  rcases hh.obj _ _ hm with ⟨b, hb, c0, et, hc0, hsz, hv, hns⟩ | ⟨_, hz⟩
  case inr => exact hz.elim
  obtain ⟨h1, h2, h3⟩ := seal_row (k := xs.length * z) hh hm hb hc0 hns
  have hact' : ActRel (S.row b (xs.length * z) c0) i ⟨N, l'⟩ ca := by
    refine ⟨hact.size, fun t v hv' => ?_⟩
    obtain ⟨u, hu, hf⟩ := hs.get t v hv'
    have hu' := hact.get t u hu
    generalize ca.tmps.getD t undef = val at hu'
    have key : ∀ o len cap, o + len ≤ xs.length → len ≤ cap → DV (S.row b (xs.length * z) c0) (.sl (((xs.drop o).take len).map e)) (.slice (some ⟨b, o * z, none⟩) len cap) := fun o len cap q1 q2 => dv_row (i := i) he hsz hv h1 o len cap q1 q2
    cases hf with
    | same => exact hu'.mono h1 (fun _ _ h => h)
    | data hq =>
      cases hu' with
      | sl hi => rw [hb] at hi; cases hi; exact .d (key _ _ _ hq.1 hq.2)
    | data0 hq =>
      cases hu' with
      | sl hi =>
        rw [hb] at hi; cases hi
        have := key 0 _ _ (by omega) hq.2
        rw [Nat.zero_mul] at this
        exact .d this
    | all hq =>
      cases hu' with
      | sl hi =>
        rw [hb] at hi; cases hi
        have := key 0 _ _ (by omega) hq.2
        rw [Nat.zero_mul, List.drop_zero, List.take_of_length_le (by omega)] at this
        exact .d this
    | win hq =>
      cases hu' with
      | sl hi =>
        rw [hb] at hi; cases hi
        have := key 0 xs.length xs.length (by omega) (Nat.le_refl _)
        rw [Nat.zero_mul, List.drop_zero, List.take_length] at this
        have hl : (xs.map e).length = xs.length := by simp
        have h5 : V (S.row b (xs.length * z) c0) i (.win (xs.map e) _) (.slice (some ⟨b, 0, none⟩) _ (xs.map e).length) := .win (by rw [hl]; exact this) (by rw [hl]; exact hq.1)
        rw [hl] at h5
        rw [hq.2]; exact h5
    | ap hq =>
      cases hu' with
      | sl hi =>
        rw [hb] at hi; cases hi
        have := key 0 xs.length xs.length (by omega) (Nat.le_refl _)
        rw [Nat.zero_mul, List.drop_zero, List.take_length] at this
        have hl : (xs.map e).length = xs.length := by simp
        have h5 : V (S.row b (xs.length * z) c0) i (.ap l0 z (xs.map e)) (.slice (some ⟨b, 0, none⟩) (xs.map e).length xs.length) := .ap hb (by rw [hl]; exact this) (fun x hx => by obtain ⟨a, _, rfl⟩ := List.mem_map.1 hx; exact he.len a)
          (n := c0.size) (by simp [Seal.row]) (by rw [hsz, List.length_map, cellsD_len he]; exact Nat.le_refl _)
        rw [hl] at h5
        rw [hq.2, hq.1]; exact h5
  refine wpIn_mono (h cc hcc _ i w ca hact' h2 hn) ?_
  rintro ex ca' w' ⟨a', H1, n1, S1, i1, q, ra, rd, rh, rn, re, rt⟩
  exact ⟨a', H1, n1, S1, i1, q, ra, rd, rh, rn, re, h3.trans rt⟩

/-- what has just been made may be appended to -/
theorem Post.toAp {S : Seal} {i : Emb} {w w' : World} {nl len cap z : Nat} {L : List AV} {v : Value} (h : Post S i [] w (.sl nl 0 len cap z) [(nl, .cells L)] v w') (hlen : len = 0) (hc : cap * z ≤ L.length) : Post S i [] w (.ap nl z []) [(nl, .tok 0)] v w' := by
  subst hlen
  obtain ⟨S', i', hv, hh, hle, ht, hn⟩ := h
  cases hv with
  | sl hi =>
    rename_i b
    rcases hh.obj nl _ List.mem_cons_self with ⟨b', hb', c0, et, hc0, hsz, hv, hns⟩ | ⟨_, hz⟩
    case inr => exact hz.elim
    rw [hi] at hb'; cases hb'
    obtain ⟨h1, h2, h3⟩ := seal_row (k := 0) hh List.mem_cons_self hi hc0 hns
    have e : setH nl (.tok 0) [(nl, AObj.cells L)] = [(nl, .tok 0)] := by simp [setH]
    rw [e] at h2 h3
    refine ⟨S'.row b 0 c0, i', ?_, h2, hle, ht.trans h3, fun l b hb => (hn l b hb).imp id fun h => h⟩
    exact .ap (n := c0.size) (xs := []) hi (.sl (z := z) (l := []) (fun _ => undef) (by simp) (by simp [flat]) (by simp) (by simp [flat]) (by simp [flat])) (by simp) (by simp [Seal.row]) (by omega)
theorem AOpT.toAp {ao : AOp} {args : List (Nat × AV)} {nl len cap z : Nat} {L : List AV} (h : AOpT P ao args [] (.sl nl 0 len cap z) [(nl, .cells L)]) (hlen : len = 0) (hc : cap * z ≤ L.length) : AOpT P ao args [] (.ap nl z []) [(nl, .tok 0)] :=
  ⟨h.1, fun o ho => ⟨(h.2 o ho).1, fun S i w ρ h1 h2 h3 => ((h.2 o ho).2 S i w ρ h1 h2 h3).mono fun v w hp => hp.toAp hlen hc⟩⟩
end
end

section
variable {P : Program} {aops os : List AOper} {draw : Bool} {N k c : Nat} {l : List (Nat × AV)} {H H' : AHeap} {A : List Tk} {Q : AAct → AHeap → Nat → Prop}
variable {gd : Option (Nat × Bool)} {af : List Nat} {t : Nat} {z : Nat} {x y : Arg} {n m : Int}
theorem restK_new : ∀ (H : AHeap) (a b : AObj), restK [] [(c, a)] H = restK [] [(c, b)] H := by
  intro H a b
  induction H with
  | nil => rfl
  | cons p r ih => obtain ⟨l, o⟩ := p; simp only [restK, hasK, ih]
theorem newOK_one {o : AObj} : newOK c [] [(c, o)] = true := by simp [newOK]
/-- an empty row -/
theorem RegV.bs0 {zz : List D} (hg : gOn gd (us l ⟨some t, .bslice 0 z zz [], gd, af⟩) = some true) (hzz : zz.length = z) (hd : Nat.blt t N = true) (hH : restK [] [(c, .tok 0)] H = H)
    (hn : RegV P aops draw N (k + 1) os (c + 1) ((t, .ap c z []) :: l) ((c, .tok 0) :: H) (⟨[c], false⟩ :: A) Q) : RegV P aops draw N k (⟨some t, .bslice 0 z zz [], gd, af⟩ :: os) c l H A Q := by
  have h0 : AOpT P (.bslice 0 z zz []) (us l ⟨some t, .bslice 0 z zz [], gd, af⟩) [] (.sl c 0 0 0 z) [(c, .cells [])] :=
    evOp_ok (own := true) (nl := c) (H := H) (q := ⟨.sl c 0 0 0 z, [], [(c, .cells [])], zz.length = z ∧ 0 * z ≤ 16777216 ∧ ∀ x ∈ ([] : List AV), (cellsAV x).map (·.length) = some z⟩) rfl ⟨hzz, by omega, by simp⟩
  refine RegV.up (fun _ h' => RegU.op hg (h0.toAp rfl (by simp)) hd (fun x hx => by cases hx) newOK_one rfl (q := false) (fun h => by cases h) rfl (H' := (c, .tok 0) :: H) ?_ topK_one h') hn
  rw [hH]; rfl
/-- room is made -/
theorem RegV.mk0 {kn kc : IntKind} {by' : Nat} {zz : List D} (hg : gOn gd (us l ⟨some t, .mksl x y z by' zz, gd, af⟩) = some true) (hx : evA (us l ⟨some t, .mksl x y z by' zz, gd, af⟩) x = some (.d (.int kn n))) (hy : evA (us l ⟨some t, .mksl x y z by' zz, gd, af⟩) y = some (.d (.int kc m)))
    (hzz : zz.length = z) (hby : Nat.blt 0 by' = true) (hn0 : n = 0) (hb : 0 ≤ m ∧ m * by' ≤ 281474976710656) (hd : Nat.blt t N = true) (hH : restK [] [(c, .tok 0)] H = H)
    (hn : RegV P aops draw N (k + 1) os (c + 1) ((t, .ap c z []) :: l) ((c, .tok 0) :: H) (⟨[c], false⟩ :: A) Q) : RegV P aops draw N k (⟨some t, .mksl x y z by' zz, gd, af⟩ :: os) c l H A Q := by
  subst hn0
  have h0 : AOpT P (.mksl x y z by' zz) (us l ⟨some t, .mksl x y z by' zz, gd, af⟩) [] (.sl c 0 (0 : Int).toNat m.toNat z) [(c, .cells (List.replicate m.toNat (zz.map zAV)).flatten)] :=
    evOp_ok (own := true) (nl := c) (H := H) (q := ⟨.sl c 0 (0 : Int).toNat m.toNat z, [], [(c, .cells (List.replicate m.toNat (zz.map zAV)).flatten)], 0 ≤ (0 : Int) ∧ (0 : Int) ≤ m ∧ m * by' ≤ 281474976710656 ∧ 0 < by' ∧ zz.length = z⟩)
      (by simp only [evOp, hx, hy, cond_true]) ⟨by omega, hb.1, hb.2, Nat.le_of_ble_eq_true hby, hzz⟩
  refine RegV.up (fun _ h' => RegU.op hg (h0.toAp rfl ?_) hd (fun x hx => by cases hx) newOK_one rfl (q := false) (fun h => by cases h) rfl (H' := (c, .tok 0) :: H) ?_ topK_one h') hn
  · have : ∀ q, (List.replicate q (zz.map zAV)).flatten.length = q * z := by
      intro q
      induction q with
      | zero => simp
      | succ q ih => rw [List.replicate_succ, List.flatten_cons, List.length_append, ih, List.length_map, hzz, Nat.succ_mul, Nat.add_comm]
    rw [this]; exact Nat.le_refl _
  · rw [hH]; rfl
/-- an element of an array -/
theorem RegV.aad {q l0 : Nat} {kd : IntKind} (hg : gOn gd (us l ⟨some t, .aaddr x y q z, gd, af⟩) = some true) (hx : evA (us l ⟨some t, .aaddr x y q z, gd, af⟩) x = some (.ptr l0 0)) (hy : evA (us l ⟨some t, .aaddr x y q z, gd, af⟩) y = some (.d (.int kd n))) (hb : 0 ≤ n ∧ n < (q : Int)) (hd : Nat.blt t N = true)
    (hn : RegV P aops draw N (k + 1) os c ((t, .ptr l0 (n.toNat * z)) :: l) H (⟨[], true⟩ :: A) Q) : RegV P aops draw N k (⟨some t, .aaddr x y q z, gd, af⟩ :: os) c l H A Q := by
  refine RegV.up (fun _ h' => RegU.op (hin := []) (hout := []) hg (AOpT.aad hx hy hb) hd (fun x hx => by cases hx) rfl rfl (fun _ => rfl) (by rw [Nat.zero_add]) (restK_nil H) rfl h') hn
end
end Go.Proofs.Abs
