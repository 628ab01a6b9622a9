/- Several texts of one proof, one behind the other. -/
import Derived.Test.YtnhjiioiejpbgaaDoorAbsxc
section
/- A struct that is built, its cells as they are (nil stays nil). -/
namespace Go.Proofs.Abs
open Go
set_option linter.unusedVariables false
set_option linter.unusedSectionVars false
set_option linter.unusedSimpArgs false
section
variable {P : Program} {w : World}
theorem compBin_build {op : BinOp} {t : TypeId} {x y : Arg} {zz : List D} {pl : List (Nat × Nat × Arg)} : compBin P op t x y = .build zz pl → False := by
  intro h; unfold compBin at h; repeat' (first | cases h | split at h)
theorem compConv_build {s d : TypeId} {x : Arg} {zz : List D} {pl : List (Nat × Nat × Arg)} : compConv P s d x = .build zz pl → False := by
  intro h; unfold compConv at h; repeat' (first | cases h | split at h)
theorem compCall_build {c : Call} {zz : List D} {pl : List (Nat × Nat × Arg)} : compCall P c = .build zz pl → False := by
  intro h
  unfold compCall at h
  repeat' (first | cases h | split at h)
  all_goals (simp only [sbK, szK] at h; repeat' (first | cases h | split at h))
theorem compOp_build {op : Op} {zz : List D} {pl : List (Nat × Nat × Arg)} (h : compOp P op = .build zz pl) : ∃ t parts fs ps, op = .build t parts ∧ und P t = .struct fs ∧ zeroA P t = some zz ∧ partsA parts.toList = some ps ∧ fs.toList.all (fun (f : Field) => (P.info? f.type).isSome) = true ∧ placesA P fs ps = some pl := by
  cases op with
  | call c => simp only [compOp] at h; exact (compCall_build h).elim
  | build t parts =>
    simp only [compOp] at h
    split at h <;> first | cases h | skip
    rename_i fs z ps hu hz hps
    split at h <;> first | cases h | skip
    rename_i hall
    split at h <;> first | cases h | skip
    rename_i l hl
    exact ⟨t, parts, fs, ps, rfl, hu, hz, hps, hall, hl⟩
  | binOp op t x y t' =>
    simp only [compOp] at h
    split at h
    · exact (compBin_build h).elim
    · cases h
  | convert s d x =>
    simp only [compOp] at h
    split at h
    · exact (compConv_build h).elim
    · cases h
  | makeFunc fn first caps =>
    cases fn with
    | func f =>
      simp only [compOp] at h
      repeat' (first | cases h | split at h)
    | _ => cases h
  | _ =>
    simp only [compOp, szK, sbK, aggK] at h
    repeat' (first | cases h | split at h)
theorem AOpT.bld {args : List (Nat × AV)} {zz : List D} {pl : List (Nat × Nat × Arg)} {L : List AV} {s : Prop} (hL : buildF (evA args) (zz.map zAV) pl = some (L, s)) (hs : s) : AOpT P (.build zz pl) args [] (.agg L) [] := by
  refine ⟨fun x hx hb => (by subst hx; cases hb), fun o hao => ?_⟩
  obtain ⟨t, parts, fs, ps, hop, hu, hz, hps, hall, hpl⟩ := compOp_build hao
  have hund := und_some hu (by simp)
  obtain ⟨j0, z0, hj0, hz0, hcz⟩ := zeroA_inv hz
  obtain ⟨hzz0, hzat⟩ := constDs_at hcz
  refine .pure (by simp [hop]) fun S i w ρ hev hh => ?_
  let pls : List (Nat × Nat) := fs.toList.map fun (f : Field) => (f.offset, ((P.info? f.type).map (·.size)).getD 0)
  have hpls : fs.toList.mapM (fun (f : Field) => (P.info? f.type).map fun i => (f.offset, i.size)) = some pls := by
    have gen : ∀ l : List Field, l.all (fun (f : Field) => (P.info? f.type).isSome) = true → l.mapM (fun (f : Field) => (P.info? f.type).map fun i => (f.offset, i.size)) = some (l.map fun (f : Field) => (f.offset, ((P.info? f.type).map (·.size)).getD 0)) := by
      intro l
      induction l with
      | nil => intro _; rfl
      | cons f r ih =>
        intro h
        simp only [List.all_cons, Bool.and_eq_true] at h
        obtain ⟨j, hj⟩ := Option.isSome_iff_exists.1 h.1
        simp only [List.mapM_cons, hj, Option.map_some, ih h.2, List.map_cons, Option.getD_some]
        rfl
    exact gen _ hall
  have hplace : ∀ (n : Nat) (f : Field) (j : TypeInfo), fs[n]? = some f → P.info? f.type = some j → pls.toArray[n]? = some (f.offset, j.size) := by
    intro n f j hf hj
    simp only [pls, List.getElem?_toArray, List.getElem?_map, Array.getElem?_toList, hf, Option.map_some, hj, Option.getD_some]
  obtain ⟨C, hC1, hC2, hC3⟩ := fill_build (place := (pls.toArray[·]?)) (cells := z0.cells) hplace hev hps hpl hL hs (by simpa using hzz0.symm) fun k h1 h2 => by
    have := zAV_ok (S := S) (i := i) (hzat k (by simpa using h1) (by simpa using h2))
    simpa using this
  have hmk : V S i (.agg L) (.agg C) := by
    have : V S i (.agg L) (.agg C.toList.toArray) := .agg (by simpa using hC2.symm) fun j h1 h2 => hC3 j h1 (by simpa using h2)
    simpa using this
  refine ⟨.agg C, ?_, hmk⟩
  have hbuilt : P.built t (parts.map fun (p : Nat × Operand) => (p.1, ρ p.2)).toList = some C := by
    simp only [Program.built, hj0, hund, hz0, hpls, Array.toList_map]
    exact hC1
  have := run_build (P := P) w t (parts.map fun (p : Nat × Operand) => (p.1, ρ p.2)) C hbuilt
  simp only [execOp, hop, Sem.run_bind]
  have he : (Instr.build t (parts.map fun x => match x with | (i, x) => (i, ρ x))).run P w = .ok (.agg C) w := this
  rw [he]
  rfl
end
section
variable {P : Program} {aops os : List AOper} {draw : Bool} {N k c : Nat} {l : List (Nat × AV)} {H : AHeap} {A : List Tk} {Q : AAct → AHeap → Nat → Prop}
variable {x y : Arg} {gd : Option (Nat × Bool)} {af : List Nat} {t : Nat}
theorem RegV.bld {zz : List D} {pl : List (Nat × Nat × Arg)} {L L' : List AV} {s : Prop} (hg : gOn gd (us l ⟨some t, .build zz pl, gd, af⟩) = some true) (hL : buildF (evA (us l ⟨some t, .build zz pl, gd, af⟩)) (zz.map zAV) pl = some (L, s)) (hs : s) (hd : Nat.blt t N = true) (hv : L = L')
    (hn : RegV P aops draw N (k + 1) os c ((t, .agg L') :: l) H (⟨[], true⟩ :: A) Q) : RegV P aops draw N k (⟨some t, .build zz pl, gd, af⟩ :: os) c l H A Q := by
  subst hv
  exact RegV.up (fun _ h' => RegU.op (hin := []) (hout := []) hg (AOpT.bld hL hs) hd (fun x hx => by cases hx) rfl rfl (fun _ => rfl) rfl (restK_nil H) rfl h') hn
end
end Go.Proofs.Abs
end
section
/- A row of one's own is lent to a callee that only reads it: the callee sees data; what it tells is nothing that lies in the row. -/
namespace Go.Proofs.Abs
open Go
set_option linter.unusedVariables false
set_option linter.unusedSectionVars false
set_option linter.unusedSimpArgs false
section
variable {α : Type} {e : α → D} {z : Nat} {g : Bool}
/-- a row's value, and what the callee sees -/
inductive Bor (l0 : Nat) (e : α → D) (z : Nat) (xs : List α) : AV → AV → Prop
  | same {v} : Bor l0 e z xs v v
  | sub {a a'} (h : Sub a a') : Bor l0 e z xs a a'
  | sl {o len cap : Nat} (h : o + len ≤ xs.length ∧ len ≤ cap) : Bor l0 e z xs (.sl l0 (o * z) len cap z) (.d (.sl (((xs.drop o).take len).map e)))
  | sl0 {len cap : Nat} (h : len ≤ xs.length ∧ len ≤ cap) : Bor l0 e z xs (.sl l0 0 len cap z) (.d (.sl ((xs.take len).map e)))
  | row {n : Nat} (h : n ≤ xs.length) : Bor l0 e z xs (.row l0 z n) (.d (.sl ((xs.take n).map e)))
  | win {len cap : Nat} (h : len ≤ xs.length ∧ cap = xs.length) : Bor l0 e z xs (.sl l0 0 len cap z) (.win (xs.map e) len)
  | agg {L L' : List AV} (hl : L.length = L'.length) (h : ∀ j (h1 : j < L.length) (h2 : j < L'.length), Bor l0 e z xs L[j] L'[j]) : Bor l0 e z xs (.agg L) (.agg L')
/-- what stands for nothing in particular, or says all by itself -/
inductive Loose : AV → AV → Prop
  | int {k n} : Loose (.d (.int k n)) (.d (.int k n))
  | bool {b} : Loose (.d (.bool b)) (.d (.bool b))
  | str {s} : Loose (.d (.str s)) (.d (.str s))
  | any {r} : Loose r .any
  | tup {L L' : List AV} (hl : L.length = L'.length) (h : ∀ j (h1 : j < L.length) (h2 : j < L'.length), Loose L[j] L'[j]) : Loose (.tup L) (.tup L')
theorem Loose.to {r r' : AV} (h : Loose r r') : ∀ {S T : Seal} {i j : Emb} {v : Value}, V S i r v → V T j r' v := by
  induction h with
  | int => intro S T i j v hv; cases hv with | d h => cases h; exact .d .int
  | bool => intro S T i j v hv; cases hv with | d h => cases h; exact .d .bool
  | str => intro S T i j v hv; cases hv with | d h => cases h; exact .d .str
  | any => intro S T i j v hv; exact .any
  | tup hl h ih => intro S T i j v hv; cases hv with | tup h1 h2 => exact .tup (by omega) fun m m1 m2 => ih m (by omega) m1 (h2 m (by omega) m2)
/-- a part of a sealed row reads as data -/
theorem dv_row' (h : EncOK e z g) {S : Seal} {b : Nat} {xs : List α} {c : Array Value} (hs : (cellsD e xs).length ≤ c.size) (hv : ∀ j (h1 : j < (cellsD e xs).length) (h2 : j < c.size), DV S (cellsD e xs)[j] c[j])
    (hle : S.le (S.row b (xs.length * z) c)) (o len cap : Nat) (ho : o + len ≤ xs.length) (hc : len ≤ cap) : DV (S.row b (xs.length * z) c) (.sl (((xs.drop o).take len).map e)) (.slice (some ⟨b, o * z, none⟩) len cap) := by
  have hl : (((xs.drop o).take len).map e).length = len := by simp; omega
  have hk := flat_drop h xs o len ho
  have := DV.sl (S := S.row b (xs.length * z) c) (z := z) (l := ((xs.drop o).take len).map e) (b := b) (o := o * z) (cap := cap) (fun m => c.getD (o * z + m) undef) (fun d hd => by obtain ⟨a, _, rfl⟩ := List.mem_map.1 hd; exact h.len a)
    (cellsD_sc h _) (by rw [hl]; exact hc) (fun m hm => ?_) (fun m hm => ?_)
  · rwa [hl] at this
  · obtain ⟨h2, _⟩ := hk m hm
    have h3 : o * z + m < c.size := by omega
    have h4 : o * z + m < xs.length * z := by rw [← cellsD_len h]; exact h2
    simp only [Seal.row]
    rw [if_pos ⟨trivial, trivial, h4⟩]
    simp [h3]
  · obtain ⟨h2, he⟩ := hk m hm
    have h3 : o * z + m < c.size := by omega
    have := hv (o * z + m) h2 h3
    rw [he] at this
    have := this.mono hle
    have e2 : c.getD (o * z + m) undef = c[o * z + m] := by simp [h3]
    rw [e2]; exact this
theorem Bor.to {l0 b : Nat} {xs : List α} {S S' : Seal} {i : Emb} (hb : i l0 = some b) (hle : S.le S')
    (key : ∀ o len cap, o + len ≤ xs.length → len ≤ cap → DV S' (.sl (((xs.drop o).take len).map e)) (.slice (some ⟨b, o * z, none⟩) len cap)) {a a' : AV} (h : Bor l0 e z xs a a') : ∀ {v : Value}, V S i a v → V S' i a' v := by
  induction h with
  | same => intro v hv; exact hv.mono hle (fun _ _ h => h)
  | sub h => intro v hv; exact (h _ _ _ hv).mono hle (fun _ _ h => h)
  | sl hq => intro v hv; cases hv with | sl hi => rw [hb] at hi; cases hi; exact .d (key _ _ _ hq.1 hq.2)
  | sl0 hq =>
    intro v hv
    cases hv with
    | sl hi =>
      rw [hb] at hi; cases hi
      have := key 0 _ _ (by omega) hq.2
      rw [Nat.zero_mul] at this
      exact .d this
  | row hq =>
    intro v hv
    cases hv with
    | rown => exact .d .nilsl
    | row hi _ _ hl =>
      rw [hb] at hi; cases hi
      have := key 0 _ _ (by omega) hl
      rw [Nat.zero_mul] at this
      exact .d this
  | win hq =>
    intro v hv
    cases hv with
    | sl hi =>
      rw [hb] at hi; cases hi
      have := key 0 xs.length xs.length (by omega) (Nat.le_refl _)
      rw [Nat.zero_mul, List.drop_zero, List.take_length] at this
      have hl : (xs.map e).length = xs.length := by simp
      have h5 : V S' i (.win (xs.map e) _) (.slice (some ⟨b, 0, none⟩) _ (xs.map e).length) := .win (by rw [hl]; exact this) (by rw [hl]; exact hq.1)
      rw [hl] at h5
      rw [hq.2]; exact h5
  | agg hl h ih => intro v hv; cases hv with | agg h1 h2 => exact .agg (by omega) fun m m1 m2 => ih m (by omega) m1 (h2 m (by omega) m2)
inductive BorL (l0 : Nat) (e : α → D) (z : Nat) (xs : List α) : List AV → List AV → Prop
  | nil : BorL l0 e z xs [] []
  | cons {x y : AV} {r s : List AV} : Bor l0 e z xs x y → BorL l0 e z xs r s → BorL l0 e z xs (x :: r) (y :: s)
theorem BorL.get {l0 : Nat} {xs : List α} : ∀ {L L' : List AV}, BorL l0 e z xs L L' → L.length = L'.length ∧ ∀ j (h1 : j < L.length) (h2 : j < L'.length), Bor l0 e z xs L[j] L'[j]
  | _, _, .nil => ⟨rfl, fun j h1 => by simp at h1⟩
  | _, _, .cons h t => by
    obtain ⟨h1, h2⟩ := t.get
    refine ⟨by simp [h1], fun j j1 j2 => ?_⟩
    cases j with
    | zero => exact h
    | succ j => exact h2 j (by simpa using j1) (by simpa using j2)
theorem BorL.agg {l0 : Nat} {xs : List α} {L L' : List AV} (h : BorL l0 e z xs L L') : Bor l0 e z xs (.agg L) (.agg L') := .agg h.get.1 h.get.2
inductive LooseL : List AV → List AV → Prop
  | nil : LooseL [] []
  | cons {x y : AV} {r s : List AV} : Loose x y → LooseL r s → LooseL (x :: r) (y :: s)
theorem LooseL.get : ∀ {L L' : List AV}, LooseL L L' → L.length = L'.length ∧ ∀ j (h1 : j < L.length) (h2 : j < L'.length), Loose L[j] L'[j]
  | _, _, .nil => ⟨rfl, fun j h1 => by simp at h1⟩
  | _, _, .cons h t => by
    obtain ⟨h1, h2⟩ := t.get
    refine ⟨by simp [h1], fun j j1 j2 => ?_⟩
    cases j with
    | zero => exact h
    | succ j => exact h2 j (by simpa using j1) (by simpa using j2)
theorem LooseL.tup {L L' : List AV} (h : LooseL L L') : Loose (.tup L) (.tup L') := .tup h.get.1 h.get.2
theorem ACalls.borrow {P : Program} {f : FuncId} {args views ws : List AV} {r r' : AV} {l0 : Nat} {xs : List α} {o : AObj} {H' : AHeap} (h : ACalls P f ws [] r H') (hlf : AV.ltbL 0 views = true) (he : EncOK e z g) (ho : o = .rowD (cellsD e xs) ∨ o = .rowP (cellsD e xs))
    (hb : BorL l0 e z xs args views) (hs : SubL views ws) (hr : Loose r r') : ACalls P f args [(l0, o)] r' [(l0, o)] := by
  refine ⟨h.1, fun S i w vs hlen hargs hh hf => ?_⟩
  obtain ⟨b1, b2⟩ := hb.get
  obtain ⟨s1, s2⟩ := hs.get
  have fin : ∀ (S' : Seal), S.le S' → (∀ a v, S.cell a = some v → S'.cell a = some v) → HeapRel S' i [] w → (∀ j (h1 : j < views.length) (h2 : j < vs.length), V S' i views[j] vs[j]) →
      Calls P f vs.toArray w fun e w' => ∃ v, e = .returned v ∧ Post S i [(l0, o)] w r' [(l0, o)] v w' := by
    intro S' hle _ hh' hv
    have hlt := AV.ltL_of hlf
    have hv2 : ∀ j (h1 : j < views.length) (h2 : j < vs.length), V S' (fun _ => none) views[j] vs[j] := fun j h1 h2 => (hv j h1 h2).relabel (K := fun l => l < 0) (fun l hl => by omega) (hlt _ (List.getElem_mem h1))
    refine (h.2 S' (fun _ => none) w vs (by omega) (fun j h1 h2 => s2 j (by omega) h1 _ _ _ (hv2 j (by omega) h2)) ⟨hh'.cell, hh'.size, fun l p hp => (by cases hp), fun l p l' p' b q1 => (by cases q1), fun l b hb => (by cases hb), hh'.gr⟩ (fun l _ _ => rfl)).mono ?_
    rintro e1 w1 ⟨v, rfl, S1, i1, hv1, hh1, hi1, ht, hn1⟩
    have hold : ∀ b, b < w.heap.size → w1.heap[b]? = w.heap[b]? := fun b hb => ht.old b hb (fun ⟨l, p, hp, _⟩ => by cases hp)
    refine ⟨v, rfl, S, i, hr.to hv1, ⟨fun a u hu => hh1.cell a u (ht.up.cell _ _ (hle.cell _ _ hu)), fun x n hx => hh1.size x n (ht.up.size _ _ (hle.size _ _ hx)), fun l p hp => ?_, fun l p l' p' x q1 q2 e1 e2 => hh.inj _ _ _ _ x q1 q2 e1 e2, fun l x hx => Nat.lt_of_lt_of_le (hh.dom l x hx) ht.grow, hh.gr⟩,
      fun _ _ h => h, ⟨.refl S, ht.grow, fun x hx _ => hold x hx, fun _ _ h => .inl h, fun _ _ h => .inl h, fun _ h => .inl h, ht.os, ht.out, ht.tape⟩, fun _ _ h => .inl h⟩
    rcases hh.obj l p hp with ⟨x, hx, hrel⟩ | h0
    · exact .inl ⟨x, hx, hrel.later (.refl S) (fun _ _ h => h) (hold x (hh.dom l x hx)) (fun a u hu _ => hu)⟩
    · exact .inr h0
  rcases hh.obj l0 o (List.mem_singleton.2 rfl) with ⟨b, hb, hrel⟩ | ⟨h0, hz⟩
  · obtain ⟨c0, et, hc0, hsz, hv, hns⟩ : ∃ c et, w.heap[b]? = some (.cells c et (0, 0)) ∧ (cellsD e xs).length ≤ c.size ∧ (∀ j (h1 : j < (cellsD e xs).length) (h2 : j < c.size), DV S (cellsD e xs)[j] c[j]) ∧ ∀ a : Addr, a.block = b → S.cell a = none := by
      rcases ho with rfl | rfl
      · obtain ⟨c, et, q1, q2, q3, q4⟩ := hrel
        refine ⟨c, et, q1, by rw [q2]; simp, fun j h1 h2 => ?_, q4⟩
        have := q3 j (by simpa using h1) h2
        rw [List.getElem_map] at this
        exact vD this
      · exact hrel
    obtain ⟨h1, h2, h3⟩ := seal_row (k := xs.length * z) hh (List.mem_singleton.2 rfl) hb hc0 hns
    refine fin _ h1 h1.cell (h2.perm (fun x hx => by cases hx)) fun j j1 j2 => ?_
    exact (b2 j (by omega) j1).to hb h1 (fun o len cap q1 q2 => dv_row' he hsz hv h1 o len cap q1 q2) (hargs j (by omega) j2)
  · have hne : True := trivial
    have hdead : ∀ {a a' : AV}, Bor l0 e z xs a a' → ∀ {v : Value}, V S i a v → V S i a' v := by
      intro a a' hab
      induction hab with
      | same => intro v hv; exact hv
      | sub h => intro v hv; exact h _ _ _ hv
      | sl h => intro v hv; cases hv with | sl h => rw [h0] at h; cases h
      | sl0 h => intro v hv; cases hv with | sl h => rw [h0] at h; cases h
      | row h =>
        intro v hv
        cases hv with
        | rown => exact .d .nilsl
        | row h => rw [h0] at h; cases h
      | win h => intro v hv; cases hv with | sl h => rw [h0] at h; cases h
      | agg hl h ih => intro v hv; cases hv with | agg h1 h2 => exact .agg (by omega) fun m m1 m2 => ih m (by omega) m1 (h2 m (by omega) m2)
    exact fin S (.refl S) (fun _ _ h => h) (hh.perm (fun x hx => by cases hx)) fun j j1 j2 => hdead (b2 j (by omega) j1) (hargs j (by omega) j2)
end
end Go.Proofs.Abs
end
section
/- What is appended to nothing comes from a row of one's own: a copy, which is a new row, or data. -/
namespace Go.Proofs.Abs
open Go
set_option linter.unusedVariables false
set_option linter.unusedSectionVars false
set_option linter.unusedSimpArgs false
theorem Post.framed {S : Seal} {i : Emb} {H' F : AHeap} {w w' : World} {r : AV} {v : Value} (h : Post S i [] w r H' v w') (hF : HeapRel S i F w) (hd : ∀ l ∈ H'.keys, l ∉ F.keys) : Post S i F w r (H' ++ F) v w' := by
  obtain ⟨S', i', hv, hh, hle, ht, hn⟩ := h
  have hFi : ∀ l o b, (l, o) ∈ F → i' l = some b → i l = some b := by
    intro l o b hm hb
    rcases hn l b hb with hb | hb
    · exact hb
    · exact absurd (List.mem_map.2 ⟨_, hm, rfl⟩) (hd l hb.1)
  refine ⟨S', i', hv, HeapRel.frame (H := []) hF (fun l hl => by cases hl) hh hle hn hd ht, hle, Tr.frame (H := []) ht hFi, fun l b hb => ?_⟩
  rcases hn l b hb with h | ⟨h1, h2⟩
  · exact .inl h
  · exact .inr ⟨by simp only [AHeap.keys, List.map_append, List.mem_append]; exact .inl h1, hd l h1⟩
section
variable {P : Program} {α : Type} {e : α → D} {z : Nat} {g : Bool}
/-- a row's value, and its elements -/
inductive Src (l0 z : Nat) (xs : List α) : AV → List α → Prop
  | sl {o len cap : Nat} (h : o + len ≤ xs.length ∧ len ≤ cap) : Src l0 z xs (.sl l0 (o * z) len cap z) ((xs.drop o).take len)
  | sl0 {len cap : Nat} (h : len ≤ xs.length ∧ len ≤ cap) : Src l0 z xs (.sl l0 0 len cap z) (xs.take len)
  | row {n : Nat} (h : n ≤ xs.length) : Src l0 z xs (.row l0 z n) (xs.take n)
/-- the cells of a row of one's own, as they are read -/
theorem own_src {S : Seal} {i : Emb} {w : World} {l0 : Nat} {o : AObj} {xs ys : List α} {y : AV} {vy : Value} (he : EncOK e z g) (ho : o = .rowD (cellsD e xs) ∨ o = .rowP (cellsD e xs)) (hh : HeapRel S i [(l0, o)] w)
    (hb : Src l0 z xs y ys) (hv : V S i y vy) :
    ∃ new : List Value, new.length = ys.length * z ∧ (∀ m (h1 : m < (flat (ys.map e)).length) (h2 : m < new.length), DV S (flat (ys.map e))[m] new[m]) ∧
      ∀ w' : World, (∀ a, w'.cell? a = w.cell? a) → (Builtin.lenOf vy).run P w' = .ok ys.length w' ∧ (Builtin.firstCells z ys.length vy).run P w' = .ok new.toArray w' := by
  have nil : ∀ ys : List α, ys = [] → ∃ new : List Value, new.length = ys.length * z ∧ (∀ m (h1 : m < (flat (ys.map e)).length) (h2 : m < new.length), DV S (flat (ys.map e))[m] new[m]) ∧
      ∀ w' : World, (∀ a, w'.cell? a = w.cell? a) → (Builtin.lenOf (.slice none 0 0)).run P w' = .ok ys.length w' ∧ (Builtin.firstCells z ys.length (.slice none 0 0)).run P w' = .ok new.toArray w' := by
    rintro ys rfl
    exact ⟨[], by simp, fun m h1 => by simp [flat] at h1, fun w' _ => ⟨rfl, by simp [Builtin.firstCells]⟩⟩
  have row : ∀ (b off len cap : Nat), i l0 = some b → off + len ≤ xs.length → ys = (xs.drop off).take len → ∃ new : List Value, new.length = ys.length * z ∧ (∀ m (h1 : m < (flat (ys.map e)).length) (h2 : m < new.length), DV S (flat (ys.map e))[m] new[m]) ∧
      ∀ w' : World, (∀ a, w'.cell? a = w.cell? a) → (Builtin.lenOf (.slice (some ⟨b, off * z, none⟩) len cap)).run P w' = .ok ys.length w' ∧ (Builtin.firstCells z ys.length (.slice (some ⟨b, off * z, none⟩) len cap)).run P w' = .ok new.toArray w' := by
    intro b off len cap hb hle hys
    rcases hh.obj l0 o (List.mem_singleton.2 rfl) with ⟨b', hb', hrel⟩ | ⟨h0, _⟩
    case inr => rw [hb] at h0; cases h0
    rw [hb] at hb'; cases hb'
    obtain ⟨c0, et, hc0, hsz, hvv, hns⟩ : ∃ c et, w.heap[b]? = some (.cells c et (0, 0)) ∧ (cellsD e xs).length ≤ c.size ∧ (∀ j (h1 : j < (cellsD e xs).length) (h2 : j < c.size), DV S (cellsD e xs)[j] c[j]) ∧ ∀ a : Addr, a.block = b → S.cell a = none := by
      rcases ho with rfl | rfl
      · obtain ⟨c, et, q1, q2, q3, q4⟩ := hrel
        refine ⟨c, et, q1, by rw [q2]; simp, fun j h1 h2 => ?_, q4⟩
        have := q3 j (by simpa using h1) h2
        rw [List.getElem_map] at this
        exact vD this
      · exact hrel
    have hl : ys.length = len := by rw [hys]; simp; omega
    have hk := flat_drop he xs off len hle
    have hcl : (cellsD e xs).length = xs.length * z := cellsD_len he xs
    have hin : ∀ k, k < ys.length * z → off * z + k < c0.size := by
      intro k hk
      have : (off + len) * z ≤ xs.length * z := Nat.mul_le_mul_right _ hle
      rw [Nat.add_mul] at this
      rw [hl] at hk
      omega
    refine ⟨(List.range (ys.length * z)).map fun k => c0.getD (off * z + k) undef, by simp, fun m h1 h2 => ?_, fun w' hw => ⟨?_, ?_⟩⟩
    · have h3 : m < (cellsD e ((xs.drop off).take len)).length := by rw [← hys]; exact h1
      obtain ⟨h4, h5⟩ := hk m h3
      have h6 : off * z + m < c0.size := by omega
      have := hvv (off * z + m) h4 h6
      rw [h5] at this
      have e2 : c0.getD (off * z + m) undef = c0[off * z + m] := by simp [h6]
      have e3 : (flat (ys.map e))[m] = (cellsD e ((xs.drop off).take len))[m] := by subst hys; rfl
      simp only [List.getElem_map, List.getElem_range, e2, e3]
      exact this
    · rw [hl]; rfl
    · simp only [Builtin.firstCells]
      refine run_loadCells w' _ (ys.length * z) (fun k => c0.getD (off * z + k) undef) fun k hk => ?_
      rw [addr_add, hw]
      have h6 := hin k hk
      unfold World.cell?
      simp only [hc0]
      simp [h6]
  cases hb with
  | sl hq => cases hv with | sl hi => exact row _ _ _ _ hi hq.1 rfl
  | sl0 hq => cases hv with | sl hi => simpa using row _ 0 _ _ hi (by omega) rfl
  | row hq =>
    cases hv with
    | rown => simpa using nil [] rfl
    | row hi _ _ hl => simpa using row _ 0 _ _ hi (by omega) rfl
theorem newOK_own {c l0 : Nat} {o p : AObj} (h : l0 < c) : newOK c [(l0, o)] [(c, p), (l0, o)] = true := by
  simp [newOK, hasK, h]
/-- to nothing is appended what is in a row of one's own: the two ways to see it -/
theorem append_own {A : List (Nat × AV)} {x y : Arg} {by' nl l0 : Nat} {zz : List D} {yv : AV} {xs ys : List α} {o : AObj} (he : EncOK e z g) (ho : o = .rowD (cellsD e xs) ∨ o = .rowP (cellsD e xs)) (hx : evA A x = some .nils) (hy : evA A y = some yv) (hsrc : Src l0 z xs yv ys)
    (hne : nl ≠ l0) (hzl : zz.length = z) (hby : 0 < by') (hfit : ys.length * by' ≤ 281474976710656) :
    AOpT P (.app x y z by' zz) A [(l0, o)] (.row nl z ys.length) [(nl, .rowP (flat (ys.map e))), (l0, o)] ∧ AOpT P (.app x y z by' zz) A [(l0, o)] (.ap nl z (ys.map e)) [(nl, .tok ((ys.map e).length * z)), (l0, o)] := by
  have main : ∀ o0 : Oper, compOp P o0.op = .app x y z by' zz → OpT P (evL A) o0 [(l0, o)] (.row nl z ys.length) [(nl, .rowP (flat (ys.map e))), (l0, o)] ∧ OpT P (evL A) o0 [(l0, o)] (.ap nl z (ys.map e)) [(nl, .tok ((ys.map e).length * z)), (l0, o)] := by
    intro o0 hao
    obtain ⟨c, hop, hk⟩ := compOp_app hao
    cases hk with
    | app hc ha hxa hya ht hu hu2 hz hj =>
      rename_i x0 y0 t u ee ts j
      obtain ⟨j', z0, hj', hz0, hcz⟩ := zeroA_inv hz
      rw [hj] at hj'
      cases hj'
      have hzz : zz.length = z0.cells.size := by simpa using (constDs_at hcz).1
      have hut := und_some hu (by simp)
      obtain ⟨d, hd, huu⟩ : ∃ d, ((∃ e', d = .slice e') ∨ d = .string) ∧ P.underlying u = some d := by
        rcases hu2 with ⟨e', h⟩ | h
        · exact ⟨_, .inl ⟨e', rfl⟩, und_some h (by simp)⟩
        · exact ⟨_, .inr rfl, und_some h (by simp)⟩
      have h0 : c.argTypes[0]? = some t := arr0 ht
      have h1 : c.argTypes[1]? = some u := by rw [← Array.getElem?_toList, ht]; rfl
      have hexec : ∀ (ρ : Operand → Value) (w : World), (execOp ρ o0).run P w = ((Builtin.append_ c.argTypes o0.type #[ρ x0, ρ y0]).run P w).andThen fun v w' => .ok (.value v) w' := by
        intro ρ w
        simp only [execOp, hop, resolve, hc, arr2 ha, List.map_toArray, List.map_cons, List.map_nil, Sem.run_bind, Sem.run_pure, Result.andThen_ok, invoke, builtin]
      have two : ∀ S i w ρ, (∀ x a, evL A x = some a → V S i a (ρ x)) → HeapRel S i [(l0, o)] w → i nl = none → ∃ v w', (execOp ρ o0).run P w = .ok (.value v) w' ∧ Post S i [] w (.row nl j.size ys.length) [(nl, .rowP (flat (ys.map e)))] v w' ∧ Post S i [] w (.ap nl j.size (ys.map e)) [(nl, .tok ((ys.map e).length * j.size))] v w' := by
        intro S i w ρ hev hh hfn
        have hhe : HeapRel S i [] w := hh.perm fun x hx => by cases hx
        have hxn : ρ x0 = .slice none 0 0 := by
          have := argV hev hxa hx
          generalize ρ x0 = v at this
          cases this; rfl
        have hvy := argV hev hya hy
        rw [hexec, hxn]
        obtain ⟨new, hn1, hn3, hn4⟩ := own_src (P := P) he ho hh hsrc hvy
        have hyz : ∀ d ∈ ys.map e, d.cells.length = j.size := mapLen he.len
        have hfl := flat_len hyz
        rw [List.length_map] at hfl
        have w0 := hn4 w (fun _ => rfl)
        have w1 := hn4 w.drew (fun a => World.cell?_drew w a)
        by_cases hnil : ys = []
        · subst hnil
          simp only [List.length_nil] at w0
          rw [run_append_none' h0 h1 hut huu hd hj w0.1 w0.2, Result.andThen_ok]
          refine ⟨_, _, rfl, post_rowNil hhe hfn, S, i, .apn, ⟨hhe.cell, hhe.size, fun l o hm => ?_, fun l o l' o' b hm hm' _ _ => ?_, hhe.dom, hhe.gr⟩, fun _ _ h => h, ⟨.refl S, Nat.le_refl _, fun _ _ _ => rfl, fun _ _ h => .inl h, fun _ _ h => .inl h, ?_, rfl, rfl, rfl⟩, fun _ _ h => .inl h⟩
          · cases List.mem_singleton.1 hm
            exact .inr ⟨hfn, by simp [AObj.nil0]⟩
          · cases List.mem_singleton.1 hm; cases List.mem_singleton.1 hm'; rfl
          · rintro b ⟨l, o, hm, hb⟩
            cases List.mem_singleton.1 hm
            rw [hfn] at hb; cases hb
        · have hpos : 0 < ys.length := List.length_pos_iff.2 hnil
          have hnc : Builtin.nextslicecap (ys.length) 0 = ys.length := nextslicecap_zero hpos
          have hlen : ys.length ≤ 281474976710656 := Nat.le_trans (Nat.le_mul_of_pos_right _ hby) hfit
          have hrun := run_append_grows' (P := P) (w := w) (ty := o0.type) h0 h1 hut huu hd hj hz0 (base := none) (sLen := 0) (sCap := 0) (old := #[]) w0.1 w1.2 (by simp [Builtin.firstCells]) (by omega) (by omega)
            (by rw [Nat.zero_add, hnc]; exact hfit)
          rw [Nat.zero_add] at hrun
          rw [hrun, Result.andThen_ok]
          have hcap := grownCap_ge w ys.length 0 ee
          generalize hgc : grownCap w ys.length 0 ee = cap at *
          generalize hC : #[] ++ new.toArray ++ Builtin.zeroCells z0.cells (cap - ys.length) = C at *
          have hnb : NewBlk w (w.drew.alloc (.cells C ee)) C ee (0, 0) := by
            have := newblk_alloc w.drew C ee
            exact ⟨this.size, this.old, this.new, this.os, this.out, this.tape⟩
          have hsz : C.size = cap * j.size := by
            rw [← hC]
            simp only [Array.size_append, size_zeroCells, ← hzz, hzl, List.size_toArray, hn1, List.size_toArray, List.length_nil, Nat.zero_add]
            rw [← Nat.add_mul]
            congr 1; omega
          have hCn : ∀ m (hm : m < new.length), C[m]? = some new[m] := by
            intro m hm
            rw [← hC]
            simp only [Array.empty_append]
            rw [Array.getElem?_append_left (by simpa using hm)]
            simp [hm]
          refine ⟨_, _, rfl, post_row hhe hnb hfn ?_ (fun m h1 h2 => ?_) (by rw [hsz]; exact Nat.le_refl _) hcap, ?_⟩
          · rw [hsz, hfl]; exact Nat.mul_le_mul_right _ hcap
          · have h3 : m < new.length := by rw [hn1, ← hfl]; exact h1
            have h4 : C[m] = new[m] := (Array.getElem?_eq_some_iff.1 (hCn m h3)).2
            rw [h4]
            exact hn3 m h1 h3
          · have hdv : DV (S.add w.heap.size ((ys.map e).length * j.size) C) (.sl (ys.map e)) (.slice (some ⟨w.heap.size, 0, none⟩) (ys.map e).length cap) :=
              dv_new (cs := new) hhe hyz (cellsD_sc he ys) (by rw [List.length_map]; exact hn1) hCn hn3 (by rw [List.length_map]; exact hcap)
            have hp := post_tok (nl := nl) (k := (ys.map e).length * j.size) (r := .ap nl j.size (ys.map e)) (v := .slice (some ⟨w.heap.size, 0, none⟩) (ys.map e).length cap) hhe hnb hfn
              (.ap (n := C.size) (by simp [Emb.set]) hdv hyz (by simp [Seal.add]) (by rw [hsz]; exact Nat.le_refl _))
            rw [List.length_map] at hp ⊢
            exact hp
      refine ⟨⟨by simp [hop], fun S i w ρ hev hh hf => ?_⟩, by simp [hop], fun S i w ρ hev hh hf => ?_⟩
      · have hfn : i nl = none := hf nl (by simp [AHeap.keys]) (by simpa [AHeap.keys] using hne)
        obtain ⟨v, w', hr, hp, -⟩ := two S i w ρ hev hh hfn
        rw [hr]
        exact hp.framed hh (fun l hl => by simp only [AHeap.keys, List.map_cons, List.map_nil, List.mem_singleton] at hl ⊢; subst hl; exact hne)
      · have hfn : i nl = none := hf nl (by simp [AHeap.keys]) (by simpa [AHeap.keys] using hne)
        obtain ⟨v, w', hr, -, hp⟩ := two S i w ρ hev hh hfn
        rw [hr]
        exact hp.framed hh (fun l hl => by simp only [AHeap.keys, List.map_cons, List.map_nil, List.mem_singleton] at hl ⊢; subst hl; exact hne)
  exact ⟨⟨fun w hw hb => (by subst hw; cases hb), fun o0 hao => (main o0 hao).1⟩, ⟨fun w hw hb => (by subst hw; cases hb), fun o0 hao => (main o0 hao).2⟩⟩
end
section
variable {P : Program} {aops os : List AOper} {draw : Bool} {N k c : Nat} {l : List (Nat × AV)} {H H' : AHeap} {A : List Tk} {Q : AAct → AHeap → Nat → Prop}
variable {x y : Arg} {gd : Option (Nat × Bool)} {af : List Nat} {t : Nat} {α : Type} {e : α → D} {z : Nat} {g : Bool} {xs ys : List α} {l0 : Nat} {o : AObj} {yv : AV}
theorem restK_own (H : AHeap) (l0 c : Nat) (a b a' b' : AObj) : restK [(l0, a)] [(c, b), (l0, a)] H = restK [(l0, a')] [(c, b'), (l0, a')] H := by
  induction H with
  | nil => rfl
  | cons p r ih => obtain ⟨l, o⟩ := p; simp only [restK, hasK, ih]
theorem RegV.appG {by' : Nat} {zz : List D} (hg : gOn gd (us l ⟨some t, .app x y z by' zz, gd, af⟩) = some true) (hx : evA (us l ⟨some t, .app x y z by' zz, gd, af⟩) x = some .nils) (hy : evA (us l ⟨some t, .app x y z by' zz, gd, af⟩) y = some yv)
    (hs : Src l0 z xs yv ys) (he : EncOK e z g) (hl : lkH H l0 = some o) (ho : o = .rowD (cellsD e xs) ∨ o = .rowP (cellsD e xs)) (hzl : zz.length = z) (hby : Nat.blt 0 by' = true) (hfit : ys.length * by' ≤ 281474976710656) (hd : Nat.blt t N = true) (hne : Nat.beq c l0 = false)
    (hn0 : newOK c [(l0, o)] [(c, .rowP (cellsD e ys)), (l0, o)] = true) (hF : nodupH [(c, AObj.rowP (cellsD e ys)), (l0, o)] = true) (hc : topK c [(c, AObj.rowP (cellsD e ys)), (l0, o)] = c + 1) (hH : appK [(c, .rowP (cellsD e ys)), (l0, o)] (restK [(l0, o)] [(c, .rowP (cellsD e ys)), (l0, o)] H) = H')
    (hn : RegV P aops draw N (k + 1) os (c + 1) ((t, .row c z ys.length) :: l) H' (⟨[l0, c, l0], false⟩ :: A) Q) : RegV P aops draw N k (⟨some t, .app x y z by' zz, gd, af⟩ :: os) c l H A Q := by
  have hne' : c ≠ l0 := fun h => by rw [h, Nat.beq_refl] at hne; cases hne
  exact RegV.up (fun _ h' => RegU.op hg (append_own (P := P) (nl := c) he ho hx hy hs hne' hzl (Nat.le_of_ble_eq_true hby) hfit).1 hd (fun y hy => by cases List.mem_singleton.1 hy; exact lkH_mem hl) hn0 hF (q := false) (fun h => by cases h) rfl hH hc h') hn
theorem RegV.appF {by' : Nat} {zz : List D} (hg : gOn gd (us l ⟨some t, .app x y z by' zz, gd, af⟩) = some true) (hx : evA (us l ⟨some t, .app x y z by' zz, gd, af⟩) x = some .nils) (hy : evA (us l ⟨some t, .app x y z by' zz, gd, af⟩) y = some yv)
    (hs : Src l0 z xs yv ys) (he : EncOK e z g) (hl : lkH H l0 = some o) (ho : o = .rowD (cellsD e xs) ∨ o = .rowP (cellsD e xs)) (hzl : zz.length = z) (hby : Nat.blt 0 by' = true) (hfit : ys.length * by' ≤ 281474976710656) (hd : Nat.blt t N = true) (hne : Nat.beq c l0 = false)
    (hn0 : newOK c [(l0, o)] [(c, .tok ((ys.map e).length * z)), (l0, o)] = true) (hF : nodupH [(c, AObj.tok ((ys.map e).length * z)), (l0, o)] = true) (hc : topK c [(c, AObj.tok ((ys.map e).length * z)), (l0, o)] = c + 1) (hH : appK [(c, .tok ((ys.map e).length * z)), (l0, o)] (restK [(l0, o)] [(c, .tok ((ys.map e).length * z)), (l0, o)] H) = H')
    (hn : RegV P aops draw N (k + 1) os (c + 1) ((t, .ap c z (ys.map e)) :: l) H' (⟨[l0, c, l0], false⟩ :: A) Q) : RegV P aops draw N k (⟨some t, .app x y z by' zz, gd, af⟩ :: os) c l H A Q := by
  have hne' : c ≠ l0 := fun h => by rw [h, Nat.beq_refl] at hne; cases hne
  exact RegV.up (fun _ h' => RegU.op hg (append_own (P := P) (nl := c) he ho hx hy hs hne' hzl (Nat.le_of_ble_eq_true hby) hfit).2 hd (fun y hy => by cases List.mem_singleton.1 hy; exact lkH_mem hl) hn0 hF (q := false) (fun h => by cases h) rfl hH hc h') hn
end
end Go.Proofs.Abs
end
section
/- A copy that is a row of one's own. -/
namespace Go.Proofs.Abs
open Go
set_option linter.unusedVariables false
set_option linter.unusedSectionVars false
set_option linter.unusedSimpArgs false
section
variable {P : Program} {w : World}
theorem run_append_none'' {ats : Array TypeId} {t u ty e : TypeId} {j : TypeInfo} {d : TypeDesc} (h0 : ats[0]? = some t) (h1 : ats[1]? = some u) (ht : P.underlying t = some (.slice e))
    (hu : P.underlying u = some d) (hd : (∃ e', d = .slice e') ∨ d = .string) (hj : P.info? e = some j) {x : Value} {base : Option Addr} {new : Array Value}
    (hn : (Builtin.lenOf x).run P w = .ok 0 w) (hf : (Builtin.firstCells j.size 0 x).run P w = .ok new w) (hs : new.size = 0) :
    (Builtin.append_ ats ty #[.slice base 0 0, x]).run P w = .ok (.slice base 0 0) w := by
  have he : new = #[] := by cases new; simp_all
  subst he
  rcases hd with ⟨e', rfl⟩ | rfl
  all_goals
    cases base with
    | none => simp [Builtin.append_, h0, h1, run_underlying ht, run_underlying hu, sizeOf, typeInfo, hj, hn, hf]
    | some a =>
      simp [Builtin.append_, h0, h1, run_underlying ht, run_underlying hu, sizeOf, typeInfo, hj, hn, hf]
      rfl
variable {α : Type} {e : α → D} {z : Nat} {g : Bool}
theorem AOpT.appS0 {A : List (Nat × AV)} {x y : Arg} {by' nl l0 off : Nat} {zz : List D} {yv : AV} {ys : List D} (hx : evA A x = some (.sl l0 off 0 0 z)) (hy : evA A y = some yv) (hsrc : toSrc yv = some ys) (hne : nl ≠ l0) (hoff : off = 0)
    (hzl : zz.length = z) (hby : 0 < by') (hfit : ys.length * by' ≤ 281474976710656) (hyz : ∀ d ∈ ys, d.cells.length = z) : AOpT P (.app x y z by' zz) A [(l0, .cells [])] (.row nl z ys.length) [(nl, .rowP (flat ys))] := by
  subst hoff
  refine ⟨fun w hw hb => (by subst hw; cases hb), fun o hao => ?_⟩
  obtain ⟨c, hop, hk⟩ := compOp_app hao
  cases hk with
  | app hc ha hxa hya ht hu hu2 hz hj =>
    rename_i x0 y0 t u ee ts j
    obtain ⟨j', z0, hj', hz0, hcz⟩ := zeroA_inv hz
    rw [hj] at hj'
    cases hj'
    have hzz : zz.length = z0.cells.size := by simpa using (constDs_at hcz).1
    have hut := und_some hu (by simp)
    obtain ⟨d, hd, huu⟩ : ∃ d, ((∃ e', d = .slice e') ∨ d = .string) ∧ P.underlying u = some d := by
      rcases hu2 with ⟨e', h⟩ | h
      · exact ⟨_, .inl ⟨e', rfl⟩, und_some h (by simp)⟩
      · exact ⟨_, .inr rfl, und_some h (by simp)⟩
    have h0 : c.argTypes[0]? = some t := arr0 ht
    have h1 : c.argTypes[1]? = some u := by rw [← Array.getElem?_toList, ht]; rfl
    refine ⟨by simp [hop], fun S i w ρ hev hh hf => ?_⟩
    have hfn : i nl = none := hf nl (by simp [AHeap.keys]) (by simpa [AHeap.keys] using hne)
    have hhe : HeapRel S i [] w := hh.perm fun x hx => by cases hx
    have hvx := argV hev hxa hx
    generalize hxv : ρ x0 = vx at hvx
    cases hvx with
    | sl hi =>
      rename_i b
      have hvy := argV hev hya hy
      have hexec : (execOp ρ o).run P w = ((Builtin.append_ c.argTypes o.type #[ρ x0, ρ y0]).run P w).andThen fun v w' => .ok (.value v) w' := by
        simp only [execOp, hop, resolve, hc, arr2 ha, List.map_toArray, List.map_cons, List.map_nil, Sem.run_bind, Sem.run_pure, Result.andThen_ok, invoke, builtin]
      rw [hexec, hxv]
      obtain ⟨new, hn1, hn2, hn3, hn4⟩ := src_ok (P := P) hsrc hvy hyz
      cases ys with
      | nil =>
        rw [run_append_none'' h0 h1 hut huu hd hj (hn4 w hh.cell).1 (hn4 w hh.cell).2 (by simp [hn1]), Result.andThen_ok]
        rcases hh.obj l0 _ (List.mem_singleton.2 rfl) with ⟨b', hb', c0, et, hc0, hsz, hv, hns⟩ | ⟨h, _⟩
        case inr => rw [hi] at h; cases h
        rw [hi] at hb'; cases hb'
        have hp : Post S i [(l0, .cells [])] w (.ptr nl 0) [(nl, .cells [])] (.pointer (some ⟨b, 0, none⟩)) w → True := fun _ => trivial
        have hset : (i.set nl b) nl = some b := by simp [Emb.set]
        have hle : i.le (i.set nl b) := by
          intro l x hx
          simp only [Emb.set]
          split
          · rename_i h; subst h; rw [hfn] at hx; cases hx
          · exact hx
        refine ⟨S.row b 0 c0, i.set nl b, ?_, ⟨fun a v ha => ?_, fun x n hx => ?_, fun l p hp => ?_, fun l p l' p' x q1 q2 _ _ => ?_, fun l x hx => ?_, fun a v ha => (by simp only [Seal.row, Nat.not_lt_zero, and_false, if_false]; exact hh.gr a v ha)⟩, hle, ⟨⟨fun a v ha => ?_, fun x n hx => ?_⟩, Nat.le_refl _, fun _ _ _ => rfl, fun a v ha => ?_, fun l x hx => ?_, fun x hx => ?_, rfl, rfl, rfl⟩, fun l x hx => ?_⟩
        · exact .row hset (m := c0.size) (by simp [Seal.row]) (by simp) (Nat.le_refl _)
        · simp only [Seal.row, Nat.not_lt_zero, and_false, if_false] at ha
          exact hh.cell a v ha
        · simp only [Seal.row] at hx
          split at hx
          · rename_i h
            subst h
            cases hx
            exact ⟨c0, et, _, hc0, rfl⟩
          · exact hh.size x n hx
        · cases List.mem_singleton.1 hp
          refine .inl ⟨b, hset, c0, et, hc0, by simp [flat], fun j h1 => by simp [flat] at h1, fun a ha => ?_⟩
          simp only [Seal.row, Nat.not_lt_zero, and_false, if_false]
          exact hns a ha
        · cases List.mem_singleton.1 q1; cases List.mem_singleton.1 q2; rfl
        · simp only [Emb.set] at hx
          split at hx
          · cases hx; exact hh.dom l0 b hi
          · exact hh.dom l x hx
        · simp only [Seal.row, Nat.not_lt_zero, and_false, if_false]
          exact ha
        · simp only [Seal.row]
          split
          · rename_i h
            subst h
            obtain ⟨c', e', f', q1, q2⟩ := hh.size _ n hx
            rw [hc0] at q1
            cases q1
            rw [q2]
          · exact hx
        · simp only [Seal.row, Nat.not_lt_zero, and_false, if_false] at ha
          exact .inl ha
        · simp only [Emb.set] at hx
          split at hx
          · cases hx; exact .inr (.inl ⟨l0, _, List.mem_singleton.2 rfl, hi⟩)
          · exact .inl hx
        · obtain ⟨l, p, hm, hb⟩ := hx
          cases List.mem_singleton.1 hm
          rw [hset] at hb; cases hb
          exact .inl ⟨l0, _, List.mem_singleton.2 rfl, hi⟩
        · simp only [Emb.set] at hx
          split at hx
          · rename_i h
            subst h
            exact .inr ⟨by simp [AHeap.keys], by simpa [AHeap.keys] using hne⟩
          · exact .inl hx
      | cons y1 yr =>
        have hnc : Builtin.nextslicecap ((y1 :: yr).length) 0 = (y1 :: yr).length := nextslicecap_zero (by simp)
        have hlen : (y1 :: yr).length ≤ 281474976710656 := Nat.le_trans (Nat.le_mul_of_pos_right _ hby) hfit
        have hcell : ∀ a v, S.cell a = some v → w.drew.cell? a = some v := fun a v h => by rw [World.cell?_drew]; exact hh.cell a v h
        have hz' : (Builtin.firstCells j.size 0 (.slice (some ⟨b, 0, none⟩) 0 0)).run P w.drew = .ok #[] w.drew := by
          have h9 := run_loadCells (P := P) w.drew ⟨b, 0, none⟩ (0 * j.size) (fun _ => undef) fun k hk => by simp at hk
          simp only [Builtin.firstCells]
          rw [h9]
          simp
        have hrun := run_append_grows' (P := P) (w := w) (ty := o.type) h0 h1 hut huu hd hj hz0 (base := some ⟨b, 0, none⟩) (sLen := 0) (sCap := 0) (old := #[]) (hn4 w hh.cell).1 (hn4 w.drew hcell).2 hz' (by simp) (by simp at hlen ⊢; omega)
          (by rw [Nat.zero_add, hnc]; exact hfit)
        rw [Nat.zero_add] at hrun
        rw [hrun, Result.andThen_ok]
        have hcap := grownCap_ge w (y1 :: yr).length 0 ee
        generalize hgc : grownCap w (y1 :: yr).length 0 ee = cap at *
        generalize hC : #[] ++ new.toArray ++ Builtin.zeroCells z0.cells (cap - (y1 :: yr).length) = C at *
        have hnb : NewBlk w (w.drew.alloc (.cells C ee)) C ee (0, 0) := by
          have := newblk_alloc w.drew C ee
          exact ⟨this.size, this.old, this.new, this.os, this.out, this.tape⟩
        have hfl := flat_len hyz
        have hsz : C.size = cap * j.size := by
          rw [← hC]
          simp only [Array.size_append, size_zeroCells, ← hzz, hzl, List.size_toArray, hn1, List.size_toArray, List.length_nil, Nat.zero_add]
          rw [← Nat.add_mul]
          congr 1; omega
        refine Post.more (post_row hhe hnb hfn ?_ (fun m h1 h2 => ?_) (by rw [hsz]; exact Nat.le_refl _) hcap) (fun l hl => by simp only [AHeap.keys, List.map_cons, List.map_nil, List.mem_singleton] at hl ⊢; subst hl; exact hne)
        · rw [hsz, hfl]; exact Nat.mul_le_mul_right _ hcap
        · have h3 : m < new.length := by rw [hn1, ← hfl]; exact h1
          have : C[m]? = some new[m] := by
            rw [← hC]
            simp only [Array.empty_append]
            rw [Array.getElem?_append_left (by simpa using h3)]
            simp [h3]
          have h4 : C[m] = new[m] := by
            have := (Array.getElem?_eq_some_iff.1 this).2
            exact this
          rw [h4]
          exact hn3 m h1 h3
end
section
variable {P : Program} {aops os : List AOper} {draw : Bool} {N k c : Nat} {l : List (Nat × AV)} {H H' : AHeap} {A : List Tk} {Q : AAct → AHeap → Nat → Prop}
variable {x y : Arg} {gd : Option (Nat × Bool)} {af : List Nat} {t : Nat} {α : Type} {e : α → D} {z : Nat} {g : Bool} {ys : List α} {l0 : Nat}
theorem RegV.appS0 {by' : Nat} {zz : List D} (hg : gOn gd (us l ⟨some t, .app x y z by' zz, gd, af⟩) = some true) (hx : evA (us l ⟨some t, .app x y z by' zz, gd, af⟩) x = some (.sl l0 0 0 0 z)) (hy : (evA (us l ⟨some t, .app x y z by' zz, gd, af⟩) y).bind toSrc = some (ys.map e)) (he : EncOK e z g)
    (hl : lkH H l0 = some (.cells [])) (hzl : zz.length = z) (hby : Nat.blt 0 by' = true) (hfit : ys.length * by' ≤ 281474976710656) (hd : Nat.blt t N = true) (hne : Nat.beq c l0 = false)
    (hn0 : newOK c [(l0, .cells [])] [(c, .rowP (cellsD e ys))] = true) (hc : topK c [(c, AObj.rowP (cellsD e ys))] = c + 1) (hH : appK [(c, .rowP (cellsD e ys))] (restK [(l0, .cells [])] [(c, .rowP (cellsD e ys))] H) = H')
    (hn : RegV P aops draw N (k + 1) os (c + 1) ((t, .row c z ys.length) :: l) H' (⟨[l0, c], false⟩ :: A) Q) : RegV P aops draw N k (⟨some t, .app x y z by' zz, gd, af⟩ :: os) c l H A Q := by
  have hne' : c ≠ l0 := fun h => by rw [h, Nat.beq_refl] at hne; cases hne
  obtain ⟨yv, hyv, hsrc⟩ := Option.bind_eq_some_iff.1 hy
  have h0 := AOpT.appS0 (P := P) (nl := c) hx hyv hsrc hne' rfl hzl (Nat.le_of_ble_eq_true hby) (by simpa using hfit) (mapLen he.len)
  rw [List.length_map] at h0
  exact RegV.up (fun _ h' => RegU.op hg h0 hd (fun y hy => by cases List.mem_singleton.1 hy; exact lkH_mem hl) hn0 rfl (q := false) (fun h => by cases h) rfl hH hc h') hn
end
/-- nothing is a row of one's own without elements -/
theorem Sub.nilRow {l z : Nat} : Sub .nils (.row l z 0) := by
  intro S i v hv
  cases hv with
  | nils => exact .rown
/-- slices.Clone, a row of one's own told -/
theorem cloneR_gen {P : Program} {f : FuncId} {α : Type} {e : α → D} {z by' : Nat} {zz : List D} {g : Bool} (hmix : P.follows .mixedOrders = true) (he : EncOK e z g) (hc : HasF P f (CloneC z by' zz)) (hzz : zz.length = z) (hby : Nat.blt 0 by' = true) {xs : List α}
    (hb : xs.length * 2 * by' ≤ 281474976710656) : ACalls P f [.d (.sl (xs.map e))] [] (.row 0 z xs.length) [(0, .rowP (cellsD e xs))] := by
  refine ACalls.nilcase (fun h0 => ?_) ?_
  · have hx : xs = [] := by simpa using h0
    subst hx
    refine acalls_canon (F := CloneC z by' zz) hc 0 1 rfl ?_
    dsimp only [CloneC, startL]
    refine AWc.seq ?_
    refine AWc.rg hmix rfl rfl ?_
    refine RegV.p0 rfl rfl rfl ?_
    refine RegV.nil0 ?_
    refine AWc.seq ?_
    refine AWc.seq ?_
    refine AWc.rg hmix rfl rfl ?_
    refine RegV.p0 rfl rfl rfl ?_
    refine RegV.p0 rfl rfl rfl ?_
    refine RegV.nil0 ?_
    refine AWc.cond rfl (fun _ => ?_) (fun hc => by cases hc)
    refine AWc.seq ?_
    refine AWc.rg hmix rfl rfl ?_
    refine RegV.p0 rfl rfl rfl ?_
    refine RegV.nil0 ?_
    refine AWc.ret ?_
    refine canQ (N := 8) (k := 1) (l' := [(2, .row 0 z 0)]) (H' := [(0, .rowP [])]) rfl ⟨rfl, [.rowP []], [(0, 0)], rfl, rfl, ⟨⟨_, rfl, Sub.nilRow⟩, rfl, trivial⟩, ⟨⟨_, rfl, .refl _⟩, rfl, rfl, trivial⟩⟩ ?_
    exact doneA (.inr rfl) rfl ⟨trivial, trivial⟩ (.refl _) (hasCons rfl hasNil)
  · refine acalls_canon (F := CloneC z by' zz) hc 0 1 rfl ?_
    dsimp only [CloneC, startL]
    refine AWc.seq ?_
    refine AWc.rg hmix rfl rfl ?_
    refine RegV.p0 rfl rfl rfl ?_
    refine RegV.nil0 ?_
    refine AWc.seq ?_
    refine AWc.seq ?_
    refine AWc.rg hmix rfl rfl ?_
    refine RegV.p0 rfl rfl rfl ?_
    refine RegV.p0 rfl rfl rfl ?_
    refine RegV.nil0 ?_
    refine AWc.cond rfl (fun hc => by cases hc) (fun _ => ?_)
    refine AWc.skip ?_
    refine AWc.seq ?_
    refine AWc.rg hmix rfl rfl ?_
    refine RegV.evS (own := true) (v := .sl 0 0 0 0 z) (H' := [(0, .cells [])]) (c' := 1) rfl rfl ⟨hzz, by simp, by simp⟩ rfl rfl rfl rfl rfl rfl ?_
    refine RegV.p0 rfl rfl rfl ?_
    refine RegV.appS0 (ys := xs) (e := e) (H' := [(1, .rowP (cellsD e xs))]) rfl rfl rfl he rfl hzz hby (Nat.le_trans (Nat.mul_le_mul_right _ (by omega)) hb) rfl rfl rfl rfl rfl ?_
    refine RegV.p0 rfl rfl rfl ?_
    refine RegV.nil0 ?_
    refine AWc.ret ?_
    refine canQ (N := 8) (k := 1) (l' := [(2, .row 0 z xs.length)]) (H' := [(0, .rowP (cellsD e xs))]) rfl ⟨rfl, [], [(0, 1)], rfl, rfl, ⟨⟨_, rfl, .refl _⟩, rfl, trivial⟩, ⟨⟨_, rfl, .refl _⟩, rfl, rfl, trivial⟩⟩ ?_
    exact doneA (.inr rfl) rfl ⟨trivial, trivial⟩ (.refl _) (hasCons rfl hasNil)
end Go.Proofs.Abs
end
section
/- Rows of one's own: made with their room not told; sealed between statements. -/
namespace Go.Proofs.Abs
open Go
set_option linter.unusedVariables false
set_option linter.unusedSectionVars false
set_option linter.unusedSimpArgs false
section
variable {P : Program}
theorem Post.toRow {S : Seal} {i : Emb} {w w' : World} {nl len cap z : Nat} {ds : List D} {v : Value} (h : Post S i [] w (.sl nl 0 len cap z) [(nl, .rowD ds)] v w') (hc : cap * z ≤ ds.length) (hl : len ≤ cap) : Post S i [] w (.row nl z len) [(nl, .rowP ds)] v w' := by
  obtain ⟨S', i', hv, hh, hle, ht, hn⟩ := h
  cases hv with
  | sl hi =>
    rename_i b
    rcases hh.obj nl _ List.mem_cons_self with ⟨b', hb', c0, et, hc0, hsz, hv, hns⟩ | ⟨_, hz⟩
    case inr => exact hz.elim
    rw [hi] at hb'; cases hb'
    obtain ⟨h1, h2, h3⟩ := seal_row (k := 0) hh List.mem_cons_self hi hc0 hns
    have e : setH nl (.tok 0) [(nl, AObj.rowD ds)] = [(nl, .tok 0)] := by simp [setH]
    rw [e] at h2 h3
    rw [List.length_map] at hsz
    have hns' : ∀ a : Addr, a.block = b → (S'.row b 0 c0).cell a = none := by
      intro a ha
      simp only [Seal.row, Nat.not_lt_zero, and_false, if_false]
      exact hns a ha
    refine ⟨S'.row b 0 c0, i', .row hi (m := c0.size) (by simp [Seal.row]) (by omega) hl, ⟨h2.cell, h2.size, fun l p hp => ?_, fun l p l' p' x q1 q2 _ _ => ?_, h2.dom, h2.gr⟩, hle, ?_, fun l b hb => (hn l b hb).imp id fun h => h⟩
    · cases List.mem_singleton.1 hp
      refine .inl ⟨b, hi, c0, et, hc0, by omega, fun j j1 j2 => ?_, hns'⟩
      have := hv j (by simpa using j1) j2
      rw [List.getElem_map] at this
      exact (vD this).mono h1
    · cases List.mem_singleton.1 q1; cases List.mem_singleton.1 q2; rfl
    · have t := ht.trans h3
      exact ⟨t.up, t.grow, t.old, t.newSeal, t.newEmb, fun x ⟨l, p, hp, hx⟩ => t.sub x ⟨l, .tok 0, by cases List.mem_singleton.1 hp; exact List.mem_singleton.2 rfl, hx⟩, t.os, t.out, t.tape⟩
theorem AOpT.toRow {ao : AOp} {args : List (Nat × AV)} {nl len cap z : Nat} {ds : List D} (h : AOpT P ao args [] (.sl nl 0 len cap z) [(nl, .rowD ds)]) (hc : cap * z ≤ ds.length) (hl : len ≤ cap) : AOpT P ao args [] (.row nl z len) [(nl, .rowP ds)] :=
  ⟨h.1, fun o ho => ⟨(h.2 o ho).1, fun S i w ρ h1 h2 h3 => ((h.2 o ho).2 S i w ρ h1 h2 h3).mono fun v w hp => hp.toRow hc hl⟩⟩
end
section
variable {P : Program} {aops os : List AOper} {draw : Bool} {N k c : Nat} {l : List (Nat × AV)} {H H' : AHeap} {A : List Tk} {Q : AAct → AHeap → Nat → Prop}
variable {gd : Option (Nat × Bool)} {af : List Nat} {t : Nat} {α : Type} {e : α → D} {z : Nat} {g : Bool} {x y : Arg} {n m : Int}
/-- a row is made, its room not told -/
theorem RegV.mkR {kn kc : IntKind} {by' : Nat} {zz : List D} {a0 : α} (hg : gOn gd (us l ⟨some t, .mksl x y z by' zz, gd, af⟩) = some true) (hx : evA (us l ⟨some t, .mksl x y z by' zz, gd, af⟩) x = some (.d (.int kn n))) (hy : evA (us l ⟨some t, .mksl x y z by' zz, gd, af⟩) y = some (.d (.int kc m)))
    (he : EncOK e z g) (hzz : zz.map zAV = (e a0).cells.map .d) (hby : Nat.blt 0 by' = true) (hb : 0 ≤ n ∧ n ≤ m ∧ m * by' ≤ 281474976710656) (hd : Nat.blt t N = true) (hH : restK [] [(c, .tok 0)] H = H)
    (hn : RegV P aops draw N (k + 1) os (c + 1) ((t, .row c z n.toNat) :: l) ((c, .rowP (cellsD e (List.replicate m.toNat a0))) :: H) (⟨[c], false⟩ :: A) Q) : RegV P aops draw N k (⟨some t, .mksl x y z by' zz, gd, af⟩ :: os) c l H A Q := by
  have hcs : (List.replicate m.toNat (zz.map zAV)).flatten = (cellsD e (List.replicate m.toNat a0)).map .d := by
    rw [hzz]
    generalize m.toNat = q
    induction q with
    | zero => rfl
    | succ q ih => rw [List.replicate_succ, List.flatten_cons, ih, List.replicate_succ, cellsD_cons, List.map_append]
  have hzl : zz.length = z := by
    have := congrArg List.length hzz
    simpa [he.len] using this
  have h0 : AOpT P (.mksl x y z by' zz) (us l ⟨some t, .mksl x y z by' zz, gd, af⟩) [] (.sl c 0 n.toNat m.toNat z) [(c, cellsC e (List.replicate m.toNat a0))] :=
    evOp_ok (own := true) (nl := c) (H := H) (q := ⟨_, _, _, 0 ≤ n ∧ n ≤ m ∧ m * by' ≤ 281474976710656 ∧ 0 < by' ∧ zz.length = z⟩) (by simp only [evOp, hx, hy, cond_true, hcs]) ⟨hb.1, hb.2.1, hb.2.2, Nat.le_of_ble_eq_true hby, hzl⟩
  have h1 : AOpT P (.mksl x y z by' zz) (us l ⟨some t, .mksl x y z by' zz, gd, af⟩) [] (.sl c 0 n.toNat m.toNat z) [(c, cellsO e (List.replicate m.toNat a0))] := h0.eqH .nil (.cons .row .nil)
  have h2 := h1.toRow (by rw [cellsD_len he, List.length_replicate]; exact Nat.le_refl _) (by omega)
  refine RegV.up (fun _ h' => RegU.op hg h2 hd (fun y hy => by cases hy) newOK_one rfl (q := false) (fun h => by cases h) rfl (H' := (c, .rowP (cellsD e (List.replicate m.toNat a0))) :: H) ?_ topK_one h') hn
  rw [restK_new H _ (.tok 0), hH]; rfl
end
section
variable {P : Program} {α : Type} {e : α → D} {z : Nat} {g : Bool}
theorem Bor.dead {l0 : Nat} {xs : List α} {S : Seal} {i : Emb} (h0 : i l0 = none) {a a' : AV} (h : Bor l0 e z xs a a') : ∀ {v : Value}, V S i a v → V S i a' v := by
  induction h with
  | same => intro v hv; exact hv
  | sub h => intro v hv; exact h _ _ _ hv
  | sl h => intro v hv; cases hv with | sl h => rw [h0] at h; cases h
  | sl0 h => intro v hv; cases hv with | sl h => rw [h0] at h; cases h
  | row h =>
    intro v hv
    cases hv with
    | rown => exact .d .nilsl
    | row h => rw [h0] at h; cases h
  | win h => intro v hv; cases hv with | sl h => rw [h0] at h; cases h
  | agg hl h ih => intro v hv; cases hv with | agg h1 h2 => exact .agg (by omega) fun m m1 m2 => ih m (by omega) m1 (h2 m (by omega) m2)
def borS (l0 : Nat) (e : α → D) (z : Nat) (xs : List α) (l : List (Nat × AV)) : List (Nat × AV) → Prop
  | [] => True
  | (t, v) :: r => (∃ u, lk l t = some u ∧ Bor l0 e z xs u v) ∧ borS l0 e z xs l r
theorem borS.get {l0 : Nat} {xs : List α} {l : List (Nat × AV)} : ∀ {l' : List (Nat × AV)}, borS l0 e z xs l l' → ∀ t v, lk l' t = some v → ∃ u, lk l t = some u ∧ Bor l0 e z xs u v
  | [], _, t, v, h => by cases h
  | (k, x) :: r, h, t, v, hv => by
    simp only [lk] at hv
    cases hb : Nat.beq k t with
    | true => rw [hb] at hv; cases hv; cases Nat.eq_of_beq_eq_true hb; exact h.1
    | false => rw [hb] at hv; exact borS.get h.2 t v hv
variable {ro : Option Nat} {N n m : Nat} {H : AHeap} {Q : Exit → AAct → AHeap → Nat → Prop} {l l' : List (Nat × AV)}
theorem AWc.sealB {c : ACode} {l0 : Nat} {xs : List α} {o : AObj} {H' : AHeap} (he : EncOK e z g) (hl : lkH H l0 = some o) (ho : o = .rowD (cellsD e xs) ∨ o = .rowP (cellsD e xs)) (hs : borS l0 e z xs l l') (hH : setH l0 (.tok (xs.length * z)) H = H') (h : AWc P ro m c ⟨N, l'⟩ H' n Q) :
    AWc P ro m c ⟨N, l⟩ H n Q := by
  subst hH
  intro cc hcc S i w ca hact hh hn
  have hm := lkH_mem hl
  suffices key : ∃ S' : Seal, ActRel S' i ⟨N, l'⟩ ca ∧ HeapRel S' i (setH l0 (.tok (xs.length * z)) H) w ∧ Tr S i H w S' i (setH l0 (.tok (xs.length * z)) H) w by
    obtain ⟨S', hact', h2, h3⟩ := key
    refine wpIn_mono (h cc hcc S' i w ca hact' h2 hn) ?_
    rintro ex ca' w' ⟨a', H1, n1, S1, i1, q, ra, rd, rh, rn, re, rt⟩
    exact ⟨a', H1, n1, S1, i1, q, ra, rd, rh, rn, re, h3.trans rt⟩
  rcases hh.obj _ _ hm with ⟨b, hb, hrel⟩ | ⟨h0, hz⟩
  · obtain ⟨c0, et, hc0, hsz, hv, hns⟩ : ∃ c et, w.heap[b]? = some (.cells c et (0, 0)) ∧ (cellsD e xs).length ≤ c.size ∧ (∀ j (h1 : j < (cellsD e xs).length) (h2 : j < c.size), DV S (cellsD e xs)[j] c[j]) ∧ ∀ a : Addr, a.block = b → S.cell a = none := by
      rcases ho with rfl | rfl
      · obtain ⟨c, et, q1, q2, q3, q4⟩ := hrel
        refine ⟨c, et, q1, by rw [q2]; simp, fun j h1 h2 => ?_, q4⟩
        have := q3 j (by simpa using h1) h2
        rw [List.getElem_map] at this
        exact vD this
      · exact hrel
    obtain ⟨h1, h2, h3⟩ := seal_row (k := xs.length * z) hh hm hb hc0 hns
    refine ⟨_, ⟨hact.size, fun t v hv' => ?_⟩, h2, h3⟩
    obtain ⟨u, hu, hf⟩ := hs.get t v hv'
    exact hf.to hb h1 (fun o len cap q1 q2 => dv_row' he hsz hv h1 o len cap q1 q2) (hact.get t u hu)
  · have hk : xs.length * z = 0 := by
      have h5 : cellsD e xs = [] := by
        rcases ho with rfl | rfl
        · exact hz.elim
        · exact hz
      rw [← cellsD_len he, h5]; rfl
    refine ⟨S, ⟨hact.size, fun t v hv' => ?_⟩, ⟨hh.cell, hh.size, fun l p hp => ?_, fun l p l' p' x h1 h2 e1 e2 => ?_, hh.dom, hh.gr⟩, ⟨.refl S, Nat.le_refl _, fun _ _ _ => rfl, fun a v ha => .inl ha, fun _ _ h => .inl h, fun x ⟨l, p, hp, hx⟩ => .inl ?_, rfl, rfl, rfl⟩⟩
    · obtain ⟨u, hu, hf⟩ := hs.get t v hv'
      exact hf.dead h0 (hact.get t u hu)
    · rcases mem_setH hp with ⟨rfl, rfl, _⟩ | ⟨hne, hp⟩
      · exact .inr ⟨h0, hk⟩
      · exact hh.obj l p hp
    · have k1 : ∃ q, (l, q) ∈ H := by
        rcases mem_setH h1 with ⟨rfl, _, h⟩ | ⟨_, h⟩
        · exact h
        · exact ⟨_, h⟩
      have k2 : ∃ q, (l', q) ∈ H := by
        rcases mem_setH h2 with ⟨rfl, _, h⟩ | ⟨_, h⟩
        · exact h
        · exact ⟨_, h⟩
      obtain ⟨q, h1⟩ := k1
      obtain ⟨q', h2⟩ := k2
      exact hh.inj _ _ _ _ x h1 h2 e1 e2
    · rcases mem_setH hp with ⟨rfl, _, q, h⟩ | ⟨_, h⟩
      · exact ⟨_, q, h, hx⟩
      · exact ⟨_, _, h, hx⟩
end
end Go.Proofs.Abs
end
