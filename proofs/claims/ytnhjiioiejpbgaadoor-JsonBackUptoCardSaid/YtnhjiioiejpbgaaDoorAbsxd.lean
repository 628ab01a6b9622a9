/- Several texts of one proof, one behind the other. -/
import Derived.Test.YtnhjiioiejpbgaaDoorAbsxc
section
/- A struct that is built, its cells as they are (nil stays nil). -/
namespace Go.Proofs.Abs
open Go
set_option linter.unusedVariables false
set_option linter.unusedSectionVars false
set_option linter.unusedSimpArgs false
section
variable {P : Program} {w : World}
theorem compBin_build {op : BinOp} {t : TypeId} {x y : Arg} {zz : List D} {pl : List (Nat × Nat × Arg)} : compBin P op t x y = .build zz pl → False := by
  intro h; unfold compBin at h; repeat' (first | cases h | split at h)
theorem compConv_build {s d : TypeId} {x : Arg} {zz : List D} {pl : List (Nat × Nat × Arg)} : compConv P s d x = .build zz pl → False := by
  intro h; unfold compConv at h; repeat' (first | cases h | split at h)
theorem compCall_build {c : Call} {zz : List D} {pl : List (Nat × Nat × Arg)} : compCall P c = .build zz pl → False := by
  intro h
  unfold compCall at h
  repeat' (first | cases h | split at h)
  all_goals (simp only [sbK, szK] at h; repeat' (first | cases h | split at h))
theorem compOp_build {op : Op} {zz : List D} {pl : List (Nat × Nat × Arg)} (h : compOp P op = .build zz pl) : ∃ t parts fs ps, op = .build t parts ∧ und P t = .struct fs ∧ zeroA P t = some zz ∧ partsA parts.toList = some ps ∧ fs.toList.all (fun (f : Field) => (P.info? f.type).isSome) = true ∧ placesA P fs ps = some pl := by
  cases op with
  | call c => simp only [compOp] at h; exact (compCall_build h).elim
  | build t parts =>
    simp only [compOp] at h
    split at h <;> first | cases h | skip
    rename_i fs z ps hu hz hps
    split at h <;> first | cases h | skip
    rename_i hall
    split at h <;> first | cases h | skip
    rename_i l hl
    exact ⟨t, parts, fs, ps, rfl, hu, hz, hps, hall, hl⟩
  | binOp op t x y t' =>
    simp only [compOp] at h
    split at h
    · exact (compBin_build h).elim
    · cases h
  | convert s d x =>
    simp only [compOp] at h
    split at h
    · exact (compConv_build h).elim
    · cases h
  | makeFunc fn first caps =>
    cases fn with
    | func f =>
      simp only [compOp] at h
      repeat' (first | cases h | split at h)
    | _ => cases h
  | makeMap t r => exfalso; cases r <;> simp [compOp] at h
  | lookup t x i ok =>
    exfalso
    cases ok
    · cases h
    · simp only [compOp] at h
      repeat' (first | cases h | split at h)
  | _ =>
    simp only [compOp, szK, sbK, aggK] at h
    repeat' (first | cases h | split at h)
theorem AOpT.bld {args : List (Nat × AV)} {zz : List D} {pl : List (Nat × Nat × Arg)} {L : List AV} {s : Prop} (hL : buildF (evA args) (zz.map zAV) pl = some (L, s)) (hs : s) : AOpT P (.build zz pl) args [] (.agg L) [] := by
  refine ⟨fun x hx hb => (by subst hx; cases hb), fun o hao => ?_⟩
  obtain ⟨t, parts, fs, ps, hop, hu, hz, hps, hall, hpl⟩ := compOp_build hao
  have hund := und_some hu (by simp)
  obtain ⟨j0, z0, hj0, hz0, hcz⟩ := zeroA_inv hz
  obtain ⟨hzz0, hzat⟩ := constDs_at hcz
  refine .pure (by simp [hop]) fun S i w ρ hev hh => ?_
  let pls : List (Nat × Nat) := fs.toList.map fun (f : Field) => (f.offset, ((P.info? f.type).map (·.size)).getD 0)
  have hpls : fs.toList.mapM (fun (f : Field) => (P.info? f.type).map fun i => (f.offset, i.size)) = some pls := by
    have gen : ∀ l : List Field, l.all (fun (f : Field) => (P.info? f.type).isSome) = true → l.mapM (fun (f : Field) => (P.info? f.type).map fun i => (f.offset, i.size)) = some (l.map fun (f : Field) => (f.offset, ((P.info? f.type).map (·.size)).getD 0)) := by
      intro l
      induction l with
      | nil => intro _; rfl
      | cons f r ih =>
        intro h
        simp only [List.all_cons, Bool.and_eq_true] at h
        obtain ⟨j, hj⟩ := Option.isSome_iff_exists.1 h.1
        simp only [List.mapM_cons, hj, Option.map_some, ih h.2, List.map_cons, Option.getD_some]
        rfl
    exact gen _ hall
  have hplace : ∀ (n : Nat) (f : Field) (j : TypeInfo), fs[n]? = some f → P.info? f.type = some j → pls.toArray[n]? = some (f.offset, j.size) := by
    intro n f j hf hj
    simp only [pls, List.getElem?_toArray, List.getElem?_map, Array.getElem?_toList, hf, Option.map_some, hj, Option.getD_some]
  obtain ⟨C, hC1, hC2, hC3⟩ := fill_build (place := (pls.toArray[·]?)) (cells := z0.cells) hplace hev hps hpl hL hs (by simpa using hzz0.symm) fun k h1 h2 => by
    have := zAV_ok (S := S) (i := i) (hzat k (by simpa using h1) (by simpa using h2))
    simpa using this
  have hmk : V S i (.agg L) (.agg C) := by
    have : V S i (.agg L) (.agg C.toList.toArray) := .agg (by simpa using hC2.symm) fun j h1 h2 => hC3 j h1 (by simpa using h2)
    simpa using this
  refine ⟨.agg C, ?_, hmk⟩
  have hbuilt : P.built t (parts.map fun (p : Nat × Operand) => (p.1, ρ p.2)).toList = some C := by
    simp only [Program.built, hj0, hund, hz0, hpls, Array.toList_map]
    exact hC1
  have := run_build (P := P) w t (parts.map fun (p : Nat × Operand) => (p.1, ρ p.2)) C hbuilt
  simp only [execOp, hop, Sem.run_bind]
  have he : (Instr.build t (parts.map fun x => match x with | (i, x) => (i, ρ x))).run P w = .ok (.agg C) w := this
  rw [he]
  rfl
end
section
variable {P : Program} {aops os : List AOper} {draw : Bool} {N k c : Nat} {l : List (Nat × AV)} {H : AHeap} {A : List Tk} {Q : AAct → AHeap → Nat → Prop}
variable {x y : Arg} {gd : Option (Nat × Bool)} {af : List Nat} {t : Nat}
theorem RegV.bld {zz : List D} {pl : List (Nat × Nat × Arg)} {L L' : List AV} {s : Prop} (hg : gOn gd (us l ⟨some t, .build zz pl, gd, af⟩) = some true) (hL : buildF (evA (us l ⟨some t, .build zz pl, gd, af⟩)) (zz.map zAV) pl = some (L, s)) (hs : s) (hd : Nat.blt t N = true) (hv : L = L')
    (hn : RegV P aops draw N (k + 1) os c ((t, .agg L') :: l) H (⟨[], true⟩ :: A) Q) : RegV P aops draw N k (⟨some t, .build zz pl, gd, af⟩ :: os) c l H A Q := by
  subst hv
  exact RegV.up (fun _ h' => RegU.op (hin := []) (hout := []) hg (AOpT.bld hL hs) hd (fun x hx => by cases hx) rfl rfl (fun _ => rfl) rfl (restK_nil H) rfl h') hn
end
end Go.Proofs.Abs
end
section
/- A row of one's own is lent to a callee that only reads it: the callee sees data; what it tells is nothing that lies in the row. -/
namespace Go.Proofs.Abs
open Go
set_option linter.unusedVariables false
set_option linter.unusedSectionVars false
set_option linter.unusedSimpArgs false
section
variable {α : Type} {e : α → D} {z : Nat} {g : Bool}
/-- a row's value, and what the callee sees -/
inductive Bor (l0 : Nat) (e : α → D) (z : Nat) (xs : List α) : AV → AV → Prop
  | same {v} : Bor l0 e z xs v v
  | sub {a a'} (h : Sub a a') : Bor l0 e z xs a a'
  | sl {o len cap : Nat} (h : o + len ≤ xs.length ∧ len ≤ cap) : Bor l0 e z xs (.sl l0 (o * z) len cap z) (.d (.sl (((xs.drop o).take len).map e)))
  | sl0 {len cap : Nat} (h : len ≤ xs.length ∧ len ≤ cap) : Bor l0 e z xs (.sl l0 0 len cap z) (.d (.sl ((xs.take len).map e)))
  | row {n : Nat} (h : n ≤ xs.length) : Bor l0 e z xs (.row l0 z n) (.d (.sl ((xs.take n).map e)))
  | win {len cap : Nat} (h : len ≤ xs.length ∧ cap = xs.length) : Bor l0 e z xs (.sl l0 0 len cap z) (.win (xs.map e) len)
  | agg {L L' : List AV} (hl : L.length = L'.length) (h : ∀ j (h1 : j < L.length) (h2 : j < L'.length), Bor l0 e z xs L[j] L'[j]) : Bor l0 e z xs (.agg L) (.agg L')
/-- what stands for nothing in particular, or says all by itself -/
inductive Loose : AV → AV → Prop
  | int {k n} : Loose (.d (.int k n)) (.d (.int k n))
  | bool {b} : Loose (.d (.bool b)) (.d (.bool b))
  | str {s} : Loose (.d (.str s)) (.d (.str s))
  | any {r} : Loose r .any
  | tup {L L' : List AV} (hl : L.length = L'.length) (h : ∀ j (h1 : j < L.length) (h2 : j < L'.length), Loose L[j] L'[j]) : Loose (.tup L) (.tup L')
theorem Loose.to {r r' : AV} (h : Loose r r') : ∀ {S T : Seal} {i j : Emb} {v : Value}, V S i r v → V T j r' v := by
  induction h with
  | int => intro S T i j v hv; cases hv with | d h => cases h; exact .d .int
  | bool => intro S T i j v hv; cases hv with | d h => cases h; exact .d .bool
  | str => intro S T i j v hv; cases hv with | d h => cases h; exact .d .str
  | any => intro S T i j v hv; exact .any
  | tup hl h ih => intro S T i j v hv; cases hv with | tup h1 h2 => exact .tup (by omega) fun m m1 m2 => ih m (by omega) m1 (h2 m (by omega) m2)
theorem Bor.to {l0 b : Nat} {xs : List α} {S S' : Seal} {i : Emb} (hb : i l0 = some b) (hle : S.le S')
    (key : ∀ o len cap, o + len ≤ xs.length → len ≤ cap → DV S' (.sl (((xs.drop o).take len).map e)) (.slice (some ⟨b, o * z, none⟩) len cap)) {a a' : AV} (h : Bor l0 e z xs a a') : ∀ {v : Value}, V S i a v → V S' i a' v := by
  induction h with
  | same => intro v hv; exact hv.mono hle (fun _ _ h => h)
  | sub h => intro v hv; exact (h _ _ _ hv).mono hle (fun _ _ h => h)
  | sl hq => intro v hv; cases hv with | sl hi => rw [hb] at hi; cases hi; exact .d (key _ _ _ hq.1 hq.2)
  | sl0 hq =>
    intro v hv
    cases hv with
    | sl hi =>
      rw [hb] at hi; cases hi
      have := key 0 _ _ (by omega) hq.2
      rw [Nat.zero_mul] at this
      exact .d this
  | row hq =>
    intro v hv
    cases hv with
    | rown => exact .d .nilsl
    | row hi _ _ hl =>
      rw [hb] at hi; cases hi
      have := key 0 _ _ (by omega) hl
      rw [Nat.zero_mul] at this
      exact .d this
  | win hq =>
    intro v hv
    cases hv with
    | sl hi =>
      rw [hb] at hi; cases hi
      have := key 0 xs.length xs.length (by omega) (Nat.le_refl _)
      rw [Nat.zero_mul, List.drop_zero, List.take_length] at this
      have hl : (xs.map e).length = xs.length := by simp
      have h5 : V S' i (.win (xs.map e) _) (.slice (some ⟨b, 0, none⟩) _ (xs.map e).length) := .win (by rw [hl]; exact this) (by rw [hl]; exact hq.1)
      rw [hl] at h5
      rw [hq.2]; exact h5
  | agg hl h ih => intro v hv; cases hv with | agg h1 h2 => exact .agg (by omega) fun m m1 m2 => ih m (by omega) m1 (h2 m (by omega) m2)
inductive BorL (l0 : Nat) (e : α → D) (z : Nat) (xs : List α) : List AV → List AV → Prop
  | nil : BorL l0 e z xs [] []
  | cons {x y : AV} {r s : List AV} : Bor l0 e z xs x y → BorL l0 e z xs r s → BorL l0 e z xs (x :: r) (y :: s)
theorem BorL.get {l0 : Nat} {xs : List α} : ∀ {L L' : List AV}, BorL l0 e z xs L L' → L.length = L'.length ∧ ∀ j (h1 : j < L.length) (h2 : j < L'.length), Bor l0 e z xs L[j] L'[j]
  | _, _, .nil => ⟨rfl, fun j h1 => by simp at h1⟩
  | _, _, .cons h t => by
    obtain ⟨h1, h2⟩ := t.get
    refine ⟨by simp [h1], fun j j1 j2 => ?_⟩
    cases j with
    | zero => exact h
    | succ j => exact h2 j (by simpa using j1) (by simpa using j2)
theorem BorL.agg {l0 : Nat} {xs : List α} {L L' : List AV} (h : BorL l0 e z xs L L') : Bor l0 e z xs (.agg L) (.agg L') := .agg h.get.1 h.get.2
inductive LooseL : List AV → List AV → Prop
  | nil : LooseL [] []
  | cons {x y : AV} {r s : List AV} : Loose x y → LooseL r s → LooseL (x :: r) (y :: s)
theorem LooseL.get : ∀ {L L' : List AV}, LooseL L L' → L.length = L'.length ∧ ∀ j (h1 : j < L.length) (h2 : j < L'.length), Loose L[j] L'[j]
  | _, _, .nil => ⟨rfl, fun j h1 => by simp at h1⟩
  | _, _, .cons h t => by
    obtain ⟨h1, h2⟩ := t.get
    refine ⟨by simp [h1], fun j j1 j2 => ?_⟩
    cases j with
    | zero => exact h
    | succ j => exact h2 j (by simpa using j1) (by simpa using j2)
theorem LooseL.tup {L L' : List AV} (h : LooseL L L') : Loose (.tup L) (.tup L') := .tup h.get.1 h.get.2
end
end Go.Proofs.Abs
end
section
/- What is appended to nothing comes from a row of one's own: a copy, which is a new row, or data. -/
namespace Go.Proofs.Abs
open Go
set_option linter.unusedVariables false
set_option linter.unusedSectionVars false
set_option linter.unusedSimpArgs false
section
variable {P : Program} {α : Type} {e : α → D} {z : Nat} {g : Bool}
/-- a row's value, and its elements -/
inductive Src (l0 z : Nat) (xs : List α) : AV → List α → Prop
  | sl {o len cap : Nat} (h : o + len ≤ xs.length ∧ len ≤ cap) : Src l0 z xs (.sl l0 (o * z) len cap z) ((xs.drop o).take len)
  | sl0 {len cap : Nat} (h : len ≤ xs.length ∧ len ≤ cap) : Src l0 z xs (.sl l0 0 len cap z) (xs.take len)
  | row {n : Nat} (h : n ≤ xs.length) : Src l0 z xs (.row l0 z n) (xs.take n)
end
section
variable {P : Program} {aops os : List AOper} {draw : Bool} {N k c : Nat} {l : List (Nat × AV)} {H H' : AHeap} {A : List Tk} {Q : AAct → AHeap → Nat → Prop}
variable {x y : Arg} {gd : Option (Nat × Bool)} {af : List Nat} {t : Nat} {α : Type} {e : α → D} {z : Nat} {g : Bool} {xs ys : List α} {l0 : Nat} {o : AObj} {yv : AV}
end
end Go.Proofs.Abs
end
section
/- A copy that is a row of one's own. -/
namespace Go.Proofs.Abs
open Go
set_option linter.unusedVariables false
set_option linter.unusedSectionVars false
set_option linter.unusedSimpArgs false
section
variable {P : Program} {w : World}
variable {α : Type} {e : α → D} {z : Nat} {g : Bool}
end
section
variable {P : Program} {aops os : List AOper} {draw : Bool} {N k c : Nat} {l : List (Nat × AV)} {H H' : AHeap} {A : List Tk} {Q : AAct → AHeap → Nat → Prop}
variable {x y : Arg} {gd : Option (Nat × Bool)} {af : List Nat} {t : Nat} {α : Type} {e : α → D} {z : Nat} {g : Bool} {ys : List α} {l0 : Nat}
end
end Go.Proofs.Abs
end
section
/- Rows of one's own: made with their room not told; sealed between statements. -/
namespace Go.Proofs.Abs
open Go
set_option linter.unusedVariables false
set_option linter.unusedSectionVars false
set_option linter.unusedSimpArgs false
section
variable {P : Program}
end
section
variable {P : Program} {aops os : List AOper} {draw : Bool} {N k c : Nat} {l : List (Nat × AV)} {H H' : AHeap} {A : List Tk} {Q : AAct → AHeap → Nat → Prop}
variable {gd : Option (Nat × Bool)} {af : List Nat} {t : Nat} {α : Type} {e : α → D} {z : Nat} {g : Bool} {x y : Arg} {n m : Int}
end
section
variable {P : Program} {α : Type} {e : α → D} {z : Nat} {g : Bool}
def borS (l0 : Nat) (e : α → D) (z : Nat) (xs : List α) (l : List (Nat × AV)) : List (Nat × AV) → Prop
  | [] => True
  | (t, v) :: r => (∃ u, lk l t = some u ∧ Bor l0 e z xs u v) ∧ borS l0 e z xs l r
theorem borS.get {l0 : Nat} {xs : List α} {l : List (Nat × AV)} : ∀ {l' : List (Nat × AV)}, borS l0 e z xs l l' → ∀ t v, lk l' t = some v → ∃ u, lk l t = some u ∧ Bor l0 e z xs u v
  | [], _, t, v, h => by cases h
  | (k, x) :: r, h, t, v, hv => by
    simp only [lk] at hv
    cases hb : Nat.beq k t with
    | true => rw [hb] at hv; cases hv; cases Nat.eq_of_beq_eq_true hb; exact h.1
    | false => rw [hb] at hv; exact borS.get h.2 t v hv
variable {ro : Option Nat} {N n m : Nat} {H : AHeap} {Q : Exit → AAct → AHeap → Nat → Prop} {l l' : List (Nat × AV)}
end
end Go.Proofs.Abs
end
