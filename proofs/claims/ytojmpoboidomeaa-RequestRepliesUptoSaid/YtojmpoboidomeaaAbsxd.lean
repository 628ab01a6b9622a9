/- Several texts of one proof, one behind the other. -/
import Derived.Test.YtojmpoboidomeaaAbsxc
section
/- A struct that is built, its cells as they are (nil stays nil). -/
namespace Go.Proofs.Abs
open Go
set_option linter.unusedVariables false
set_option linter.unusedSectionVars false
set_option linter.unusedSimpArgs false
section
variable {P : Program} {w : World}
theorem compBin_build {op : BinOp} {t : TypeId} {x y : Arg} {zz : List D} {pl : List (Nat × Nat × Arg)} : compBin P op t x y = .build zz pl → False := by
  intro h; unfold compBin at h; repeat' (first | cases h | split at h)
theorem compConv_build {s d : TypeId} {x : Arg} {zz : List D} {pl : List (Nat × Nat × Arg)} : compConv P s d x = .build zz pl → False := by
  intro h; unfold compConv at h; repeat' (first | cases h | split at h)
theorem compCall_build {c : Call} {zz : List D} {pl : List (Nat × Nat × Arg)} : compCall P c = .build zz pl → False := by
  intro h
  unfold compCall at h
  repeat' (first | cases h | split at h)
  all_goals (simp only [sbK, szK] at h; repeat' (first | cases h | split at h))
theorem compOp_build {op : Op} {zz : List D} {pl : List (Nat × Nat × Arg)} (h : compOp P op = .build zz pl) : ∃ t parts fs ps, op = .build t parts ∧ und P t = .struct fs ∧ zeroA P t = some zz ∧ partsA parts.toList = some ps ∧ fs.toList.all (fun (f : Field) => (P.info? f.type).isSome) = true ∧ placesA P fs ps = some pl := by
  cases op with
  | call c => simp only [compOp] at h; exact (compCall_build h).elim
  | build t parts =>
    simp only [compOp] at h
    split at h <;> first | cases h | skip
    rename_i fs z ps hu hz hps
    split at h <;> first | cases h | skip
    rename_i hall
    split at h <;> first | cases h | skip
    rename_i l hl
    exact ⟨t, parts, fs, ps, rfl, hu, hz, hps, hall, hl⟩
  | binOp op t x y t' =>
    simp only [compOp] at h
    split at h
    · exact (compBin_build h).elim
    · cases h
  | convert s d x =>
    simp only [compOp] at h
    split at h
    · exact (compConv_build h).elim
    · cases h
  | makeFunc fn first caps =>
    cases fn with
    | func f =>
      simp only [compOp] at h
      repeat' (first | cases h | split at h)
    | _ => cases h
  | _ =>
    simp only [compOp, szK, sbK, aggK] at h
    repeat' (first | cases h | split at h)
theorem AOpT.bld {args : List (Nat × AV)} {zz : List D} {pl : List (Nat × Nat × Arg)} {L : List AV} {s : Prop} (hL : buildF (evA args) (zz.map zAV) pl = some (L, s)) (hs : s) : AOpT P (.build zz pl) args [] (.agg L) [] := by
  refine ⟨fun x hx hb => (by subst hx; cases hb), fun o hao => ?_⟩
  obtain ⟨t, parts, fs, ps, hop, hu, hz, hps, hall, hpl⟩ := compOp_build hao
  have hund := und_some hu (by simp)
  obtain ⟨j0, z0, hj0, hz0, hcz⟩ := zeroA_inv hz
  obtain ⟨hzz0, hzat⟩ := constDs_at hcz
  refine .pure (by simp [hop]) fun S i w ρ hev hh => ?_
  let pls : List (Nat × Nat) := fs.toList.map fun (f : Field) => (f.offset, ((P.info? f.type).map (·.size)).getD 0)
  have hpls : fs.toList.mapM (fun (f : Field) => (P.info? f.type).map fun i => (f.offset, i.size)) = some pls := by
    have gen : ∀ l : List Field, l.all (fun (f : Field) => (P.info? f.type).isSome) = true → l.mapM (fun (f : Field) => (P.info? f.type).map fun i => (f.offset, i.size)) = some (l.map fun (f : Field) => (f.offset, ((P.info? f.type).map (·.size)).getD 0)) := by
      intro l
      induction l with
      | nil => intro _; rfl
      | cons f r ih =>
        intro h
        simp only [List.all_cons, Bool.and_eq_true] at h
        obtain ⟨j, hj⟩ := Option.isSome_iff_exists.1 h.1
        simp only [List.mapM_cons, hj, Option.map_some, ih h.2, List.map_cons, Option.getD_some]
        rfl
    exact gen _ hall
  have hplace : ∀ (n : Nat) (f : Field) (j : TypeInfo), fs[n]? = some f → P.info? f.type = some j → pls.toArray[n]? = some (f.offset, j.size) := by
    intro n f j hf hj
    simp only [pls, List.getElem?_toArray, List.getElem?_map, Array.getElem?_toList, hf, Option.map_some, hj, Option.getD_some]
  obtain ⟨C, hC1, hC2, hC3⟩ := fill_build (place := (pls.toArray[·]?)) (cells := z0.cells) hplace hev hps hpl hL hs (by simpa using hzz0.symm) fun k h1 h2 => by
    have := zAV_ok (S := S) (i := i) (hzat k (by simpa using h1) (by simpa using h2))
    simpa using this
  have hmk : V S i (.agg L) (.agg C) := by
    have : V S i (.agg L) (.agg C.toList.toArray) := .agg (by simpa using hC2.symm) fun j h1 h2 => hC3 j h1 (by simpa using h2)
    simpa using this
  refine ⟨.agg C, ?_, hmk⟩
  have hbuilt : P.built t (parts.map fun (p : Nat × Operand) => (p.1, ρ p.2)).toList = some C := by
    simp only [Program.built, hj0, hund, hz0, hpls, Array.toList_map]
    exact hC1
  have := run_build (P := P) w t (parts.map fun (p : Nat × Operand) => (p.1, ρ p.2)) C hbuilt
  simp only [execOp, hop, Sem.run_bind]
  have he : (Instr.build t (parts.map fun x => match x with | (i, x) => (i, ρ x))).run P w = .ok (.agg C) w := this
  rw [he]
  rfl
end
section
variable {P : Program} {aops os : List AOper} {draw : Bool} {N k c : Nat} {l : List (Nat × AV)} {H : AHeap} {A : List Tk} {Q : AAct → AHeap → Nat → Prop}
variable {x y : Arg} {gd : Option (Nat × Bool)} {af : List Nat} {t : Nat}
theorem RegV.bld {zz : List D} {pl : List (Nat × Nat × Arg)} {L L' : List AV} {s : Prop} (hg : gOn gd (us l ⟨some t, .build zz pl, gd, af⟩) = some true) (hL : buildF (evA (us l ⟨some t, .build zz pl, gd, af⟩)) (zz.map zAV) pl = some (L, s)) (hs : s) (hd : Nat.blt t N = true) (hv : L = L')
    (hn : RegV P aops draw N (k + 1) os c ((t, .agg L') :: l) H (⟨[], true⟩ :: A) Q) : RegV P aops draw N k (⟨some t, .build zz pl, gd, af⟩ :: os) c l H A Q := by
  subst hv
  exact RegV.up (fun _ h' => RegU.op (hin := []) (hout := []) hg (AOpT.bld hL hs) hd (fun x hx => by cases hx) rfl rfl (fun _ => rfl) rfl (restK_nil H) rfl h') hn
end
end Go.Proofs.Abs
end
