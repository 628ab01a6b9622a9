/- Room is made for a slice. -/
import Derived.Test.YtgimibhacllcpaaAbs40
namespace Go.Proofs.Abs
open Go
set_option linter.unusedVariables false
set_option linter.unusedSectionVars false
set_option linter.unusedSimpArgs false
section
variable {P : Program} {w : World}
theorem run_grow {ats : Array TypeId} {t u ty e : TypeId} {j : TypeInfo} {z : Value} {k kk : IntKind} (h0 : ats[0]? = some t) (h1 : ats[1]? = some u) (ht : P.underlying t = some (.slice e)) (hu : P.underlying u = some (.int k))
    (hj : P.info? e = some j) (hz : j.zero = some z) {n : Int} (hn : 0 < n) (hb : 0 < j.bytes) (hs : 0 < j.size) (hfit : n * j.bytes ≤ 281474976710656) :
    (Builtin.append_ ats ty #[.slice none 0 0, .int kk n]).run P w =
      .ok (.slice (some ⟨w.heap.size, 0, none⟩) n.toNat (grownCap w n.toNat 0 e)) (w.drew.alloc (.cells (Builtin.zeroCells z.cells n.toNat ++ Builtin.zeroCells z.cells (grownCap w n.toNat 0 e - n.toNat)) e)) := by
  have hle : n ≤ 281474976710656 := by
    have h2 : n * 1 ≤ n * (j.bytes : Int) := Int.mul_le_mul_of_nonneg_left (by omega) (by omega)
    omega
  have hw : IntKind.i64.wrap n = n := wrap_small (by omega) hle
  have hnl : ¬ (n < 0) := by omega
  have hfit' : ¬ (281474976710656 < n * j.bytes) := by omega
  have hn0 : ¬ (n.toNat ≤ 0) := by omega
  have hn1 : ¬ (n.toNat = 0) := by omega
  have h63' : ¬ (9223372036854775807 < (n.toNat : Int)) := by omega
  have hnc : Builtin.nextslicecap n.toNat 0 = n.toNat := nextslicecap_zero (by omega)
  have hf2 : ¬ (281474976710656 < n.toNat * j.bytes) := by
    intro h
    have : ((n.toNat * j.bytes : Nat) : Int) = n * j.bytes := by rw [Int.natCast_mul, Int.toNat_of_nonneg (by omega)]
    omega
  have hs0 : ¬ (j.size = 0) := by omega
  have hmx : max n 0 = n := by omega
  have h64 : ¬ (9223372036854775807 < n) := by omega
  have hn2 : ¬ (n ≤ 0) := by omega
  have hns : ¬ (n.toNat * j.size = 0) := by
    have := Nat.mul_pos (show 0 < n.toNat by omega) hs
    omega
  simp [Builtin.append_, h0, h1, run_underlying ht, run_underlying hu, sizeOf, typeInfo, zeroValue, hj, hz, hw, hnl, hfit', hn0, hn1, h63', hnc, hf2, hs0, Question.forced, newRow, grownCap, asInt, asIntOf, Builtin.firstCells, hmx, h64, hn2, hns]

theorem AOpT.grow {A : List (Nat × AV)} {x y : Arg} {z by' nl : Nat} {zz : List D} {kd : IntKind} {n : Int} (hx : evA A x = some .nils) (hy : evA A y = some (.d (.int kd n))) (hzl : zz.length = z) (hzp : 0 < z) (hby : 0 < by') (hn : 0 < n) (hfit : n * by' ≤ 281474976710656) :
    AOpT P (.grow x y z by' zz) A [] (.row nl z n.toNat) [(nl, .rowP [])] := by
  refine ⟨fun w hw hb => (by subst hw; cases hb), fun o hao => ?_⟩
  obtain ⟨c, hop, hk⟩ := compOp_grow hao
  cases hk with
  | grow hc ha hxa hya ht hu hu2 hz hj =>
    rename_i x0 y0 t u e k ts j
    obtain ⟨j', z0, hj', hz0, hcz⟩ := zeroA_inv hz
    rw [hj] at hj'
    cases hj'
    have hzz : zz.length = z0.cells.size := by simpa using (constDs_at hcz).1
    have h0 : c.argTypes[0]? = some t := arr0 ht
    have h1 : c.argTypes[1]? = some u := by rw [← Array.getElem?_toList, ht]; rfl
    refine ⟨by simp [hop], fun S i w ρ hev hh hf => ?_⟩
    have hfn : i nl = none := hf nl (by simp [AHeap.keys]) (by simp [AHeap.keys])
    have hxn : ρ x0 = .slice none 0 0 := by
      have := argV hev hxa hx
      generalize ρ x0 = v at this
      cases this; rfl
    have hyn := vInt (argV hev hya hy)
    have hexec : (execOp ρ o).run P w = ((Builtin.append_ c.argTypes o.type #[ρ x0, ρ y0]).run P w).andThen fun v w' => .ok (.value v) w' := by
      simp only [execOp, hop, resolve, hc, arr2 ha, List.map_toArray, List.map_cons, List.map_nil, Sem.run_bind, Sem.run_pure, Result.andThen_ok, invoke, builtin]
    rw [hexec, hxn, hyn, run_grow h0 h1 (und_some hu (by simp)) (und_some hu2 (by simp)) hj hz0 hn hby hzp hfit, Result.andThen_ok]
    have hcap := grownCap_ge w n.toNat 0 e
    generalize hgc : grownCap w n.toNat 0 e = cap at *
    generalize hC : Builtin.zeroCells z0.cells n.toNat ++ Builtin.zeroCells z0.cells (cap - n.toNat) = C at *
    have hnb : NewBlk w (w.drew.alloc (.cells C e)) C e (0, 0) := by
      have := newblk_alloc w.drew C e
      exact ⟨this.size, this.old, this.new, this.os, this.out, this.tape⟩
    have hsz : C.size = cap * j.size := by
      rw [← hC]
      simp only [Array.size_append, size_zeroCells, ← hzz, hzl]
      rw [← Nat.add_mul]
      congr 1; omega
    exact post_row hh hnb hfn (Nat.zero_le _) (fun m h1 _ => by simp at h1) (by rw [hsz]; exact Nat.le_refl _) hcap

theorem compBin_slc {op : BinOp} {t : TypeId} {x y a : Arg} {lo hi mx : Option Arg} {z : Nat} : compBin P op t x y = .slc a lo hi mx z → False := by
  intro h; unfold compBin at h; repeat' (first | cases h | split at h)
theorem compConv_slc {s d : TypeId} {x a : Arg} {lo hi mx : Option Arg} {z : Nat} : compConv P s d x = .slc a lo hi mx z → False := by
  intro h; unfold compConv at h; repeat' (first | cases h | split at h)
theorem compCall_slc {c : Call} {a : Arg} {lo hi mx : Option Arg} {z : Nat} : compCall P c = .slc a lo hi mx z → False := by
  intro h
  unfold compCall at h
  repeat' (first | cases h | split at h)
  all_goals (simp only [sbK, szK] at h; repeat' (first | cases h | split at h))
theorem compOp_slc {op : Op} {a : Arg} {la ha ma : Option Arg} {z : Nat} (h : compOp P op = .slc a la ha ma z) : ∃ t x lo hi mx e j, op = .slice t x lo hi mx ∧ argA x = some a ∧ oargA lo = some la ∧ oargA hi = some ha ∧ oargA mx = some ma ∧ und P t = .slice e ∧ P.info? e = some j ∧ j.size = z := by
  cases op with
  | call c => simp only [compOp] at h; exact (compCall_slc h).elim
  | slice t x lo hi mx =>
    simp only [compOp] at h
    split at h <;> first | cases h | skip
    rename_i a' la' ha' ma' e hx hlo hhi hmx hu
    simp only [szK] at h
    split at h <;> cases h
    rename_i j hj
    exact ⟨t, x, lo, hi, mx, e, j, rfl, hx, hlo, hhi, hmx, hu, hj, rfl⟩
  | binOp op t x y t' =>
    simp only [compOp] at h
    split at h
    · exact (compBin_slc h).elim
    · cases h
  | convert s d x =>
    simp only [compOp] at h
    split at h
    · exact (compConv_slc h).elim
    · cases h
  | makeFunc fn first caps =>
    cases fn with
    | func f =>
      simp only [compOp] at h
      repeat' (first | cases h | split at h)
    | _ => cases h
  | _ =>
    simp only [compOp, szK, sbK, aggK] at h
    repeat' (first | cases h | split at h)
theorem oargA_none {x : Option Operand} (h : oargA x = some none) : x = none := by
  cases x with
  | none => rfl
  | some y => simp [oargA] at h
/-- the head of such a row -/
theorem AOpT.slcR {A : List (Nat × AV)} {x : Arg} {ha : Option Arg} {z l n : Nat} {h : Int} (hx : evA A x = some (.row l z n)) (hh : oInt (evA A) (n : Int) ha = some h) (hb : 0 ≤ h ∧ h ≤ (n : Int)) : AOpT P (.slc x none ha none z) A [] (.row l z h.toNat) [] := by
  refine ⟨fun w hw hb => (by subst hw; cases hb), fun o hao => ?_⟩
  obtain ⟨t, x0, lo, hi, mx, e, j, hop, hxa, hlo, hhi, hmx, hu, hj, rfl⟩ := compOp_slc hao
  cases oargA_none hlo
  cases oargA_none hmx
  refine .pure (by simp [hop]) fun S i w ρ hev _ => ?_
  have run : ∀ (base : Option Addr) (len cap : Nat), ρ x0 = .slice base len cap → ((hi.map ρ = none ∧ h = len) ∨ ∃ k, hi.map ρ = some (.int k h)) → h ≤ cap →
      (execOp ρ o).run P w = .ok (.value (.slice (if cap = 0 then base else base.map (·.add (0 * j.size))) h.toNat cap)) w := by
    intro base len cap hxv b2 h2
    have hbb := run_sliceBounds (P := P) (w := w) (isS := true) (lo := none) (.inl ⟨rfl, rfl⟩) b2 (by omega) hb.1 h2
    simp only [execOp, hop, Instr.sliceAt, Sem.run_bind, run_und (und_some hu (by simp)), Result.andThen_ok, hxv, Instr.slice, Option.map_none, hbb, run_sizeOf hj, Sem.run_pure]
    simp
  have bnd : (hi.map ρ = none ∧ h = n) ∨ ∃ k, hi.map ρ = some (.int k h) := by
    rcases oInt_ok hev hhi hh with ⟨rfl, hl⟩ | ⟨x, k, rfl, hxk⟩
    · exact .inl ⟨rfl, hl⟩
    · exact .inr ⟨k, by simp [hxk]⟩
  have hv := argV hev hxa hx
  generalize hxv : ρ x0 = u at hv
  cases hv with
  | rown =>
    have h0 : h = 0 := by omega
    subst h0
    refine ⟨_, run _ _ _ hxv bnd (by omega), ?_⟩
    simpa using V.rown (S := S) (i := i) (l := l) (z := j.size)
  | row hi' hn hc hl =>
    rename_i b cap m
    refine ⟨_, run _ _ _ hxv bnd (by omega), ?_⟩
    have e1 : (if cap = 0 then some (⟨b, 0, none⟩ : Addr) else (some (⟨b, 0, none⟩ : Addr)).map (·.add (0 * j.size))) = some ⟨b, 0, none⟩ := by
      split
      · rfl
      · simp [addr_add]
    rw [e1]
    exact .row hi' hn hc (by omega)

/-- of nil -/
theorem AOpT.slcN {A : List (Nat × AV)} {x : Arg} {ha : Option Arg} {z : Nat} (hx : evA A x = some .nils) (hh : oInt (evA A) 0 ha = some 0) : AOpT P (.slc x none ha none z) A [] .nils [] := by
  refine ⟨fun w hw hb => (by subst hw; cases hb), fun o hao => ?_⟩
  obtain ⟨t, x0, lo, hi, mx, e, j, hop, hxa, hlo, hhi, hmx, hu, hj, rfl⟩ := compOp_slc hao
  cases oargA_none hlo
  cases oargA_none hmx
  refine .pure (by simp [hop]) fun S i w ρ hev _ => ?_
  have bnd : (hi.map ρ = none ∧ (0 : Int) = (0 : Nat)) ∨ ∃ k, hi.map ρ = some (.int k 0) := by
    rcases oInt_ok hev hhi hh with ⟨rfl, hl⟩ | ⟨x, k, rfl, hxk⟩
    · exact .inl ⟨rfl, rfl⟩
    · exact .inr ⟨k, by simp [hxk]⟩
  have hv := argV hev hxa hx
  generalize hxv : ρ x0 = u at hv
  cases hv with
  | nils =>
    have hbb := run_sliceBounds (P := P) (w := w) (isS := true) (len := 0) (cap := 0) (lo := none) (l := 0) (h := 0) (.inl ⟨rfl, rfl⟩) bnd (by omega) (by omega) (by omega)
    refine ⟨.slice none 0 0, ?_, .nils⟩
    simp only [execOp, hop, Instr.sliceAt, Sem.run_bind, run_und (und_some hu (by simp)), Result.andThen_ok, hxv, Instr.slice, Option.map_none, hbb, run_sizeOf hj, Sem.run_pure]
    simp

/-! ### room is made -/
def GrowC (z by' : Nat) (zz : List D) : AFunc := { n := 27, params := 2, res := [.tmp 4], body :=
 (.seq (.region false [⟨(some 4), .mv (.k .nils), none, []⟩])
  (.seq (.seq (.region false [⟨(some 5), .mv (.t 1), none, []⟩,
     ⟨(some 6), .bin .lss (.t 5) (.k (.d (.int .i64 0))), none, [0]⟩])
    (.cond (.t 6) (.region false [⟨(some 7), .bad, none, []⟩,
      ⟨none, .bad, none, [0]⟩])
     (.skip)))
   (.seq (.seq (.region false [⟨(some 8), .mv (.t 1), none, []⟩,
      ⟨(some 9), .mv (.t 0), none, []⟩,
      ⟨(some 10), .cap (.t 9), none, [1]⟩,
      ⟨(some 11), .mv (.t 0), none, []⟩,
      ⟨(some 12), .len (.t 11), none, [3]⟩,
      ⟨(some 13), .bin .sub (.t 10) (.t 12), none, [2, 4]⟩,
      ⟨(some 14), .bin .sub (.t 8) (.t 13), none, [0, 5]⟩,
      ⟨(some 1), .mv (.t 14), none, [6, 0, 1, 2, 3, 4, 5]⟩])
     (.seq (.region false [⟨(some 15), .mv (.t 1), none, []⟩,
       ⟨(some 16), .bin .gtr (.t 15) (.k (.d (.int .i64 0))), none, [0]⟩])
      (.cond (.t 16) (.region false [⟨(some 17), .mv (.t 0), none, []⟩,
        ⟨(some 18), .mv (.t 0), none, []⟩,
        ⟨(some 19), .cap (.t 18), none, [1]⟩,
        ⟨(some 20), .slc (.t 17) none (some (.t 19)) none z, none, [0, 2]⟩,
        ⟨(some 21), .mv (.t 1), none, []⟩,
        ⟨(some 22), .grow (.t 20) (.t 21) z by' zz, none, [3, 4]⟩,
        ⟨(some 23), .mv (.t 0), none, []⟩,
        ⟨(some 24), .len (.t 23), none, [6]⟩,
        ⟨(some 25), .slc (.t 22) none (some (.t 24)) none z, none, [5, 7]⟩,
        ⟨(some 0), .mv (.t 25), none, [8, 5, 0, 1, 2, 3, 4, 6, 7]⟩])
       (.skip))))
    (.seq (.region false [⟨(some 26), .mv (.t 0), none, []⟩,
      ⟨(some 4), .mv (.t 26), none, [0]⟩])
     .ret)))) }
end
section
variable {P : Program} {aops os : List AOper} {draw : Bool} {N k c : Nat} {l : List (Nat × AV)} {H H' : AHeap} {A : List Tk} {Q : AAct → AHeap → Nat → Prop}
variable {gd : Option (Nat × Bool)} {af : List Nat} {t : Nat} {z l0 len : Nat} {x y : Arg} {n : Int} {kd : IntKind}
theorem RegV.grow {by' : Nat} {zz : List D} (hg : gOn gd (us l ⟨some t, .grow x y z by' zz, gd, af⟩) = some true) (hx : evA (us l ⟨some t, .grow x y z by' zz, gd, af⟩) x = some .nils) (hy : evA (us l ⟨some t, .grow x y z by' zz, gd, af⟩) y = some (.d (.int kd n))) (hzl : zz.length = z) (hzp : Nat.blt 0 z = true)
    (hby : Nat.blt 0 by' = true) (hn0 : 0 < n) (hfit : n * by' ≤ 281474976710656) (hd : Nat.blt t N = true) (hH : restK [] [(c, .tok 0)] H = H)
    (hn : RegV P aops draw N (k + 1) os (c + 1) ((t, .row c z n.toNat) :: l) ((c, .rowP []) :: H) (⟨[c], false⟩ :: A) Q) : RegV P aops draw N k (⟨some t, .grow x y z by' zz, gd, af⟩ :: os) c l H A Q := by
  refine RegV.up (fun _ h' => RegU.op hg (AOpT.grow (nl := c) hx hy hzl (Nat.le_of_ble_eq_true hzp) (Nat.le_of_ble_eq_true hby) hn0 hfit) hd (fun x hx => by cases hx) newOK_one rfl (q := false) (fun h => by cases h) rfl (H' := (c, .rowP []) :: H) ?_ topK_one h') hn
  rw [restK_new H _ (.tok 0), hH]; rfl
theorem RegV.slN {ha : Option Arg} (hg : gOn gd (us l ⟨some t, .slc x none ha none z, gd, af⟩) = some true) (hx : evA (us l ⟨some t, .slc x none ha none z, gd, af⟩) x = some .nils) (hh : oInt (evA (us l ⟨some t, .slc x none ha none z, gd, af⟩)) 0 ha = some 0)
    (hd : Nat.blt t N = true) (hn : RegV P aops draw N (k + 1) os c ((t, .nils) :: l) H (⟨[], true⟩ :: A) Q) : RegV P aops draw N k (⟨some t, .slc x none ha none z, gd, af⟩ :: os) c l H A Q :=
  RegV.up (fun _ h' => RegU.op (hin := []) (hout := []) hg (AOpT.slcN hx hh) hd (fun x hx => by cases hx) rfl rfl (fun _ => rfl) rfl (restK_nil H) rfl h') hn
theorem RegV.slR {ha : Option Arg} {h : Int} (hg : gOn gd (us l ⟨some t, .slc x none ha none z, gd, af⟩) = some true) (hx : evA (us l ⟨some t, .slc x none ha none z, gd, af⟩) x = some (.row l0 z len)) (hh : oInt (evA (us l ⟨some t, .slc x none ha none z, gd, af⟩)) (len : Int) ha = some h)
    (hb : 0 ≤ h ∧ h ≤ (len : Int)) (hd : Nat.blt t N = true) (hn : RegV P aops draw N (k + 1) os c ((t, .row l0 z h.toNat) :: l) H (⟨[], true⟩ :: A) Q) : RegV P aops draw N k (⟨some t, .slc x none ha none z, gd, af⟩ :: os) c l H A Q :=
  RegV.up (fun _ h' => RegU.op (hin := []) (hout := []) hg (AOpT.slcR hx hh hb) hd (fun x hx => by cases hx) rfl rfl (fun _ => rfl) rfl (restK_nil H) rfl h') hn
variable {α : Type} {e : α → D} {g : Bool} {ys : List α} in
theorem RegV.appR {by' : Nat} {zz : List D} (hg : gOn gd (us l ⟨some t, .app x y z by' zz, gd, af⟩) = some true) (hx : evA (us l ⟨some t, .app x y z by' zz, gd, af⟩) x = some .nils) (hy : (evA (us l ⟨some t, .app x y z by' zz, gd, af⟩) y).bind toSrc = some (ys.map e)) (he : EncOK e z g)
    (hzl : zz.length = z) (hby : Nat.blt 0 by' = true) (hfit : ys.length * by' ≤ 281474976710656) (hd : Nat.blt t N = true) (hH : restK [] [(c, .tok 0)] H = H)
    (hn : RegV P aops draw N (k + 1) os (c + 1) ((t, .row c z ys.length) :: l) ((c, rowO e ys) :: H) (⟨[c], false⟩ :: A) Q) : RegV P aops draw N k (⟨some t, .app x y z by' zz, gd, af⟩ :: os) c l H A Q := by
  obtain ⟨yv, hyv, hsrc⟩ := Option.bind_eq_some_iff.1 hy
  have h0 := AOpT.appR (P := P) (nl := c) hx hyv hsrc hzl (Nat.le_of_ble_eq_true hby) (by simpa using hfit) (mapLen he.len)
  rw [List.length_map] at h0
  refine RegV.up (fun _ h' => RegU.op hg h0 hd (fun x hx => by cases hx) newOK_one rfl (q := false) (fun h => by cases h) rfl (H' := (c, rowO e ys) :: H) ?_ topK_one h') hn
  rw [restK_new H _ (.tok 0), hH]; rfl
end
theorem grow_gen {P : Program} {f : FuncId} {z by' : Nat} {zz : List D} (hmix : P.follows .mixedOrders = true) (hc : HasF P f (GrowC z by' zz)) (hzl : zz.length = z) (hzp : Nat.blt 0 z = true) (hby : Nat.blt 0 by' = true) {n : Int} (h0 : 0 ≤ n) (hb : n * by' ≤ 281474976710656) (h63 : n < 9223372036854775808) :
    ACalls P f [.nils, .d (.int .i64 n)] [] (.ap 0 z []) [(0, .tok 0)] := by
  have hw : IntKind.i64.wrap (n - IntKind.i64.wrap (0 - 0)) = n := by
    have e1 : IntKind.i64.wrap (0 - 0) = 0 := by decide
    rw [e1]
    simp only [IntKind.wrap, IntKind.signed, IntKind.bits]
    simp
    omega
  refine acalls_canon (F := GrowC z by' zz) hc 0 1 rfl ?_
  dsimp only [GrowC, startL]
  refine AWc.seq ?_
  refine AWc.rg hmix rfl rfl ?_
  refine RegV.p0 rfl rfl rfl ?_
  refine RegV.nil0 ?_
  refine AWc.seq ?_
  refine AWc.seq ?_
  refine AWc.rg hmix rfl rfl ?_
  refine RegV.p0 rfl rfl rfl ?_
  refine RegV.p0 (v := .d (.bool (decide (n < 0)))) rfl rfl rfl ?_
  refine RegV.nil0 ?_
  refine AWc.cond rfl (fun hc => absurd (of_decide_eq_true hc) (by omega)) (fun _ => ?_)
  refine AWc.skip ?_
  refine AWc.seq ?_
  refine AWc.seq ?_
  refine AWc.rg hmix rfl rfl ?_
  refine RegV.p0 rfl rfl rfl ?_
  refine RegV.p0 rfl rfl rfl ?_
  refine RegV.p0 rfl rfl rfl ?_
  refine RegV.p0 rfl rfl rfl ?_
  refine RegV.p0 (v := .d (.int .i64 0)) rfl rfl rfl ?_
  refine RegV.p0 (v := .d (.int .i64 (IntKind.i64.wrap (0 - 0)))) rfl rfl rfl ?_
  refine RegV.p0 (v := .d (.int .i64 (IntKind.i64.wrap (n - IntKind.i64.wrap (0 - 0))))) rfl rfl rfl ?_
  rw [hw]
  refine RegV.p0 rfl rfl rfl ?_
  refine RegV.nil0 ?_
  refine AWc.seq ?_
  refine AWc.rg hmix rfl rfl ?_
  refine RegV.p0 rfl rfl rfl ?_
  refine RegV.p0 (v := .d (.bool (decide (n > 0)))) rfl rfl rfl ?_
  refine RegV.nil0 ?_
  refine AWc.cond rfl (fun hp => ?_) (fun hp => ?_)
  · have hpos : 0 < n := of_decide_eq_true hp
    refine AWc.rg hmix rfl rfl ?_
    refine RegV.p0 rfl rfl rfl ?_
    refine RegV.p0 rfl rfl rfl ?_
    refine RegV.p0 rfl rfl rfl ?_
    refine RegV.slN rfl rfl rfl rfl ?_
    refine RegV.p0 rfl rfl rfl ?_
    refine RegV.grow rfl rfl rfl hzl hzp hby hpos hb rfl rfl ?_
    refine RegV.p0 rfl rfl rfl ?_
    refine RegV.p0 (v := .d (.int .i64 0)) rfl rfl rfl ?_
    refine RegV.slR (h := 0) rfl rfl rfl ⟨Int.le_refl _, by omega⟩ rfl ?_
    refine RegV.p0 rfl rfl rfl ?_
    refine RegV.nil0 ?_
    refine AWc.seq ?_
    refine AWc.rg hmix rfl rfl ?_
    refine RegV.p0 rfl rfl rfl ?_
    refine RegV.p0 rfl rfl rfl ?_
    refine RegV.nil0 ?_
    refine AWc.ret ?_
    refine canQ (N := 27) (k := 1) (l' := [(4, .ap 0 z [])]) (H' := [(0, .tok 0)]) rfl ⟨rfl, [], [(0, 0)], rfl, rfl, ⟨⟨_, rfl, .rowAp⟩, rfl, trivial⟩, ⟨⟨_, rfl, .rowTok⟩, rfl, rfl, trivial⟩⟩ ?_
    exact doneA (.inr rfl) rfl ⟨trivial, trivial⟩ (.refl _) (hasCons rfl hasNil)
  · refine AWc.skip ?_
    refine AWc.seq ?_
    refine AWc.rg hmix rfl rfl ?_
    refine RegV.p0 rfl rfl rfl ?_
    refine RegV.p0 rfl rfl rfl ?_
    refine RegV.nil0 ?_
    refine AWc.ret ?_
    refine canQ (N := 27) (k := 1) (l' := [(4, .ap 0 z [])]) (H' := [(0, .tok 0)]) rfl ⟨rfl, [.tok 0], [(0, 0)], rfl, rfl, ⟨⟨_, rfl, .nil⟩, rfl, trivial⟩, ⟨⟨_, rfl, .refl _⟩, rfl, rfl, trivial⟩⟩ ?_
    exact doneA (.inr rfl) rfl ⟨trivial, trivial⟩ (.refl _) (hasCons rfl hasNil)
end Go.Proofs.Abs
