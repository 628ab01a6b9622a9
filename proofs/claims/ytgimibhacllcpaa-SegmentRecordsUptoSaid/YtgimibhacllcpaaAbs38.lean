/- Windows; copies of rows; small words. -/
import Derived.Test.YtgimibhacllcpaaAbs37
namespace Go.Proofs.Abs
open Go
set_option linter.unusedVariables false
set_option linter.unusedSectionVars false
section
variable {α : Type} {e : α → D}
theorem toSlW (t : List α) (n : Nat) : toSl (.win (t.map e) n) = some ((t.take n).map e) := by simp [toSl, List.map_take]
theorem toSrcW (t : List α) (n : Nat) : (some (AV.win (t.map e) n)).bind toSrc = some ((t.take n).map e) := by simp [toSrc, toSl, List.map_take]
theorem Sub.win {t : List α} {n : Nat} : Sub (.win (t.map e) n) (.d (.sl ((t.take n).map e))) := .sl (toSlW t n)
theorem cellsU8 {n : Int} (h : 0 ≤ n ∧ n < 256) : cellsAV (.d (.int .u8 n)) = some ((byteD (u8 n)).cells.map .d) := by
  rw [show (D.int .u8 n) = byteD (u8 n) from u8_eq h]; rfl
theorem byteD_ok : EncOK byteD 1 false := ⟨fun _ => rfl, fun _ c hc => by simp [byteD, D.cells] at hc; subst hc; rfl, fun _ => rfl⟩
theorem int_ok (k : IntKind) : EncOK (D.int k) 1 false := ⟨fun _ => rfl, fun _ c hc => by simp [D.cells] at hc; subst hc; rfl, fun _ => rfl⟩
theorem str_ok : EncOK D.str 1 false := ⟨fun _ => rfl, fun _ c hc => by simp [D.cells] at hc; subst hc; rfl, fun _ => rfl⟩
theorem bool_ok : EncOK D.bool 1 false := ⟨fun _ => rfl, fun _ c hc => by simp [D.cells] at hc; subst hc; rfl, fun _ => rfl⟩
theorem slE_ok : EncOK (slE e) 1 false := ⟨fun _ => rfl, fun _ c hc => by simp [D.cells] at hc; subst hc; rfl, fun _ => rfl⟩
end

section
variable {P : Program}
theorem ACalls.nilcase {f : FuncId} {xs : List D} {rest : List AV} {H H' : AHeap} {r : AV} (h1 : xs = [] → ACalls P f (.nils :: rest) H r H') (h2 : ACalls P f (.dn xs :: rest) H r H') : ACalls P f (.d (.sl xs) :: rest) H r H' := by
  refine ⟨h2.1, fun S i w vs hlen hvs hh hf => ?_⟩
  cases vs with
  | nil => simp at hlen
  | cons v vs =>
    have hv := vD (hvs 0 (by simp) (by simp))
    simp only [List.getElem_cons_zero] at hv
    have go : ∀ x, V S i x v → ∀ j (a : j < (x :: rest).length) (b : j < (v :: vs).length), V S i (x :: rest)[j] (v :: vs)[j] := by
      intro x hx j a b
      cases j with
      | zero => exact hx
      | succ j => exact hvs (j + 1) (by simpa using a) b
    cases hv with
    | nilsl => exact (h1 rfl).2 S i w _ (by simpa using hlen) (go _ .nils) hh hf
    | emp => exact h2.2 S i w _ (by simpa using hlen) (go _ (.dn .emp)) hh hf
    | sl f hz hg hc hs hall => exact h2.2 S i w _ (by simpa using hlen) (go _ (.dn (.sl f hz hg hc hs hall))) hh hf
end

section
variable {P : Program} {aops os : List AOper} {draw : Bool} {N k c : Nat} {l : List (Nat × AV)} {H H' : AHeap} {A : List Tk} {Q : AAct → AHeap → Nat → Prop}
variable {gd : Option (Nat × Bool)} {af : List Nat} {t : Nat} {α : Type} {e : α → D} {z : Nat} {x y : Arg} {n m : Int} {ys : List α} {q : Nat}
theorem RegV.capW (hg : gOn gd (us l ⟨some t, .cap x, gd, af⟩) = some true) (hx : evA (us l ⟨some t, .cap x, gd, af⟩) x = some (.win (ys.map e) q)) (hd : Nat.blt t N = true)
    (hn : RegV P aops draw N (k + 1) os c ((t, .d (.int .i64 (ys.length : Int))) :: l) H (⟨[], true⟩ :: A) Q) : RegV P aops draw N k (⟨some t, .cap x, gd, af⟩ :: os) c l H A Q := by
  refine RegV.p1 (v := .d (.int .i64 ((ys.map e).length : Nat))) (s := True) hg ?_ trivial hd (by rw [List.length_map]) hn
  simp only [evOp, hx]; rfl
/-- a part of a window, from its begin: it may go beyond -/
theorem RegV.slW {ha : Option Arg} {hi : Int} (hg : gOn gd (us l ⟨some t, .slc x none ha none z, gd, af⟩) = some true) (hx : evA (us l ⟨some t, .slc x none ha none z, gd, af⟩) x = some (.win (ys.map e) q))
    (hhi : oInt (evA (us l ⟨some t, .slc x none ha none z, gd, af⟩)) (q : Int) ha = some hi) (hb : 0 ≤ hi ∧ hi ≤ (ys.length : Int)) (hd : Nat.blt t N = true)
    (hn : RegV P aops draw N (k + 1) os c ((t, .win (ys.map e) hi.toNat) :: l) H (⟨[], true⟩ :: A) Q) : RegV P aops draw N k (⟨some t, .slc x none ha none z, gd, af⟩ :: os) c l H A Q := by
  refine RegV.p1 (v := .win (ys.map e) hi.toNat) (s := 0 ≤ hi ∧ hi ≤ ((ys.map e).length : Nat)) hg ?_ ⟨hb.1, by simpa using hb.2⟩ hd rfl hn
  have h0 : oInt (evA (us l ⟨some t, .slc x none ha none z, gd, af⟩)) 0 none = some 0 := rfl
  simp only [evOp, hx, h0, hhi, Option.bind_some]; rfl
end

/-! ### a copy -/
def CloneC (z by' : Nat) (zz : List D) : AFunc := { n := 8, params := 1, res := [.tmp 2], body :=
 (.seq (.region false [⟨(some 2), .mv (.k .nils), none, []⟩])
  (.seq (.seq (.region false [⟨(some 3), .mv (.t 0), none, []⟩,
     ⟨(some 4), .nileq 0 false (.t 3) (.k .nils), none, [0]⟩])
    (.cond (.t 4) (.seq (.region false [⟨(some 2), .mv (.k .nils), none, []⟩])
      .ret)
     (.skip)))
   (.seq (.region false [⟨(some 5), .bslice 0 z zz [], none, []⟩,
     ⟨(some 6), .mv (.t 0), none, []⟩,
     ⟨(some 7), .app (.t 5) (.t 6) z by' zz, none, [0, 1]⟩,
     ⟨(some 2), .mv (.t 7), none, [2, 0, 1]⟩])
    .ret))) }
theorem clone_gen {P : Program} {f : FuncId} {α : Type} {e : α → D} {z by' : Nat} {zz : List D} {g : Bool} (hmix : P.follows .mixedOrders = true) (he : EncOK e z g) (hc : HasF P f (CloneC z by' zz)) (hzz : zz.length = z) (hby : Nat.blt 0 by' = true) {xs : List α}
    (hb : xs.length * 2 * by' ≤ 281474976710656) : ACalls P f [.d (.sl (xs.map e))] [] (.ap 0 z (xs.map e)) [(0, .tok ((xs.map e).length * z))] := by
  refine ACalls.nilcase (fun h0 => ?_) ?_
  · have hx : xs = [] := by simpa using h0
    subst hx
    refine acalls_canon (F := CloneC z by' zz) hc 0 1 rfl ?_
    dsimp only [CloneC, startL]
    refine AWc.seq ?_
    refine AWc.rg hmix rfl rfl ?_
    refine RegV.p0 rfl rfl rfl ?_
    refine RegV.nil0 ?_
    refine AWc.seq ?_
    refine AWc.seq ?_
    refine AWc.rg hmix rfl rfl ?_
    refine RegV.p0 rfl rfl rfl ?_
    refine RegV.p0 rfl rfl rfl ?_
    refine RegV.nil0 ?_
    refine AWc.cond rfl (fun _ => ?_) (fun hc => by cases hc)
    refine AWc.seq ?_
    refine AWc.rg hmix rfl rfl ?_
    refine RegV.p0 rfl rfl rfl ?_
    refine RegV.nil0 ?_
    refine AWc.ret ?_
    have hz : ([] : List D).length * z = 0 := by simp
    refine canQ (N := 8) (k := 1) (l' := [(2, .ap 0 z [])]) (H' := [(0, .tok 0)]) rfl ⟨rfl, [.tok 0], [(0, 0)], rfl, rfl, ⟨⟨_, rfl, .nil⟩, rfl, trivial⟩, ⟨⟨_, rfl, .refl _⟩, rfl, rfl, trivial⟩⟩ ?_
    refine doneA (.inr rfl) rfl ⟨trivial, trivial⟩ (.refl _) (hasCons ?_ hasNil)
    simp [lkH]
  · refine acalls_canon (F := CloneC z by' zz) hc 0 1 rfl ?_
    dsimp only [CloneC, startL]
    refine AWc.seq ?_
    refine AWc.rg hmix rfl rfl ?_
    refine RegV.p0 rfl rfl rfl ?_
    refine RegV.nil0 ?_
    refine AWc.seq ?_
    refine AWc.seq ?_
    refine AWc.rg hmix rfl rfl ?_
    refine RegV.p0 rfl rfl rfl ?_
    refine RegV.p0 rfl rfl rfl ?_
    refine RegV.nil0 ?_
    refine AWc.cond rfl (fun hc => by cases hc) (fun _ => ?_)
    refine AWc.skip ?_
    refine AWc.seq ?_
    refine AWc.rg hmix rfl rfl ?_
    refine RegV.bs0 rfl hzz rfl rfl ?_
    refine RegV.p0 rfl rfl rfl ?_
    refine RegV.appA (xs := []) (ys := xs) (e := e) (H1 := []) rfl rfl rfl (by simp [lkH]) he.len hzz hby (by simpa using hb) rfl rfl rfl ?_
    refine RegV.p0 rfl rfl rfl ?_
    refine RegV.nil0 ?_
    refine AWc.ret ?_
    refine canQ (N := 8) (k := 1) (l' := [(2, .ap 0 z (xs.map e))]) (H' := [(0, .tok ((xs.map e).length * z))]) rfl ⟨rfl, [], [(0, 1)], rfl, rfl, ⟨⟨_, rfl, .refl _⟩, rfl, trivial⟩, ⟨⟨_, rfl, .refl _⟩, rfl, rfl, trivial⟩⟩ ?_
    exact doneA (.inr rfl) rfl ⟨trivial, trivial⟩ (.refl _) (hasCons rfl hasNil)
end Go.Proofs.Abs
