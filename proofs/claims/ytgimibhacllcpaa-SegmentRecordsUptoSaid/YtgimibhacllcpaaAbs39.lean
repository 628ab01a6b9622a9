/- More words of the generator. -/
import Derived.Test.YtgimibhacllcpaaAbs38
namespace Go.Proofs.Abs
open Go
set_option linter.unusedVariables false
set_option linter.unusedSectionVars false
section
variable {P : Program} {aops os : List AOper} {draw : Bool} {N k c : Nat} {l : List (Nat × AV)} {H H' : AHeap} {A : List Tk} {Q : AAct → AHeap → Nat → Prop}
variable {gd : Option (Nat × Bool)} {af : List Nat} {t : Nat} {α : Type} {e : α → D} {z : Nat} {x y : Arg} {n m : Int} {ys : List α} {q : Nat}
/-- a row of zeros, as data -/
theorem RegV.mkD {kn kc : IntKind} {by' : Nat} {zz : List D} {a0 : α} (hg : gOn gd (us l ⟨some t, .mksl x y z by' zz, gd, af⟩) = some true) (hx : evA (us l ⟨some t, .mksl x y z by' zz, gd, af⟩) x = some (.d (.int kn n))) (hy : evA (us l ⟨some t, .mksl x y z by' zz, gd, af⟩) y = some (.d (.int kc m)))
    (hzz : zElem zz = e a0) (hzl : zz.length = z) (hzp : Nat.blt 0 z = true) (hby : Nat.blt 0 by' = true) (hb : 0 ≤ n ∧ n ≤ m ∧ m * by' ≤ 281474976710656) (hd : Nat.blt t N = true)
    (hn : RegV P aops draw N (k + 1) os c ((t, .d (.sl ((List.replicate n.toNat a0).map e))) :: l) H (⟨[], true⟩ :: A) Q) : RegV P aops draw N k (⟨some t, .mksl x y z by' zz, gd, af⟩ :: os) c l H A Q := by
  refine RegV.p1 (v := .d (.sl (List.replicate n.toNat (zElem zz)))) (s := 0 ≤ n ∧ n ≤ m ∧ m * by' ≤ 281474976710656 ∧ 0 < by' ∧ zz.length = z ∧ 0 < z) hg ?_ ⟨hb.1, hb.2.1, hb.2.2, Nat.le_of_ble_eq_true hby, hzl, Nat.le_of_ble_eq_true hzp⟩ hd (by rw [hzz, List.map_replicate]) hn
  simp only [evOp, hx, hy, cond_false]
theorem oW (ys : List α) (q : Nat) : ((((ys.map e).take q).length : Nat) : Int) = ((ys.take q).length : Int) := by simp
/-- a part of a window, as data -/
theorem RegV.slcW {la : Arg} {ha : Option Arg} {lo hi hi0 : Int} (hg : gOn gd (us l ⟨some t, .slc x (some la) ha none z, gd, af⟩) = some true) (hx : evA (us l ⟨some t, .slc x (some la) ha none z, gd, af⟩) x = some (.win (ys.map e) q))
    (hlo : oInt (evA (us l ⟨some t, .slc x (some la) ha none z, gd, af⟩)) 0 (some la) = some lo) (hhi : oInt (evA (us l ⟨some t, .slc x (some la) ha none z, gd, af⟩)) ((((ys.map e).take q).length : Nat) : Int) ha = some hi0) (hh : hi0 = hi)
    (hb : 0 ≤ lo ∧ lo ≤ hi ∧ hi ≤ ((ys.take q).length : Int)) (hz : ∀ a, (e a).cells.length = z) (hd : Nat.blt t N = true)
    (hn : RegV P aops draw N (k + 1) os c ((t, .d (.sl ((sl (ys.take q) lo hi).map e))) :: l) H (⟨[], true⟩ :: A) Q) : RegV P aops draw N k (⟨some t, .slc x (some la) ha none z, gd, af⟩ :: os) c l H A Q := by
  subst hh
  refine RegV.p1 (v := .d (.sl ((((ys.map e).take q).take hi0.toNat).drop lo.toNat))) (s := 0 ≤ lo ∧ lo ≤ hi0 ∧ hi0 ≤ (((ys.map e).take q).length : Nat) ∧ ∀ d ∈ (ys.map e).take q, d.cells.length = z) hg ?_ ⟨hb.1, hb.2.1, by rw [oW]; exact hb.2.2, fun d hd => ?_⟩ hd ?_ hn
  · simp only [evOp, hx, hlo, hhi, Option.bind_some]; rfl
  · obtain ⟨a, _, rfl⟩ := List.mem_map.1 (List.mem_of_mem_take hd)
    exact hz a
  · simp only [sl, List.map_drop, List.map_take]
end
section
variable {P : Program} {N n : Nat} {l sl : List (Nat × AV)} {H : AHeap} {ps : List Nat} {f : FuncId} {ws ys : List AV} {Q : Exit → AAct → AHeap → Nat → Prop} {asg bd : Code} {hin hout H' : AHeap} {r : AV} {N' : Nat} {sl' : List (Nat × AV)} {ps' : List Nat} {asg' bd' : Code}
    {st : LoopState} {c' id : Nat}
theorem rfN (hcall : ACalls P f ys hin r hout) (hsub : SubL ws ys) (hin' : HasAll ((n, AObj.lp N sl ps asg bd .ready none) :: H) hin) (hn : newOK (n + 1) hin hout = true)
    (hlp : lkH hout n = some (.lp N' sl' ps' asg' bd' st none)) (hst : notBusy st = true) (hH : dropK n (appK hout (restK hin hout ((n, .lp N sl ps asg bd .ready none) :: H))) = H') (hc : topK (n + 1) hout = c')
    (hQ : Q .normal ⟨N, l⟩ H' c') : RFok P N n l sl H ps f ws Q asg bd := rfOK hcall hsub hin' hn hlp hst hH hc hQ
theorem rfE (hcall : ACalls P f ys hin r hout) (hsub : SubL ws ys) (hin' : HasAll ((n, AObj.lp N sl ps asg bd .ready none) :: H) hin) (hn : newOK (n + 1) hin hout = true)
    (hlp : lkH hout n = some (.lp N' sl' ps' asg' bd' st (some (.exit id)))) (hst : notBusy st = true) (hH : dropK n (appK hout (restK hin hout ((n, .lp N sl ps asg bd .ready none) :: H))) = H') (hc : topK (n + 1) hout = c')
    (hQ : Q (.exit id) ⟨N, l⟩ H' c') : RFok P N n l sl H ps f ws Q asg bd := rfOK hcall hsub hin' hn hlp hst hH hc hQ
theorem rfR (hcall : ACalls P f ys hin r hout) (hsub : SubL ws ys) (hin' : HasAll ((n, AObj.lp N sl ps asg bd .ready none) :: H) hin) (hn : newOK (n + 1) hin hout = true)
    (hlp : lkH hout n = some (.lp N' sl' ps' asg' bd' st (some .ret))) (hst : notBusy st = true) (hH : dropK n (appK hout (restK hin hout ((n, .lp N sl ps asg bd .ready none) :: H))) = H') (hc : topK (n + 1) hout = c')
    (hQ : Q .ret ⟨N, l⟩ H' c') : RFok P N n l sl H ps f ws Q asg bd := rfOK hcall hsub hin' hn hlp hst hH hc hQ
/-- an array is told -/
theorem doneArr {α : Type} [Inhabited α] {e : α → D} {z q t l0 : Nat} {g : Bool} {xs : List α} {a : AAct} {H H' : AHeap} {n : Nat} {ex : Exit} (hex : ex = .normal ∨ ex = .ret) (hl : lk a.l t = some (.ptr l0 0)) (he : EncOK e z g) (h0 : lkH H l0 = some (cellsC e xs)) (hq : xs.length * z = q) (hH : HasAll H H') :
    DoneS [.cell t q true] (.d (.agg (cellsD e xs))) H' ex a H n := by
  refine doneS hex (xs := [.d (.agg (cellsD e xs))]) (s := 0 + q ≤ ((cellsD e xs).map AV.d).length ∧ True) ?_ ⟨by rw [List.length_map, cellsD_len he]; omega, trivial⟩ (.refl _) hH.get
  simp only [resAll, resOne, hl, Option.bind_some, load_arr he h0 hq]
end
end Go.Proofs.Abs
