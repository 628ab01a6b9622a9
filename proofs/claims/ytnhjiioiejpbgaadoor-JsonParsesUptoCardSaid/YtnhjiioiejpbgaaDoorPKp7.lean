/- Two parsers of json at the same place: values. -/
import Derived.Test.YtnhjiioiejpbgaaDoorPKp6
set_option linter.unusedSimpArgs false
namespace Go.Proofs.Abs
open Go
set_option linter.unusedVariables false
set_option maxRecDepth 100000
variable {s R : List UInt8} {n : Int} {c : UInt8} {ks : List (List UInt8)}
def fst1 (b : Bool) : UInt8 := cond b 123 91
def cls (b : Bool) : UInt8 := cond b 125 93
def knd (b : Bool) : Int := cond b 7 6
/-- a value of a height that is as long as it may be -/
def JOk : Nat → TJson → Prop
  | 0, v => v.fL = [] ∧ v.fKeys = []
  | h + 1, v => v.fL.length ≤ 30000 ∧ v.fKeys.length ≤ 30000 ∧ ∀ x ∈ v.fL, ∃ u, x = RT.of TJson.ok u ∧ JOk h u
def LOk (h : Nat) (L : List (RT 4)) : Prop := ∀ x ∈ L, ∃ u, x = RT.of TJson.ok u ∧ JOk h u
theorem JOk.leaf (h : Nat) (k : Int) (t : List UInt8) : JOk h ⟨k, t, [], []⟩ := by
  cases h with
  | zero => exact ⟨rfl, rfl⟩
  | succ h => exact ⟨by simp, by simp, fun x hx => (List.not_mem_nil hx).elim⟩
def ValAt (s : List UInt8) (J h : Nat) (R : List UInt8) (n : Int) : Prop :=
  (∃ v n' R', f397 J s n (64 - (h : Int)) = some (0, v.fKind, v.fText, v.fL, v.fKeys, n') ∧ f296 J s n 0 (64 - (h : Int)) = some (v.fKind, v.fText, v.fL, v.fKeys, n', 0) ∧ At s n' R' ∧ R'.length < R.length ∧ JOk h v) ∨
  (∃ e, e ≠ 0 ∧ (∃ kd tx l ks n1, f397 J s n (64 - (h : Int)) = some (e, kd, tx, l, ks, n1)) ∧ Rf s R e (f296 J s n 0 (64 - (h : Int))))
abbrev RL := Option (LR2 (Int × Int) Unit (Int × (List (RT 4)) × (List (List UInt8)) × Int × Int))
abbrev PL := Option (LR2 Unit Unit (Int × Int × (List (RT 4)) × (List (List UInt8)) × Int))
def REnd (s R : List UInt8) (e : Int) (o : RL) : Prop := (∃ a b c n2 R2, o = some (.r (a, b, c, n2, e)) ∧ At s n2 R2 ∧ R2.length ≤ R.length) ∨ (∃ n2 R2, o = some (.b0 (n2, e)) ∧ At s n2 R2 ∧ R2.length ≤ R.length)
theorem REnd.mono {R' : List UInt8} {e : Int} {o : RL} (h : REnd s R e o) (hl : R.length ≤ R'.length) : REnd s R' e o := by
  rcases h with ⟨a, b, c, n2, R2, g1, g2, g3⟩ | ⟨n2, R2, g1, g2, g3⟩
  · exact .inl ⟨a, b, c, n2, R2, g1, g2, by omega⟩
  · exact .inr ⟨n2, R2, g1, g2, by omega⟩
/-- both loops alike -/
def LEq (s : List UInt8) (h : Nat) (b : Bool) (R : List UInt8) (p : PL) (r : RL) : Prop :=
  (∃ L' ks' n' R', p = some (.r (0, knd b, L', ks', n')) ∧ r = some (.r (knd b, L', ks', n', 0)) ∧ At s n' R' ∧ R'.length < R.length ∧ LOk h L' ∧ L'.length ≤ 20001 ∧ ks'.length ≤ 20001) ∨
  (∃ e, e ≠ 0 ∧ (∃ a b' c d, p = some (.r (e, a, b', c, d))) ∧ REnd s R e r)
theorem LEq.mono {R' : List UInt8} {h : Nat} {b : Bool} {p : PL} {r : RL} (q : LEq s h b R p r) (hl : R.length ≤ R'.length) : LEq s h b R' p r := by
  rcases q with ⟨L', ks', n', R2, g1, g2, g3, g4, g5, g6⟩ | ⟨e, g1, g2, g3⟩
  · exact .inl ⟨L', ks', n', R2, g1, g2, g3, by omega, g5, g6⟩
  · exact .inr ⟨e, g1, g2, g3.mono hl⟩
theorem loopE (q : Int) (rc) (D : Int) (z : List UInt8) (K : Nat) (e : Int) (L : List (RT 4)) (ks : List (List UInt8)) (hK : 1 ≤ K) (he : e ≠ 0) : f353_l68 q s rc D z K n e L ks = some (.b0 (n, e)) := by
  obtain ⟨K, rfl⟩ : ∃ j, K = j + 1 := ⟨K - 1, by omega⟩
  rw [f353_l68, cdn he]
theorem j170_err (hb : s.length ≤ 20000) (q : Int) (rc : List UInt8 → Int → Int → Int → Option (Int × List UInt8 × List (RT 4) × List (List UInt8) × Int × Int)) (D : Int) (z : UInt8) (K : Nat) (L : List (RT 4)) (ks4 : List (List UInt8)) (n4 y2 e : Int) (R5 : List UInt8)
    (hrc : Rf s R e (rc s n4 y2 (IntKind.i64.wrap (D + 1)))) (he : e ≠ 0) (hK : R.length + 5 ≤ K) (hL : L.length ≤ 30000) :
    REnd s R e (f353_j170 (f353_l68 q s rc D [z] K) K rc s D L [z] q n4 y2 ks4) := by
  obtain ⟨kd, tx, l, ks, n5, R5, g1, g2, g3⟩ := hrc
  obtain ⟨n6, R6, h1, h2, _, w, _⟩ := whites hb K g2 (by omega)
  unfold f353_j170
  rw [g1, Option.bind_some]
  show REnd s R e (gd ((L.length + 1) * 2 * 72 ≤ 281474976710656) (Option.bind (f297 K s n5 e) _))
  rw [gdp (by omega), w e, Option.bind_some]
  rcases ris_gen K e [z] h1 hb (by simp) with ⟨R', e1, e2, e3⟩ | ⟨e2, _⟩
  · rw [e2]
    exact .inl ⟨_, _, _, _, R', rfl, e3, by have := congrArg List.length e1; simp at this; omega⟩
  · rw [e2, Option.bind_some]
    show REnd s R e (cond false _ (Option.bind (f299 K s n6 e [44]) _))
    rw [cond_false]
    rcases ris_gen K e [44] h1 hb (by simp) with ⟨R', e1, e2, e3⟩ | ⟨e2, _⟩
    · rw [e2, Option.bind_some]
      show REnd s R e (cond false _ (f353_l68 q s rc D [z] K (n6 + (([(44 : UInt8)].length : Nat) : Int)) e _ _))
      rw [cond_false, loopE _ _ _ _ _ _ _ _ (by omega) he]
      exact .inr ⟨_, R', rfl, e3, by have := congrArg List.length e1; simp at this; omega⟩
    · rw [e2, Option.bind_some]
      show REnd s R e (cond true (Option.bind (f298 K s n6 e 4) _) _)
      rw [cond_true, failE K s n6 e 4 he, Option.bind_some]
      show REnd s R e (f353_l68 q s rc D [z] K n6 e _ _)
      rw [loopE _ _ _ _ _ _ _ _ (by omega) he]
      exact .inr ⟨n6, R6, rfl, h1, by omega⟩
def contP (J K h : Nat) (b : Bool) (s : List UInt8) (r69 : Int × Int × List (RT 4) × List (List UInt8)) : PL :=
  cond (decide (r69.1 ≠ (0 : Int))) (some (.r (r69.1, (0 : Int), ([] : List (RT 4)), ([] : List (List UInt8)), r69.2.1))) ((f398 K s r69.2.1).bind fun r90 => (f401 K s r90 (cls b)).bind fun r97 => cond r97.1 (some (.r ((0 : Int), knd b, r69.2.2.1, r69.2.2.2, r97.2))) ((f401 K s r97.2 (44 : UInt8)).bind fun r111 => cond (!r111.1) (some (.r ((4 : Int), (0 : Int), ([] : List (RT 4)), ([] : List (List UInt8)), r111.2))) (f403_l60 (f397 J) s (knd b) (63 - (h : Int)) (cls b) K r111.2 r69.2.2.1 r69.2.2.2)))
theorem p_loop (J K h : Nat) (b : Bool) (L : List (RT 4)) : f403_l60 (f397 J) s (knd b) (63 - (h : Int)) (cls b) (K + 1) n L ks = (f404v2 (f397 J) K s n (knd b) [] L ks (63 - (h : Int))).bind (contP J K h b s) := by
  rw [f403_l60]
  rfl
theorem cls_ne (b : Bool) (h : c.toNat ≠ (cls b).toNat) : ¬ ((c.toNat : Nat) : Int) = (((cls b).toNat : Nat) : Int) := by omega
theorem after_value (hb : s.length ≤ 20000) (J K h : Nat) (b : Bool) (L : List (RT 4)) (hh : h ≤ 63) (hA : At s n R) (hv : ValAt s J h R n) (hK : R.length + 10 ≤ K) (hL : L.length + R.length ≤ 20000) (hks : ks.length + R.length ≤ 20001) (hLo : LOk h L)
    (ih : ∀ R7 n7 L7, R7.length < R.length → At s n7 R7 → LOk h L7 → L7.length + R7.length ≤ 20000 → LEq s h b R7 (f403_l60 (f397 J) s (knd b) (63 - (h : Int)) (cls b) K n7 L7 ks) (f353_l68 (knd b) s (f296 J) (63 - (h : Int)) [cls b] K n7 0 L7 ks)) :
    LEq s h b R ((f404v2_j94 K (f397 J) s (63 - (h : Int)) L n ks).bind (contP J K h b s)) (f353_j170 (f353_l68 (knd b) s (f296 J) (63 - (h : Int)) [cls b] K) K (f296 J) s (63 - (h : Int)) L [cls b] (knd b) n 0 ks) := by
  have hD : IntKind.i64.wrap ((63 - (h : Int)) + 1) = 64 - (h : Int) := by rw [i64w (by omega)]; omega
  rcases hv with ⟨v, n5, R5, g1, g2, g3, g4, g5⟩ | ⟨e, he, ⟨kd, tx, l, ks1, n1, g1⟩, g2⟩
  · obtain ⟨n6, R6, h1, h2, wp, w, _⟩ := whites hb K g3 (by omega)
    have hp : f404v2_j94 K (f397 J) s (63 - (h : Int)) L n ks = some (0, n5, L ++ [RT.of TJson.ok v], ks) := by
      unfold f404v2_j94
      rw [hD, g1, Option.bind_some]
      show cond (decide ((0 : Int) = 0)) (gd ((L.length + 1) * 2 * 72 ≤ 281474976710656) _) _ = _
      rw [cdp rfl, gdp (by omega)]
    have hL7 : LOk h (L ++ [RT.of TJson.ok v]) := by
      intro x hx
      rcases List.mem_append.1 hx with hx | hx
      · exact hLo x hx
      · exact ⟨v, List.mem_singleton.1 hx, g5⟩
    have hc : contP J K h b s (0, n5, L ++ [RT.of TJson.ok v], ks) = (f401 K s n6 (cls b)).bind fun r97 => cond r97.1 (some (.r ((0 : Int), knd b, L ++ [RT.of TJson.ok v], ks, r97.2))) ((f401 K s r97.2 (44 : UInt8)).bind fun r111 => cond (!r111.1) (some (.r ((4 : Int), (0 : Int), ([] : List (RT 4)), ([] : List (List UInt8)), r111.2))) (f403_l60 (f397 J) s (knd b) (63 - (h : Int)) (cls b) K r111.2 (L ++ [RT.of TJson.ok v]) ks)) := by
      unfold contP
      show cond (decide ((0 : Int) ≠ 0)) _ (Option.bind (f398 K s n5) _) = _
      rw [cdn (by decide), wp, Option.bind_some]
    have hr : f353_j170 (f353_l68 (knd b) s (f296 J) (63 - (h : Int)) [cls b] K) K (f296 J) s (63 - (h : Int)) L [cls b] (knd b) n 0 ks = (f299 K s n6 0 [cls b]).bind fun r194 => cond r194.1 (some (.r (knd b, (L ++ [RT.of TJson.ok v]), ks, r194.2, 0))) ((f299 K s r194.2 0 ([44] : List UInt8)).bind fun r207 => cond (!r207.1) ((f298 K s r207.2 0 (4 : Int)).bind fun r213 => f353_l68 (knd b) s (f296 J) (63 - (h : Int)) [cls b] K r207.2 r213 (L ++ [RT.of TJson.ok v]) ks) (f353_l68 (knd b) s (f296 J) (63 - (h : Int)) [cls b] K r207.2 0 (L ++ [RT.of TJson.ok v]) ks)) := by
      unfold f353_j170
      rw [hD, g2, Option.bind_some]
      show gd ((L.length + 1) * 2 * 72 ≤ 281474976710656) (Option.bind (f297 K s n5 0) _) = _
      rw [gdp (by omega), w 0, Option.bind_some]
    rw [hp, Option.bind_some, hc, hr]
    have no44 : ∀ R8, At s n6 R8 → R8.length ≤ R.length → f401 K s n6 (cls b) = some (false, n6) → f299 K s n6 0 [cls b] = some (false, n6) → f401 K s n6 44 = some (false, n6) → f299 K s n6 0 [44] = some (false, n6) → LEq s h b R ((f401 K s n6 (cls b)).bind fun r97 => cond r97.1 (some (.r ((0 : Int), knd b, L ++ [RT.of TJson.ok v], ks, r97.2))) ((f401 K s r97.2 (44 : UInt8)).bind fun r111 => cond (!r111.1) (some (.r ((4 : Int), (0 : Int), ([] : List (RT 4)), ([] : List (List UInt8)), r111.2))) (f403_l60 (f397 J) s (knd b) (63 - (h : Int)) (cls b) K r111.2 (L ++ [RT.of TJson.ok v]) ks))) ((f299 K s n6 0 [cls b]).bind fun r194 => cond r194.1 (some (.r (knd b, (L ++ [RT.of TJson.ok v]), ks, r194.2, 0))) ((f299 K s r194.2 0 ([44] : List UInt8)).bind fun r207 => cond (!r207.1) ((f298 K s r207.2 0 (4 : Int)).bind fun r213 => f353_l68 (knd b) s (f296 J) (63 - (h : Int)) [cls b] K r207.2 r213 (L ++ [RT.of TJson.ok v]) ks) (f353_l68 (knd b) s (f296 J) (63 - (h : Int)) [cls b] K r207.2 0 (L ++ [RT.of TJson.ok v]) ks))) := by
      intro R8 a0 a1 a2 a3 a4 a5
      rw [a2, a3]
      show LEq s h b R (Option.bind (f401 K s n6 44) _) (Option.bind (f299 K s n6 0 [44]) _)
      rw [a4, a5]
      refine .inr ⟨4, by decide, ⟨_, _, _, _, rfl⟩, ?_⟩
      show REnd s R 4 (f353_l68 (knd b) s (f296 J) (63 - (h : Int)) [cls b] K n6 4 _ _)
      rw [loopE _ _ _ _ _ _ _ _ (by omega) (by decide)]
      exact .inr ⟨n6, R8, rfl, a0, a1⟩
    match R6, h1, h2 with
    | [], h1, h2 => exact no44 [] h1 (by simp) (is_end K _ h1) (ris_0 K 0 _ [] h1 hb (by simp)) (is_end K _ h1) (ris_0 K 0 _ [] h1 hb (by simp))
    | a :: t, h1, h2 =>
      rw [List.length_cons] at h2
      by_cases ha : a = cls b
      · subst ha
        rw [is_yes K h1 hb, ris_yes K 0 [cls b] (R := t) h1 hb]
        refine .inl ⟨L ++ [RT.of TJson.ok v], ks, n6 + 1, t, rfl, rfl, h1.next, by omega, hL7, ?_, by omega⟩
        rw [List.length_append, List.length_cons, List.length_nil]; omega
      · have f1 : f401 K s n6 (cls b) = some (false, n6) := is_no K h1 (fun q => ha (UInt8.toNat.inj (by omega)))
        have f2 : f299 K s n6 0 [cls b] = some (false, n6) := ris_1 K 0 _ h1 hb ha
        by_cases ha2 : a = 44
        · subst ha2
          rw [f1, f2]
          show LEq s h b R (Option.bind (f401 K s n6 44) _) (Option.bind (f299 K s n6 0 [44]) _)
          rw [is_yes K h1 hb, ris_yes K 0 [44] (R := t) h1 hb]
          show LEq s h b R (f403_l60 (f397 J) s (knd b) (63 - (h : Int)) (cls b) K (n6 + 1) (L ++ [RT.of TJson.ok v]) ks) (f353_l68 (knd b) s (f296 J) (63 - (h : Int)) [cls b] K (n6 + 1) 0 (L ++ [RT.of TJson.ok v]) ks)
          exact (ih t (n6 + 1) (L ++ [RT.of TJson.ok v]) (by omega) h1.next hL7 (by rw [List.length_append, List.length_cons, List.length_nil]; omega)).mono (by omega)
        · exact no44 (a :: t) h1 (by simp; omega) f1 f2 (is_no K h1 (fun q => ha2 (UInt8.toNat.inj (by omega)))) (ris_1 K 0 _ h1 hb ha2)
  · have hp : f404v2_j94 K (f397 J) s (63 - (h : Int)) L n ks = some (e, n1, L, ks) := by
      unfold f404v2_j94
      rw [hD, g1, Option.bind_some]
      show cond (decide (e = 0)) _ _ = _
      rw [cdn he]
    rw [hp, Option.bind_some]
    refine .inr ⟨e, he, ?_, ?_⟩
    · unfold contP
      show ∃ a b' c d, cond (decide (e ≠ 0)) _ _ = _
      rw [cdp he]
      exact ⟨_, _, _, _, rfl⟩
    · exact j170_err hb (knd b) (f296 J) (63 - (h : Int)) (cls b) K L ks n 0 e [] (by rw [hD]; exact g2) he (by omega) (by omega)
end Go.Proofs.Abs
