/- Two parsers of json are alike. -/
import Derived.Test.YtnhjiioiejpbgaaDoorPKp7
set_option linter.unusedSimpArgs false
namespace Go.Proofs.Abs
open Go
set_option linter.unusedVariables false
set_option maxRecDepth 100000
variable {s R : List UInt8} {n : Int} {c : UInt8} {ks : List (List UInt8)}
theorem item_err (J K h : Nat) (b : Bool) (e n1 : Int) (L1 : List (RT 4)) (ks1 : List (List UInt8)) (he : e ≠ 0) : (some (e, n1, L1, ks1)).bind (contP J K h b s) = some (.r (e, 0, [], [], n1)) := by
  unfold contP
  show cond (decide (e ≠ 0)) _ _ = _
  rw [cdp he]
theorem loop_eq (hb : s.length ≤ 20000) (J h : Nat) (b : Bool) (hh : h ≤ 63) (M : Nat) (hJ : 2 * M + 20 ≤ J) (IHv : ∀ R n, R.length ≤ M → At s n R → ValAt s J h R n) :
    ∀ (m : Nat) (R : List UInt8) (n : Int) (K : Nat) (L : List (RT 4)) (ks : List (List UInt8)), R.length ≤ m → R.length ≤ M → At s n R → R.length + 20100 ≤ K → L.length + R.length ≤ 20000 → ks.length + R.length ≤ 20001 → LOk h L →
      LEq s h b R (f403_l60 (f397 J) s (knd b) (63 - (h : Int)) (cls b) K n L ks) (f353_l68 (knd b) s (f296 J) (63 - (h : Int)) [cls b] K n 0 L ks) := by
  intro m
  induction m with
  | zero =>
    intro R n K L ks hm hM hA hK hL hks hLo
    have hR0 : R = [] := List.length_eq_zero_iff.1 (by omega)
    obtain ⟨K, rfl⟩ : ∃ j, K = j + 1 := ⟨K - 1, by omega⟩
    subst hR0
    cases b with
    | false =>
      have hp : f404v2 (f397 J) K s n (knd false) [] L ks (63 - (h : Int)) = f404v2_j94 K (f397 J) s (63 - (h : Int)) L n ks := by
        unfold f404v2
        rw [cdn (by decide)]
      have hr : f353_l68 (knd false) s (f296 J) (63 - (h : Int)) [cls false] (K + 1) n 0 L ks = f353_j170 (f353_l68 (knd false) s (f296 J) (63 - (h : Int)) [cls false] K) K (f296 J) s (63 - (h : Int)) L [cls false] (knd false) n 0 ks := by
        rw [f353_l68, cdp rfl, cdn (by decide)]
      rw [p_loop, hp, hr]
      exact after_value hb J K h false L hh hA (IHv [] n (by simp) hA) (by simp; omega) hL hks hLo (fun R7 n7 L7 h7 => by simp at h7)
    | true =>
      obtain ⟨n1, R1, h1, h2, wp, w, _⟩ := whites hb K hA (by simp; omega)
      have hR1 : R1 = [] := List.length_eq_zero_iff.1 (by simpa using h2)
      subst hR1
      have hp : f404v2 (f397 J) K s n (knd true) [] L ks (63 - (h : Int)) = some (4, n1, L, ks) := by
        unfold f404v2
        rw [cdp (by decide), wp, Option.bind_some]
        have : f400 K s n1 = some ([], 4, n1) := by
          unfold f400
          rw [is_end K 34 h1]
          rfl
        rw [this]
        rfl
      rw [p_loop, hp, item_err _ _ _ _ _ _ _ _ (by decide)]
      refine .inr ⟨4, by decide, ⟨_, _, _, _, rfl⟩, .inr ⟨n1, [], ?_, h1, by simp⟩⟩
      rw [f353_l68, cdp rfl, cdp (by decide), w 0, Option.bind_some, ris_0 K 0 34 [] h1 hb (by simp)]
      rfl
  | succ m ih =>
    intro R n K L ks hm hM hA hK hL hks hLo
    obtain ⟨K, rfl⟩ : ∃ j, K = j + 1 := ⟨K - 1, by omega⟩
    cases b with
    | false =>
      have hp : f404v2 (f397 J) K s n (knd false) [] L ks (63 - (h : Int)) = f404v2_j94 K (f397 J) s (63 - (h : Int)) L n ks := by
        unfold f404v2
        rw [cdn (by decide)]
      have hr : f353_l68 (knd false) s (f296 J) (63 - (h : Int)) [cls false] (K + 1) n 0 L ks = f353_j170 (f353_l68 (knd false) s (f296 J) (63 - (h : Int)) [cls false] K) K (f296 J) s (63 - (h : Int)) L [cls false] (knd false) n 0 ks := by
        rw [f353_l68, cdp rfl, cdn (by decide)]
      rw [p_loop, hp, hr]
      exact after_value hb J K h false L hh hA (IHv R n hM hA) (by omega) hL hks hLo (fun R7 n7 L7 h7 hA7 hLo7 hl7 => ih R7 n7 K L7 ks (by omega) (by omega) hA7 (by omega) hl7 (by omega) hLo7)
    | true =>
      obtain ⟨n1, R1, h1, h2, wp, w, _⟩ := whites hb K hA (by omega)
      have p0 : f404v2 (f397 J) K s n (knd true) [] L ks (63 - (h : Int)) = (f400 K s n1).bind fun r24 => cond (decide (r24.2.1 ≠ (0 : Int))) (some (r24.2.1, r24.2.2, L, ks)) ((f239 K ks r24.1).bind fun r53 => cond r53 (some ((7 : Int), r24.2.2, L, ks)) (gd ((ks.length + ([r24.1] : List (List UInt8)).length) * 2 * 16 ≤ 281474976710656) ((f398 K s r24.2.2).bind fun r79 => (f401 K s r79 (58 : UInt8)).bind fun r84 => cond (!r84.1) (some ((4 : Int), r84.2, L, (ks ++ ([r24.1] : List (List UInt8))))) (f404v2_j94 K (f397 J) s (63 - (h : Int)) L r84.2 (ks ++ ([r24.1] : List (List UInt8))))))) := by
        unfold f404v2
        rw [cdp (by decide), wp, Option.bind_some]
      have r0 : f353_l68 (knd true) s (f296 J) (63 - (h : Int)) [cls true] (K + 1) n 0 L ks = (f299 K s n1 0 ([34] : List UInt8)).bind fun r101 => cond (!r101.1) ((f298 K s r101.2 0 (4 : Int)).bind fun r108 => some (.b0 (r101.2, r108))) ((f300 K s r101.2 0).bind fun r115 => cond (decide (r115.2.2 = (0 : Int))) ((f77 K ks r115.1).bind fun r130 => cond r130 ((f298 K s r115.2.1 r115.2.2 (7 : Int)).bind fun r137 => some (.b0 (r115.2.1, r137))) (f353_j140 (f353_l68 (knd true) s (f296 J) (63 - (h : Int)) [cls true] K) K ks r115 s (f296 J) (63 - (h : Int)) L [cls true] (knd true))) (f353_j140 (f353_l68 (knd true) s (f296 J) (63 - (h : Int)) [cls true] K) K ks r115 s (f296 J) (63 - (h : Int)) L [cls true] (knd true))) := by
        rw [f353_l68, cdp rfl, cdp (by decide), w 0, Option.bind_some]
      have noq : f401 K s n1 34 = some (false, n1) → f299 K s n1 0 [34] = some (false, n1) → LEq s h true R (f403_l60 (f397 J) s (knd true) (63 - (h : Int)) (cls true) (K + 1) n L ks) (f353_l68 (knd true) s (f296 J) (63 - (h : Int)) [cls true] (K + 1) n 0 L ks) := by
        intro a1 a2
        have : f400 K s n1 = some ([], 4, n1) := by
          unfold f400
          rw [a1]
          rfl
        have hp : f404v2 (f397 J) K s n (knd true) [] L ks (63 - (h : Int)) = some (4, n1, L, ks) := by rw [p0, this]; rfl
        rw [p_loop, hp, item_err _ _ _ _ _ _ _ _ (by decide)]
        refine .inr ⟨4, by decide, ⟨_, _, _, _, rfl⟩, .inr ⟨n1, R1, ?_, h1, h2⟩⟩
        rw [r0, a2]
        rfl
      match R1, h1, h2 with
      | [], h1, h2 => exact noq (is_end K 34 h1) (ris_0 K 0 34 [] h1 hb (by simp))
      | a :: t, h1, h2 =>
        rw [List.length_cons] at h2
        by_cases ha : a = 34
        · subst ha
          have rq := ris_yes K 0 [34] (R := t) h1 hb
          have r1 : f353_l68 (knd true) s (f296 J) (63 - (h : Int)) [cls true] (K + 1) n 0 L ks = (f300 K s (n1 + 1) 0).bind fun r115 => cond (decide (r115.2.2 = (0 : Int))) ((f77 K ks r115.1).bind fun r130 => cond r130 ((f298 K s r115.2.1 r115.2.2 (7 : Int)).bind fun r137 => some (.b0 (r115.2.1, r137))) (f353_j140 (f353_l68 (knd true) s (f296 J) (63 - (h : Int)) [cls true] K) K ks r115 s (f296 J) (63 - (h : Int)) L [cls true] (knd true))) (f353_j140 (f353_l68 (knd true) s (f296 J) (63 - (h : Int)) [cls true] K) K ks r115 s (f296 J) (63 - (h : Int)) L [cls true] (knd true)) := by
            rw [r0, rq]
            rfl
          rcases texts hb K h1 (by omega) with ⟨q, n2, R2, g1, g2, g3, g4⟩ | ⟨⟨q, n2, g1⟩, n3, R3, g2, g3, g4⟩
          · by_cases hin : q ∈ ks
            · have hp : f404v2 (f397 J) K s n (knd true) [] L ks (63 - (h : Int)) = some (7, n2, L, ks) := by
                rw [p0, g1, Option.bind_some]
                show cond (decide ((0 : Int) ≠ 0)) _ (Option.bind (f239 K ks q) _) = _
                rw [cdn (by decide), has_yes K ks q (by omega) (by omega) hin]
                rfl
              rw [p_loop, hp, item_err _ _ _ _ _ _ _ _ (by decide)]
              refine .inr ⟨7, by decide, ⟨_, _, _, _, rfl⟩, .inr ⟨n2, R2, ?_, g3, by omega⟩⟩
              rw [r1, g2, Option.bind_some]
              show cond (decide ((0 : Int) = 0)) (Option.bind (f77 K ks q) _) _ = _
              rw [cdp rfl, has_at K ks q (by omega) (by omega), decide_eq_true hin]
              rfl
            · obtain ⟨n3, R3, k1, k2, kp, kw, _⟩ := whites hb K g3 (by omega)
              have p1 : f404v2 (f397 J) K s n (knd true) [] L ks (63 - (h : Int)) = (f401 K s n3 (58 : UInt8)).bind fun r84 => cond (!r84.1) (some ((4 : Int), r84.2, L, (ks ++ ([q] : List (List UInt8))))) (f404v2_j94 K (f397 J) s (63 - (h : Int)) L r84.2 (ks ++ ([q] : List (List UInt8)))) := by
                rw [p0, g1, Option.bind_some]
                show cond (decide ((0 : Int) ≠ 0)) _ (Option.bind (f239 K ks q) _) = _
                rw [cdn (by decide), has_no K ks q (by omega) (by omega) hin, Option.bind_some, cond_false]
                show gd ((ks.length + 1) * 2 * 16 ≤ 281474976710656) (Option.bind (f398 K s n2) _) = _
                rw [gdp (by omega), kp, Option.bind_some]
              have r2 : f353_l68 (knd true) s (f296 J) (63 - (h : Int)) [cls true] (K + 1) n 0 L ks = (f299 K s n3 0 ([58] : List UInt8)).bind fun r159 => cond (!r159.1) ((f298 K s r159.2 0 (4 : Int)).bind fun r166 => some (.b0 (r159.2, r166))) (f353_j170 (f353_l68 (knd true) s (f296 J) (63 - (h : Int)) [cls true] K) K (f296 J) s (63 - (h : Int)) L [cls true] (knd true) r159.2 0 (ks ++ ([q] : List (List UInt8)))) := by
                rw [r1, g2, Option.bind_some]
                show cond (decide ((0 : Int) = 0)) (Option.bind (f77 K ks q) _) _ = _
                rw [cdp rfl, has_at K ks q (by omega) (by omega), decide_eq_false hin, Option.bind_some, cond_false]
                unfold f353_j140
                show gd ((ks.length + 1) * 2 * 16 ≤ 281474976710656) (Option.bind (f297 K s n2 0) _) = _
                rw [gdp (by omega), kw 0, Option.bind_some]
              have noc : f401 K s n3 58 = some (false, n3) → f299 K s n3 0 [58] = some (false, n3) → LEq s h true R (f403_l60 (f397 J) s (knd true) (63 - (h : Int)) (cls true) (K + 1) n L ks) (f353_l68 (knd true) s (f296 J) (63 - (h : Int)) [cls true] (K + 1) n 0 L ks) := by
                intro a1 a2
                have hp : f404v2 (f397 J) K s n (knd true) [] L ks (63 - (h : Int)) = some (4, n3, L, ks ++ [q]) := by rw [p1, a1]; rfl
                rw [p_loop, hp, item_err _ _ _ _ _ _ _ _ (by decide)]
                refine .inr ⟨4, by decide, ⟨_, _, _, _, rfl⟩, .inr ⟨n3, R3, ?_, k1, by omega⟩⟩
                rw [r2, a2]
                rfl
              match R3, k1, k2 with
              | [], k1, k2 => exact noc (is_end K 58 k1) (ris_0 K 0 58 [] k1 hb (by simp))
              | a :: t', k1, k2 =>
                rw [List.length_cons] at k2
                by_cases ha : a = 58
                · subst ha
                  have hp : f404v2 (f397 J) K s n (knd true) [] L ks (63 - (h : Int)) = f404v2_j94 K (f397 J) s (63 - (h : Int)) L (n3 + 1) (ks ++ [q]) := by rw [p1, is_yes K k1 hb]; rfl
                  have hr : f353_l68 (knd true) s (f296 J) (63 - (h : Int)) [cls true] (K + 1) n 0 L ks = f353_j170 (f353_l68 (knd true) s (f296 J) (63 - (h : Int)) [cls true] K) K (f296 J) s (63 - (h : Int)) L [cls true] (knd true) (n3 + 1) 0 (ks ++ [q]) := by
                    rw [r2, ris_yes K 0 [58] (R := t') k1 hb]
                    rfl
                  rw [p_loop, hp, hr]
                  exact (after_value hb J K h true L hh k1.next (IHv t' (n3 + 1) (by omega) k1.next) (by omega) (by omega) (by rw [List.length_append, List.length_cons, List.length_nil]; omega) hLo (fun R7 n7 L7 h7 hA7 hLo7 hl7 => ih R7 n7 K L7 (ks ++ [q]) (by omega) (by omega) hA7 (by omega) hl7 (by rw [List.length_append, List.length_cons, List.length_nil]; omega) hLo7)).mono (by omega)
                · exact noc (is_no K k1 (fun z => ha (UInt8.toNat.inj (by omega)))) (ris_1 K 0 58 k1 hb ha)
          · have hp : f404v2 (f397 J) K s n (knd true) [] L ks (63 - (h : Int)) = some (4, n2, L, ks) := by
              rw [p0, g1, Option.bind_some]
              rfl
            rw [p_loop, hp, item_err _ _ _ _ _ _ _ _ (by decide)]
            refine .inr ⟨4, by decide, ⟨_, _, _, _, rfl⟩, ?_⟩
            obtain ⟨n5, R5, k1, k2, _, kw, _⟩ := whites hb K g3 (by omega)
            have e1 : f353_l68 (knd true) s (f296 J) (63 - (h : Int)) [cls true] (K + 1) n 0 L ks = (f299 K s n5 4 ([58] : List UInt8)).bind fun r159 => cond (!r159.1) ((f298 K s r159.2 4 (4 : Int)).bind fun r166 => some (.b0 (r159.2, r166))) (f353_j170 (f353_l68 (knd true) s (f296 J) (63 - (h : Int)) [cls true] K) K (f296 J) s (63 - (h : Int)) L [cls true] (knd true) r159.2 4 (ks ++ ([[]] : List (List UInt8)))) := by
              rw [r1, g2, Option.bind_some]
              show cond (decide ((4 : Int) = 0)) _ (f353_j140 _ _ _ _ _ _ _ _ _ _) = _
              rw [cdn (by decide)]
              unfold f353_j140
              show gd ((ks.length + 1) * 2 * 16 ≤ 281474976710656) (Option.bind (f297 K s n3 4) _) = _
              rw [gdp (by omega), kw 4, Option.bind_some]
            rw [e1]
            rcases ris_gen K 4 [58] k1 hb (by simp) with ⟨R', q1, q2, q3⟩ | ⟨q2, _⟩
            · rw [q2, Option.bind_some]
              show REnd s R 4 (f353_j170 (f353_l68 (knd true) s (f296 J) (63 - (h : Int)) [cls true] K) K (f296 J) s (63 - (h : Int)) L [cls true] (knd true) (n5 + (([(58 : UInt8)].length : Nat) : Int)) 4 (ks ++ [[]]))
              have hl' : R'.length ≤ R5.length := by rw [q1]; simp
              exact (j170_err hb (knd true) (f296 J) (63 - (h : Int)) (cls true) K L (ks ++ [[]]) _ 4 4 [] (valueE hb J 4 _ q3 (by omega) (by decide)) (by decide) (by omega) (by omega)).mono (by omega)
            · rw [q2]
              exact .inr ⟨n5, R5, rfl, k1, by omega⟩
        · exact noq (is_no K h1 (fun z => ha (UInt8.toNat.inj (by omega)))) (ris_1 K 0 34 h1 hb ha)
end Go.Proofs.Abs
