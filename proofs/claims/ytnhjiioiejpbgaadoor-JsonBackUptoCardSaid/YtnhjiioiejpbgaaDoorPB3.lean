/- JsonBack: white, words and numbers, whatever stands there. -/
import Derived.Test.YtnhjiioiejpbgaaDoorPB2
set_option linter.unusedSimpArgs false
namespace Go.Proofs.Abs
open Go
set_option linter.unusedVariables false
set_option maxRecDepth 100000
variable {s R : List UInt8} {n : Int} {c : UInt8}
theorem white_tot (hb : s.length ≤ 20000) : ∀ (R : List UInt8) (n : Int) (K : Nat), At s n R → R.length + 1 ≤ K → ∃ (m : Int) (R' : List UInt8), f398 K s n = some m ∧ At s m R' ∧ R'.length ≤ R.length := by
  intro R
  induction R with
  | nil =>
    intro n K h hK
    obtain ⟨K, rfl⟩ : ∃ j, K = j + 1 := ⟨K - 1, by omega⟩
    exact ⟨n, [], white_end K h, h, Nat.le_refl _⟩
  | cons d w ih =>
    intro n K h hK
    rw [List.length_cons] at hK
    obtain ⟨K, rfl⟩ : ∃ j, K = j + 1 := ⟨K - 1, by omega⟩
    have hl := h.len
    rw [List.length_cons] at hl
    obtain ⟨m, R', e1, e2, e3⟩ := ih (n + 1) K h.next (by omega)
    have J : f398_j69 (f398_l4 s K) K n = f398_l4 s K (n + 1) := by unfold f398_j69; rw [i64w (by omega)]
    have go : f398_l4 s (K + 1) n = f398_l4 s K (n + 1) → ∃ (m : Int) (R' : List UInt8), f398 (K + 1) s n = some m ∧ At s m R' ∧ R'.length ≤ (d :: w).length := fun st => by
      refine ⟨m, R', ?_, e2, by rw [List.length_cons]; omega⟩
      unfold f398 at e1 ⊢
      rw [st]
      exact e1
    by_cases h1 : ((d.toNat : Nat) : Int) = 32
    · exact go (by rw [f398_l4, cdp (by omega), gdp (by omega), h.get, J, cdp h1, cdp h1])
    · by_cases h2 : ((d.toNat : Nat) : Int) = 9
      · exact go (by rw [f398_l4, cdp (by omega), gdp (by omega), h.get, J, cdn h1, cdp h2, cdp h2])
      · by_cases h3 : ((d.toNat : Nat) : Int) = 10
        · exact go (by rw [f398_l4, cdp (by omega), gdp (by omega), h.get, J, cdn h1, cdn h2, cdp h3, cdp h3])
        · by_cases h4 : ((d.toNat : Nat) : Int) = 13
          · exact go (by rw [f398_l4, cdp (by omega), gdp (by omega), h.get, J, cdn h1, cdn h2, cdn h3, cdp h4])
          · exact ⟨n, d :: w, white_at K h h1 h2 h3 h4, h, Nat.le_refl _⟩
theorem word_tot (K : Nat) (a : List UInt8) (k : Int) (h : At s n R) (hb : s.length ≤ 20000) (ha : a.length ≤ 100) : f399 K s n a k = some (4, 0, n) ∨ ∃ (m : Int) (R' : List UInt8), f399 K s n a k = some (0, k, m) ∧ At s m R' ∧ R'.length + a.length = R.length := by
  have hl := h.len
  unfold f399
  rw [i64w (n := n + ((a.length : Nat) : Int)) (by omega), i64w (n := ((s.length : Nat) : Int) - n) (by omega)]
  by_cases hs : ((s.length : Nat) : Int) - n < ((a.length : Nat) : Int)
  · rw [cdp hs]
    exact .inl rfl
  · rw [cdn hs, gdp (by omega), h.slk a.length (by omega)]
    by_cases he : R.take a.length ≠ a
    · rw [decide_eq_true he]
      exact .inl rfl
    · rw [decide_eq_false he]
      refine .inr ⟨n + ((a.length : Nat) : Int), R.drop a.length, ?_, ?_, ?_⟩
      · unfold f399_j43
        rw [cond_false, i64w (by omega)]
      · have e : R = a ++ R.drop a.length := by
          have := (List.take_append_drop a.length R).symm
          rwa [Decidable.not_not.1 he] at this
        have h' : At s n (a ++ R.drop a.length) := e ▸ h
        exact h'.skip
      · rw [List.length_drop]
        omega
theorem num0 : NumT [48] := ⟨false, [48], rfl, fun c hc => by rw [List.mem_singleton.1 hc]; unfold isD; decide, ⟨by decide, by decide, by decide⟩, by decide⟩
theorem number_tot (K : Nat) (h : At s n R) (hb : s.length ≤ 20000) (hK : R.length + 5 ≤ K) : ∃ (e k : Int) (t : List UInt8) (m : Int), f405 K s n = some (e, k, t, m) ∧ (e = 0 → k = 4 ∧ NumT t ∧ ∃ R', At s m R' ∧ t.length + R'.length ≤ R.length ∧ R'.length < R.length) := by
  have hl := h.len
  unfold f405
  have main : ∀ (b0 : Bool) (A R1 : List UInt8), R = A ++ R1 → A.length ≤ 1 → At s (n + ((A.length : Nat) : Int)) R1 → ∃ (e k : Int) (t : List UInt8) (m : Int), (f405_l28 s K (n + ((A.length : Nat) : Int))).bind (fun o28 => (match o28 with | .b0 x28_1 => gd (0 ≤ n ∧ n ≤ x28_1 ∧ x28_1 ≤ ((s.length : Nat) : Int)) ((f406 K (sl s n x28_1)).bind fun r101 => cond (!r101) (cond (decide ((sl s n x28_1) ≠ ([45, 48] : List UInt8))) (f405_j116 K x28_1 s n true) (f405_j116 K x28_1 s n (decide ((IntKind.i64.wrap (x28_1 - (n + ((A.length : Nat) : Int)))) > (19 : Int))))) (f405_j116 K x28_1 s n (decide ((IntKind.i64.wrap (x28_1 - (n + ((A.length : Nat) : Int)))) > (19 : Int))))) | _ => none)) = some (e, k, t, m) ∧ (e = 0 → k = 4 ∧ NumT t ∧ ∃ R', At s m R' ∧ t.length + R'.length ≤ R.length ∧ R'.length < R.length) := by
    intro b0 A R1 hR hA h1
    have hl1 := h1.len
    obtain ⟨D, R', e1, e2, e3, e4, _⟩ := span2 (by omega) R1 (n + ((A.length : Nat) : Int)) K h1 (by rw [hR, List.length_append] at hK; omega)
    have hRl : R.length = (A ++ D).length + R'.length := by rw [hR, e1, List.length_append, List.length_append, List.length_append]; omega
    have hAD : (A ++ D).length = A.length + D.length := List.length_append
    have h' : At s n ((A ++ D) ++ R') := by rw [List.append_assoc, ← e1, ← hR]; exact h
    have hs2 := h'.skip
    have em : n + ((A.length : Nat) : Int) + ((D.length : Nat) : Int) = n + (((A ++ D).length : Nat) : Int) := by rw [hAD]; omega
    have hsl : Abs.sl s n (n + (((A ++ D).length : Nat) : Int)) = A ++ D := by
      rw [h'.slk _ (by simp), List.take_left]
    rw [e4, Option.bind_some, em]
    dsimp only
    rw [gdp (by omega), hsl, i64w (by omega)]
    obtain ⟨b, b1, b2⟩ := number_def K (A ++ D) (by omega) (by omega)
    rw [b1, Option.bind_some]
    have fin : ∀ x : Bool, (x = false → A ++ D = [45, 48] ∨ NumT (A ++ D)) → ∃ (e k : Int) (t : List UInt8) (m : Int), f405_j116 K (n + (((A ++ D).length : Nat) : Int)) s n x = some (e, k, t, m) ∧ (e = 0 → k = 4 ∧ NumT t ∧ ∃ R', At s m R' ∧ t.length + R'.length ≤ R.length ∧ R'.length < R.length) := by
      intro x hx
      unfold f405_j116 f405_j136
      cases x with
      | true => exact ⟨_, _, _, _, rfl, fun q => absurd q (by decide)⟩
      | false =>
        rw [cond_false, hsl]
        by_cases h45 : A ++ D = [45, 48]
        · rw [cdp h45]
          refine ⟨_, _, _, _, rfl, fun _ => ⟨rfl, num0, R', hs2, ?_, ?_⟩⟩
          · rw [hRl, h45]; simp only [List.length_cons, List.length_nil]; omega
          · rw [hRl, h45]; simp only [List.length_cons, List.length_nil]; omega
        · rw [cdn h45]
          have hn := (hx rfl).resolve_left h45
          have hpos : 1 ≤ (A ++ D).length := by
            obtain ⟨neg, E, e, _, hg, _⟩ := hn
            have := hg.1
            rw [e, List.length_append]
            omega
          exact ⟨_, _, _, _, rfl, fun _ => ⟨rfl, hn, R', hs2, by omega, by omega⟩⟩
    cases b with
    | true => exact fin _ fun _ => .inr (b2 rfl)
    | false =>
      rw [Bool.not_false, cond_true]
      by_cases h45 : A ++ D ≠ [45, 48]
      · rw [cdp h45]
        exact fin true fun q => by cases q
      · rw [cdn h45]
        exact fin _ fun _ => .inl (Decidable.not_not.1 h45)
  rcases is_tot K 45 h hb with e | ⟨R1, e, h1, l1, eR⟩
  · rw [e, Option.bind_some]
    have e0 : n + ((([] : List UInt8).length : Nat) : Int) = n := by rw [List.length_nil]; omega
    have := main false [] R rfl (by decide) (by rw [e0]; exact h)
    rw [e0] at this
    exact this
  · rw [e, Option.bind_some]
    have := main true [45] R1 (by rw [eR]; rfl) (by decide) h1
    exact this
end Go.Proofs.Abs
