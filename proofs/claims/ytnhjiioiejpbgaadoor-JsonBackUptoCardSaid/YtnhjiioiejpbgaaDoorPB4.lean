/- JsonBack: whatever the parser tells is right. -/
import Derived.Test.YtnhjiioiejpbgaaDoorPB3
set_option linter.unusedSimpArgs false
namespace Go.Proofs.Abs
open Go
set_option linter.unusedVariables false
set_option maxRecDepth 100000
/-- what is told stands there, right and not big -/
def Told (h : Nat) (s R : List UInt8) (v : TJson) (m : Int) : Prop := JR h v ∧ Sm v ∧ ∃ R', At s m R' ∧ jbk v + 10 * R'.length ≤ 10 * R.length ∧ R'.length < R.length
def ValT (h : Nat) : Prop := ∀ (s R : List UInt8) (n : Int) (K : Nat), At s n R → s.length ≤ 20000 → h + 2 * s.length + 60500 ≤ K → ∃ (e k : Int) (t : List UInt8) (l : List (RT 4)) (ks : List (List UInt8)) (m : Int), f397 K s n (64 - (h : Int)) = some (e, k, t, l, ks, m) ∧ (e = 0 → Told h s R ⟨k, t, l, ks⟩ m)
def ksum (ks : List (List UInt8)) : Nat := (ks.map fun x => x.length + 1).sum
def jsum (us : List TJson) : Nat := (us.map jbk).sum
theorem ksum_app (a b : List (List UInt8)) : ksum (a ++ b) = ksum a + ksum b := by unfold ksum; rw [List.map_append, List.sum_append]
theorem jsum_app (a b : List TJson) : jsum (a ++ b) = jsum a + jsum b := by unfold jsum; rw [List.map_append, List.sum_append]
/-- keys as they may be -/
def KeysOk (q : Bool) (us : List TJson) (ks : List (List UInt8)) : Prop := (q = true → ks.length = us.length ∧ ks.Nodup ∧ ∀ k ∈ ks, Lib.validD k = true) ∧ (q = false → ks = [])
section
variable {s R : List UInt8} {n : Int}
theorem j94_tot (h : Nat) (hv : ValT h) (hh : h + 1 ≤ 64) (J K : Nat) (L : List (RT 4)) (ks : List (List UInt8)) (hA : At s n R) (hb : s.length ≤ 20000) (hJ : h + 2 * s.length + 60500 ≤ J) (hL : L.length ≤ 30000) :
    ∃ (e m : Int) (l : List (RT 4)), f404v2_j94 K (f397 J) s (64 - ((h + 1 : Nat) : Int)) L n ks = some (e, m, l, ks) ∧ (e = 0 → ∃ u, l = L ++ [RT.of TJson.ok u] ∧ Told h s R u m) := by
  obtain ⟨e, k, t, l, kk, m, e1, e2⟩ := hv s R n J hA hb hJ
  unfold f404v2_j94
  rw [i64w (by omega), show (64 - ((h + 1 : Nat) : Int)) + 1 = 64 - (h : Int) by omega, e1, Option.bind_some]
  dsimp only
  by_cases e0 : e = 0
  · rw [cdp e0, gdp (by omega)]
    exact ⟨e, m, _, rfl, fun q => ⟨_, rfl, e2 q⟩⟩
  · rw [cdn e0]
    exact ⟨e, m, L, rfl, fun q => absurd q e0⟩
theorem item_tot (h : Nat) (hv : ValT h) (hh : h + 1 ≤ 64) (q : Bool) (J K : Nat) (L : List (RT 4)) (ks : List (List UInt8)) (hA : At s n R) (hb : s.length ≤ 20000) (hJ : h + 2 * s.length + 60500 ≤ J) (hK : s.length + 30100 ≤ K) (hL : L.length ≤ 30000) (hks : ks.length ≤ 30000) :
    ∃ (e m : Int) (l : List (RT 4)) (ks' : List (List UInt8)), f404v2 (f397 J) K s n (cond q 7 6) [] L ks (64 - ((h + 1 : Nat) : Int)) = some (e, m, l, ks') ∧ (e = 0 → ∃ (u : TJson) (kk : List (List UInt8)), l = L ++ [RT.of TJson.ok u] ∧ ks' = ks ++ kk ∧ JR h u ∧ Sm u ∧ (q = true → ∃ k, kk = [k] ∧ k ∉ ks ∧ Lib.validD k = true) ∧ (q = false → kk = []) ∧ ∃ R', At s m R' ∧ jbk u + ksum kk + 10 * R'.length ≤ 10 * R.length ∧ R'.length < R.length) := by
  have hl := hA.len
  unfold f404v2
  cases q with
  | false =>
    rw [cdn (by decide)]
    obtain ⟨e, m, l, e1, e2⟩ := j94_tot h hv hh J K L ks hA hb hJ hL
    refine ⟨e, m, l, ks, e1, fun q => ?_⟩
    obtain ⟨u, q1, q2, q3, R', q4, q5, q6⟩ := e2 q
    exact ⟨u, [], q1, by rw [List.append_nil], q2, q3, (fun q => by cases q), fun _ => rfl, R', q4, by show jbk u + 0 + _ ≤ _; omega, q6⟩
  | true =>
    rw [cdp (show cond true (7 : Int) 6 = 7 from rfl)]
    obtain ⟨m1, R1, a1, a2, a3⟩ := white_tot hb R n K hA (by omega)
    rw [a1, Option.bind_some]
    obtain ⟨k, e, m2, b1, b2⟩ := text_tot K a2 hb (by omega)
    rw [b1, Option.bind_some]
    dsimp only
    by_cases e0 : e = 0
    · obtain ⟨b3, R2, b4, b5⟩ := b2 e0
      rw [cdn (fun q => q e0)]
      by_cases hin : k ∈ ks
      · rw [has_yes K ks k (by omega) (by omega) hin, Option.bind_some, cond_true]
        exact ⟨_, _, _, _, rfl, fun q => absurd q (by decide)⟩
      · rw [has_no K ks k (by omega) (by omega) hin, Option.bind_some, cond_false, List.length_cons, List.length_nil, gdp (by omega)]
        obtain ⟨m3, R3, c1, c2, c3⟩ := white_tot hb R2 m2 K b4 (by omega)
        rw [c1, Option.bind_some]
        rcases is_tot K 58 c2 hb with d | ⟨R4, d, d1, d2, _⟩
        · rw [d, Option.bind_some]
          exact ⟨_, _, _, _, rfl, fun q => absurd q (by decide)⟩
        · rw [d, Option.bind_some]
          dsimp only
          rw [Bool.not_true, cond_false]
          obtain ⟨e', m, l, f1, f2⟩ := j94_tot h hv hh J K L (ks ++ [k]) d1 hb hJ hL
          refine ⟨e', m, l, ks ++ [k], f1, fun q => ?_⟩
          obtain ⟨u, q1, q2, q3, R', q4, q5, q6⟩ := f2 q
          have ek : ksum [k] = k.length + 1 := rfl
          exact ⟨u, [k], q1, rfl, q2, q3, (fun _ => ⟨k, rfl, hin, b3⟩), (fun q => by cases q), R', q4, by omega, by omega⟩
    · rw [cdp e0]
      exact ⟨_, _, _, _, rfl, fun q => absurd q e0⟩
theorem items_tot (h : Nat) (hv : ValT h) (hh : h + 1 ≤ 64) (q : Bool) (s : List UInt8) (hb : s.length ≤ 20000) (J : Nat) (hJ : h + 2 * s.length + 60500 ≤ J) :
    ∀ (N : Nat) (R : List UInt8) (n : Int) (K : Nat) (us : List TJson) (ks : List (List UInt8)), R.length ≤ N → At s n R → N + s.length + 30101 ≤ K → us.length + R.length ≤ s.length → KeysOk q us ks → (∀ u ∈ us, JR h u ∧ Sm u) →
      ∃ (e k : Int) (l : List (RT 4)) (ks' : List (List UInt8)) (m : Int), f403_l60 (f397 J) s (cond q 7 6) (64 - ((h + 1 : Nat) : Int)) (cond q 125 93) K n (us.map (RT.of TJson.ok)) ks = some (.r (e, k, l, ks', m)) ∧ (e = 0 → k = cond q 7 6 ∧ ∃ us' : List TJson, l = us'.map (RT.of TJson.ok) ∧ KeysOk q us' ks' ∧ (∀ u ∈ us', JR h u ∧ Sm u) ∧ us'.length ≤ s.length ∧ ∃ R', At s m R' ∧ R'.length < R.length ∧ jsum us' + ksum ks' + 10 * R'.length + 10 ≤ jsum us + ksum ks + 10 * R.length) := by
  intro N
  induction N with
  | zero =>
    intro R n K us ks hN hA hK hus hko hu
    obtain ⟨K, rfl⟩ : ∃ j, K = j + 1 := ⟨K - 1, by omega⟩
    have hkl : ks.length ≤ us.length := by
      cases q with
      | true => exact Nat.le_of_eq (hko.1 rfl).1
      | false => rw [hko.2 rfl]; exact Nat.zero_le _
    obtain ⟨e, m, l, ks', e1, e2⟩ := item_tot h hv hh q J K (us.map (RT.of TJson.ok)) ks hA hb hJ (by omega) (by rw [List.length_map]; omega) (by omega)
    rw [f403_l60, e1, Option.bind_some]
    dsimp only
    by_cases e0 : e = 0
    · obtain ⟨u, kk, _, _, _, _, _, _, R', _, _, q6⟩ := e2 e0
      omega
    · rw [cdp e0]
      exact ⟨_, _, _, _, _, rfl, fun q => absurd q e0⟩
  | succ N ih =>
    intro R n K us ks hN hA hK hus hko hu
    obtain ⟨K, rfl⟩ : ∃ j, K = j + 1 := ⟨K - 1, by omega⟩
    have hl := hA.len
    have hkl : ks.length ≤ us.length := by
      cases q with
      | true => exact Nat.le_of_eq (hko.1 rfl).1
      | false => rw [hko.2 rfl]; exact Nat.zero_le _
    obtain ⟨e, m, l, ks', e1, e2⟩ := item_tot h hv hh q J K (us.map (RT.of TJson.ok)) ks hA hb hJ (by omega) (by rw [List.length_map]; omega) (by omega)
    rw [f403_l60, e1, Option.bind_some]
    dsimp only
    by_cases e0 : e = 0
    · obtain ⟨u, kk, q1, q2, q3, q4, q5, q5', R1, q7, q8, q9⟩ := e2 e0
      have el : l = (us ++ [u]).map (RT.of TJson.ok) := by rw [q1, List.map_append]; rfl
      subst el
      subst q2
      have hu' : ∀ w ∈ us ++ [u], JR h w ∧ Sm w := fun w hw => by
        rcases List.mem_append.1 hw with hw | hw
        · exact hu w hw
        · rw [List.mem_singleton.1 hw]; exact ⟨q3, q4⟩
      have hko' : KeysOk q (us ++ [u]) (ks ++ kk) := by
        refine ⟨fun hq => ?_, fun hq => ?_⟩
        · obtain ⟨k, rfl, k1, k2⟩ := q5 hq
          obtain ⟨a1, a2, a3⟩ := hko.1 hq
          refine ⟨by rw [List.length_append, List.length_append, a1]; rfl, List.nodup_append.2 ⟨a2, by simp, fun a ha b hb' hab => ?_⟩, fun x hx => ?_⟩
          · rw [List.mem_singleton.1 hb'] at hab
            rw [hab] at ha
            exact k1 ha
          · rcases List.mem_append.1 hx with hx | hx
            · exact a3 x hx
            · rw [List.mem_singleton.1 hx]; exact k2
        · rw [q5' hq, hko.2 hq]; rfl
      have eu : jsum (us ++ [u]) = jsum us + jbk u := by rw [jsum_app]; rfl
      have ek := ksum_app ks kk
      have elu : (us ++ [u]).length = us.length + 1 := by rw [List.length_append]; rfl
      rw [cdn (fun q => q e0)]
      obtain ⟨m1, R2, a1, a2, a3⟩ := white_tot hb R1 m K q7 (by omega)
      rw [a1, Option.bind_some]
      rcases is_tot K (cond q 125 93) a2 hb with d | ⟨R3, d, d1, d2, _⟩
      · rw [d, Option.bind_some]
        dsimp only
        rw [cond_false]
        rcases is_tot K 44 a2 hb with d | ⟨R3, d, d1, d2, _⟩
        · rw [d, Option.bind_some]
          exact ⟨_, _, _, _, _, rfl, fun q => absurd q (by decide)⟩
        · rw [d, Option.bind_some]
          dsimp only
          rw [Bool.not_true, cond_false]
          obtain ⟨e', k', l', ks', m', f1, f2⟩ := ih R3 (m1 + 1) K (us ++ [u]) (ks ++ kk) (by omega) d1 (by omega) (by omega) hko' hu'
          refine ⟨e', k', l', ks', m', f1, fun hq => ?_⟩
          obtain ⟨g1, us', g2, g3, g4, g5, R', g6, g7, g8⟩ := f2 hq
          exact ⟨g1, us', g2, g3, g4, g5, R', g6, by omega, by omega⟩
      · rw [d, Option.bind_some]
        refine ⟨0, cond q 7 6, _, _, _, rfl, fun _ => ⟨rfl, us ++ [u], rfl, hko', hu', by omega, R3, d1, by omega, by omega⟩⟩
    · rw [cdp e0]
      exact ⟨_, _, _, _, _, rfl, fun q => absurd q e0⟩
theorem many_tot (h : Nat) (hv : ValT h) (hh : h + 1 ≤ 64) (q : Bool) (c : UInt8) (K : Nat) (hA : At s n (c :: R)) (hb : s.length ≤ 20000) (hK : h + 2 * s.length + 60500 ≤ K) :
    ∃ (e k : Int) (l : List (RT 4)) (ks : List (List UInt8)) (m : Int), f403 (f397 K) K s n (cond q 7 6) (cond q 125 93) (64 - ((h + 1 : Nat) : Int)) = some (e, k, l, ks, m) ∧ (e = 0 → Told (h + 1) s (c :: R) ⟨k, [], l, ks⟩ m) := by
  have hl := hA.len
  rw [List.length_cons] at hl
  unfold f403
  rw [cdn (by omega), i64w (by omega)]
  have fin : ∀ (us : List TJson) (ks : List (List UInt8)) (R' : List UInt8) (m : Int), KeysOk q us ks → (∀ u ∈ us, JR h u ∧ Sm u) → us.length ≤ s.length → At s m R' → R'.length ≤ R.length → jsum us + ksum ks + 10 * R'.length ≤ 10 * R.length → Told (h + 1) s (c :: R) ⟨cond q 7 6, [], us.map (RT.of TJson.ok), ks⟩ m := by
    intro us ks R' m ko hu hul hR hRl hs
    have hkl : ks.length ≤ us.length := by
      cases q with
      | true => exact Nat.le_of_eq (ko.1 rfl).1
      | false => rw [ko.2 rfl]; exact Nat.zero_le _
    refine ⟨?_, .mk _ us rfl (by simp) (by show ks.length ≤ _; omega) (fun u h => (hu u h).2), R', hR, ?_, by rw [List.length_cons]; omega⟩
    · cases q with
      | true => exact .obj h us ks (ko.1 rfl).1 (ko.1 rfl).2.1 (ko.1 rfl).2.2 (fun u h => (hu u h).1)
      | false => rw [ko.2 rfl]; exact .arr h us (fun u h => (hu u h).1)
    · rw [jbk_eq _ us rfl, List.length_cons]
      show 5 + 0 + jsum us + ksum ks + _ ≤ _
      omega
  obtain ⟨m1, R1, a1, a2, a3⟩ := white_tot hb R (n + 1) K hA.next (by omega)
  rw [a1, Option.bind_some]
  rcases is_tot K (cond q 125 93) a2 hb with d | ⟨R3, d, d1, d2, _⟩
  · rw [d, Option.bind_some]
    dsimp only
    rw [cond_false]
    obtain ⟨e, k, l, ks, m, f1, f2⟩ := items_tot h hv hh q s hb K hK R1.length R1 m1 K [] [] (Nat.le_refl _) a2 (by omega) (by rw [List.length_nil]; omega) ⟨fun _ => ⟨rfl, by simp, by simp⟩, fun _ => rfl⟩ (by simp)
    have f1 : f403_l60 (f397 K) s (cond q 7 6) (64 - ((h + 1 : Nat) : Int)) (cond q 125 93) K m1 [] [] = some (.r (e, k, l, ks, m)) := f1
    rw [f1, Option.bind_some]
    refine ⟨e, k, l, ks, m, rfl, fun hq => ?_⟩
    obtain ⟨g1, us', g2, g3, g4, g5, R', g6, g7, g8⟩ := f2 hq
    subst g1
    subst g2
    have e1 : jsum [] = 0 := rfl
    have e2 : ksum [] = 0 := rfl
    exact fin us' ks R' m g3 g4 g5 g6 (by omega) (by omega)
  · rw [d, Option.bind_some]
    refine ⟨0, cond q 7 6, [], [], m1 + 1, rfl, fun _ => fin [] [] R3 (m1 + 1) ⟨fun _ => ⟨rfl, by simp, by simp⟩, fun _ => rfl⟩ (by simp) (by simp) d1 (by omega) ?_⟩
    show 0 + 0 + _ ≤ _
    omega
theorem many_no (q : Bool) (K : Nat) : f403 (f397 K) K s n (cond q 7 6) (cond q 125 93) 64 = some (5, 0, [], [], n) := by
  unfold f403
  rw [cdp (by decide)]
end
theorem val_tot (h : Nat) (hrec : ∀ h', h = h' + 1 → ValT h') (hh : h ≤ 64) : ValT h := by
  intro s R n K hA hb hK
  obtain ⟨K, rfl⟩ : ∃ j, K = j + 1 := ⟨K - 1, by omega⟩
  have hl := hA.len
  rw [f397]
  unfold f397_s
  obtain ⟨m1, R1, a1, a2, a3⟩ := white_tot hb R n K hA (by omega)
  have hl1 := a2.len
  rw [a1, Option.bind_some]
  have bad : ∀ (P : Int → TJson → Int → Prop) (m : Int), ∃ (e k : Int) (t : List UInt8) (l : List (RT 4)) (ks : List (List UInt8)) (m' : Int), (some ((4 : Int), (0 : Int), ([] : List UInt8), ([] : List (RT 4)), ([] : List (List UInt8)), m) : Option (Int × Int × (List UInt8) × (List (RT 4)) × (List (List UInt8)) × Int)) = some (e, k, t, l, ks, m') ∧ (e = 0 → P e ⟨k, t, l, ks⟩ m') := fun P m => ⟨_, _, _, _, _, _, rfl, fun q => absurd q (by decide)⟩
  cases R1 with
  | nil =>
    rw [List.length_nil] at hl1
    rw [cdp (by omega)]
    exact ⟨_, _, _, _, _, _, rfl, fun q => absurd q (by decide)⟩
  | cons c R1 =>
    rw [List.length_cons] at hl1 a3
    rw [cdn (by omega), gdp (by omega), a2.get]
    have word : ∀ (w : List UInt8) (k : Int), w.length ≤ 100 → 1 ≤ w.length → (k = 1 ∨ k = 2 ∨ k = 3) → ∃ (e k' : Int) (t : List UInt8) (l : List (RT 4)) (ks : List (List UInt8)) (m' : Int), ((f399 K s m1 w k).bind fun r58 => some (r58.1, r58.2.1, ([] : List UInt8), ([] : List (RT 4)), ([] : List (List UInt8)), r58.2.2)) = some (e, k', t, l, ks, m') ∧ (e = 0 → Told h s R ⟨k', t, l, ks⟩ m') := by
      intro w k hw hw1 hk
      rcases word_tot K w k a2 hb hw with e | ⟨m, R', e, b1, b2⟩
      · rw [e, Option.bind_some]
        dsimp only
        exact ⟨_, _, _, _, _, _, rfl, fun q => absurd q (by decide)⟩
      · rw [e, Option.bind_some]
        dsimp only
        rw [List.length_cons] at b2
        have hj : jbk ⟨k, [], [], []⟩ = 5 := by rw [jbk_eq _ [] rfl]; rfl
        exact ⟨_, _, _, _, _, _, rfl, fun _ => ⟨.lit h k hk, .mk _ [] rfl (by simp) (by simp) (by simp), R', b1, by omega, by omega⟩⟩
    have many : ∀ q : Bool, ∃ (e k' : Int) (t : List UInt8) (l : List (RT 4)) (ks : List (List UInt8)) (m' : Int), ((f403 (f397 K) K s m1 (cond q 7 6) (cond q 125 93) (64 - (h : Int))).bind fun r147 => some (r147.1, r147.2.1, ([] : List UInt8), r147.2.2.1, r147.2.2.2.1, r147.2.2.2.2)) = some (e, k', t, l, ks, m') ∧ (e = 0 → Told h s R ⟨k', t, l, ks⟩ m') := by
      intro q
      cases h with
      | zero =>
        have := many_no (s := s) (n := m1) q K
        have e0 : (64 - ((0 : Nat) : Int)) = 64 := rfl
        rw [e0, this, Option.bind_some]
        dsimp only
        exact ⟨_, _, _, _, _, _, rfl, fun q => absurd q (by decide)⟩
      | succ h =>
        obtain ⟨e, k, l, ks, m, e1, e2⟩ := many_tot h (hrec h rfl) hh q c K a2 hb (by omega)
        rw [e1, Option.bind_some]
        refine ⟨e, k, [], l, ks, m, rfl, fun q => ?_⟩
        obtain ⟨q1, q2, R', q3, q4, q5⟩ := e2 q
        rw [List.length_cons] at q4 q5
        exact ⟨q1, q2, R', q3, by omega, by omega⟩
    by_cases c1 : ((c.toNat : Nat) : Int) = 110
    · rw [cdp c1]
      exact word [110, 117, 108, 108] 1 (by decide) (by decide) (.inl rfl)
    rw [cdn c1]
    by_cases c2 : ((c.toNat : Nat) : Int) = 102
    · rw [cdp c2]
      exact word [102, 97, 108, 115, 101] 2 (by decide) (by decide) (.inr (.inl rfl))
    rw [cdn c2]
    by_cases c3 : ((c.toNat : Nat) : Int) = 116
    · rw [cdp c3]
      exact word [116, 114, 117, 101] 3 (by decide) (by decide) (.inr (.inr rfl))
    rw [cdn c3]
    by_cases c4 : ((c.toNat : Nat) : Int) = 34
    · rw [cdp c4]
      obtain ⟨t, e, m, b1, b2⟩ := text_tot K a2 hb (by omega)
      rw [b1, Option.bind_some]
      dsimp only
      by_cases e0 : e = 0
      · rw [cdn (fun q => q e0)]
        obtain ⟨b3, R', b4, b5⟩ := b2 e0
        rw [List.length_cons] at b5
        have hj : jbk ⟨5, t, [], []⟩ = 5 + t.length := by rw [jbk_eq _ [] rfl]; rfl
        exact ⟨_, _, _, _, _, _, rfl, fun _ => ⟨.str h t b3, .mk _ [] rfl (by show t.length ≤ _; omega) (by simp) (by simp), R', b4, by omega, by omega⟩⟩
      · rw [cdp e0]
        exact ⟨_, _, _, _, _, _, rfl, fun q => absurd q e0⟩
    rw [cdn c4]
    by_cases c5 : ((c.toNat : Nat) : Int) = 91
    · rw [cdp c5]
      exact many false
    rw [cdn c5]
    by_cases c6 : ((c.toNat : Nat) : Int) = 123
    · rw [cdp c6]
      exact many true
    rw [cdn c6]
    obtain ⟨e, k, t, m, b1, b2⟩ := number_tot K a2 hb (by rw [List.length_cons]; omega)
    rw [b1, Option.bind_some]
    refine ⟨e, k, t, [], [], m, rfl, fun q => ?_⟩
    obtain ⟨rfl, b3, R', b4, b5, b6⟩ := b2 q
    rw [List.length_cons] at b5 b6
    have hj : jbk ⟨4, t, [], []⟩ = 5 + t.length := by rw [jbk_eq _ [] rfl]; rfl
    exact ⟨.num h t b3, .mk _ [] rfl (by show t.length ≤ _; omega) (by simp) (by simp), R', b4, by omega, by omega⟩
theorem val_all : ∀ h : Nat, h ≤ 64 → ValT h
  | 0, hh => val_tot 0 (fun h' e => by omega) hh
  | h + 1, hh => val_tot (h + 1) (fun h' e => by cases e; exact val_all h (by omega)) hh
/-- what is parsed is right -/
theorem parse_tot (t : List UInt8) (K : Nat) (hK : 200000 ≤ K) : ∃ (e k : Int) (x : List UInt8) (l : List (RT 4)) (ks : List (List UInt8)), f396 K t = some (e, k, x, l, ks) ∧ (e = 0 → JR 64 ⟨k, x, l, ks⟩ ∧ Sm ⟨k, x, l, ks⟩ ∧ jbk ⟨k, x, l, ks⟩ ≤ 200000) := by
  unfold f396
  by_cases h2 : ((t.length : Nat) : Int) > 20000
  · rw [cdp h2]
    exact ⟨_, _, _, _, _, rfl, fun q => absurd q (by decide)⟩
  · rw [cdn h2]
    obtain ⟨e, k, x, l, ks, m, e1, e2⟩ := val_all 64 (Nat.le_refl _) t t 0 K (At.start t) (by omega) (by omega)
    have e1 : f397 K t 0 0 = some (e, k, x, l, ks, m) := e1
    rw [e1, Option.bind_some]
    dsimp only
    by_cases e0 : e = 0
    · obtain ⟨q1, q2, R', q3, q4, q5⟩ := e2 e0
      obtain ⟨m1, R1, a1, a2, a3⟩ := white_tot (by omega) R' m K q3 (by omega)
      rw [cdn (fun q => q e0), a1, Option.bind_some]
      by_cases hm : m1 < ((t.length : Nat) : Int)
      · rw [cdp hm]
        exact ⟨_, _, _, _, _, rfl, fun q => absurd q (by decide)⟩
      · rw [cdn hm]
        exact ⟨_, _, _, _, _, rfl, fun _ => ⟨q1, q2, by omega⟩⟩
    · rw [cdp e0]
      exact ⟨_, _, _, _, _, rfl, fun q => absurd q e0⟩
end Go.Proofs.Abs
