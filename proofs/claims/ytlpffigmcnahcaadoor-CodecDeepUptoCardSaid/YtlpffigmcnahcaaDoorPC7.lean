/- CodecDeep: arrays within arrays, as deep as may be, and deeper. -/
import Derived.Test.YtlpffigmcnahcaaDoorPC4
set_option linter.unusedSimpArgs false
namespace Go.Proofs.Abs
open Go
set_option linter.unusedVariables false
set_option maxRecDepth 100000
def nZ : TNode := TNode.mk 11 [] [] [] [] false [] 0 [] 0
def sZ : TSchema := TSchema.mk [nZ]
def dL : Nat → List (RT 5)
  | 0 => []
  | m + 1 => [RT.of TValue.ok ⟨11, 0, [], dL m, []⟩]
def dV (m : Nat) : TValue := ⟨11, 0, [], dL m, []⟩
def dB : Nat → List UInt8
  | 0 => [0]
  | m + 1 => [2] ++ dB m ++ [0]
theorem dB_len : ∀ m, (dB m).length = 2 * m + 1
  | 0 => rfl
  | m + 1 => by
    have := dB_len m
    simp only [dB, List.length_append, List.length_cons, List.length_nil]
    omega
theorem dL_len : ∀ m, (dL m).length ≤ 1
  | 0 => Nat.zero_le _
  | m + 1 => Nat.le_refl _
theorem rd1 {α : Type} [Inhabited α] (x : α) : rd [x] 0 = x := rfl
/-! ### it fits -/
theorem fits_one (K : Nat) (rc : TSchema → Int → TValue → Option Bool) (v : TValue) (h : rc sZ 0 v = some true) : f467 rc (K + 2) sZ nZ ⟨11, 0, [], [RT.of TValue.ok v], []⟩ = some true := by
  unfold f467
  rw [f467_l16]
  show Option.bind (cond (decide ((0 : Int) < 1)) (gd ((0 : Int) ≤ 0 ∧ (0 : Int) < 1) (Option.bind (TValue.dec (rtE (RT.of TValue.ok v))) _)) _) _ = _
  rw [cdp (by decide), gdp (by decide), TValue.dec_of, Option.bind_some]
  show Option.bind (cond (decide ((11 : Int) = 9)) _ (cond (decide ((11 : Int) = 13)) _ (f467_j81 _ (K + 1) rc sZ v 0 0))) _ = _
  rw [cdn (by decide), cdn (by decide)]
  unfold f467_j81
  show Option.bind (Option.bind (rc sZ 0 v) _) _ = _
  rw [h, Option.bind_some]
  show Option.bind (f467_l16 ⟨11, 0, [], [RT.of TValue.ok v], []⟩ nZ rc sZ (K + 1) (IntKind.i64.wrap (0 + 1))) _ = _
  rw [i64w (by omega), f467_l16]
  show Option.bind (cond (decide ((0 : Int) + 1 < 1)) _ (some (LR2.b0 ()))) _ = _
  rw [cdn (by decide)]
  rfl
theorem fits_step (K : Nat) (x : RT 5) : f461 (K + 1) sZ 0 ⟨11, 0, [], [x], []⟩ = (f467 (f461 K) K sZ nZ ⟨11, 0, [], [x], []⟩).bind fun r241 => some r241 := by kernel_rfl
theorem fits_deep : ∀ (m K : Nat), m + 10 ≤ K → f461 K sZ 0 (dV m) = some true
  | 0, K, h => by
    obtain ⟨K, rfl⟩ : ∃ j, K = j + 10 := ⟨K - 10, by omega⟩
    show f461 (K + 10) sZ 0 ⟨11, 0, [], [], []⟩ = some true
    kernel_rfl
  | m + 1, K, h => by
    obtain ⟨K, rfl⟩ : ∃ j, K = j + 3 := ⟨K - 3, by omega⟩
    have ih := fits_deep m (K + 2) (by omega)
    show f461 (K + 2 + 1) sZ 0 ⟨11, 0, [], [RT.of TValue.ok (dV m)], []⟩ = some true
    rw [fits_step, fits_one K _ _ ih]
    rfl
/-! ### it is walked -/
theorem own_deep : ∀ (m K : Nat), m + 10 ≤ K → f473 K (dV m) = some ([], dL m, [])
  | 0, K, h => by
    obtain ⟨K, rfl⟩ : ∃ j, K = j + 10 := ⟨K - 10, by omega⟩
    show f473 (K + 10) ⟨11, 0, [], [], []⟩ = some ([], [], [])
    kernel_rfl
  | m + 1, K, h => by
    obtain ⟨K, rfl⟩ : ∃ j, K = j + 3 := ⟨K - 3, by omega⟩
    have ih := own_deep m (K + 2) (by omega)
    rw [f473]
    unfold f473_s
    show Option.bind (f87 (K + 2) []) (fun r11 => Option.bind (f442 (K + 2) []) fun r14 => Option.bind (f473_l31 ⟨11, 0, [], [RT.of TValue.ok (dV m)], []⟩ (f473 (K + 2)) (K + 2) [] 0) _) = _
    have h1 : f87 (K + 2) [] = some [] := by unfold f87; rw [gdp (by decide)]
    have h2 : f442 (K + 2) [] = some [] := by unfold f442; rw [gdp (by decide)]
    rw [h1, Option.bind_some, h2, Option.bind_some, f473_l31]
    show Option.bind (cond (decide ((0 : Int) < 1)) (gd ((0 : Int) ≤ 0 ∧ (0 : Int) < 1) (Option.bind (TValue.dec (rtE (RT.of TValue.ok (dV m)))) _)) _) _ = _
    rw [cdp (by decide), gdp (by decide), TValue.dec_of, Option.bind_some]
    show Option.bind (Option.bind (f473 (K + 2) (dV m)) _) _ = _
    rw [ih, Option.bind_some, gdp (by simp)]
    show Option.bind (f473_l31 ⟨11, 0, [], [RT.of TValue.ok (dV m)], []⟩ (f473 (K + 2)) (K + 1) [RT.of TValue.ok (dV m)] (IntKind.i64.wrap (0 + 1))) _ = _
    rw [i64w (by omega), f473_l31]
    show Option.bind (cond (decide ((0 : Int) + 1 < 1)) _ (some (LR2.b0 [RT.of TValue.ok (dV m)]))) _ = _
    rw [cdn (by decide)]
    rfl
theorem walk_top (K m : Nat) (d c : Int) (hK : m + 10 ≤ K) : f472 (K + 1) (dV m) d false c = (b469_18 K false c d (dV m)).bind fun or14 => (match or14 with | .inl r14 => some (.inl (IntKind.i64.wrap (c + (1 : Int)))) | .inr r14 => (f472_l31 (dV m) (f472 K) d false K (0 : Int) (IntKind.i64.wrap (c + (1 : Int)))).bind fun o31 => (match o31 with | .b0 x31_1 => some (.inr x31_1) | .r x => some x | _ => none)) := by
  rw [f472]
  unfold f472_s
  show Option.bind (f473 K (dV m)) _ = _
  rw [own_deep m K hK, Option.bind_some]
  rfl
theorem walk_deep : ∀ (m K : Nat) (d c : Int), 1 ≤ d → d ≤ 65 → 0 ≤ c → c + m ≤ 1000 → m + 20 ≤ K → ∃ z, f472 K (dV m) d false c = some z ∧ (d + m ≤ 64 → z = .inr (c + m + 1)) ∧ (64 < d + m → ∃ x, z = .inl x)
  | m, K, d, c, h1, h2, h3, h4, h5 => by
    obtain ⟨K, rfl⟩ : ∃ j, K = j + 1 := ⟨K - 1, by omega⟩
    rw [walk_top K m d c (by omega)]
    unfold b469_18
    rw [i64w (n := c + 1) (by omega), cdn (by omega)]
    by_cases hd : d > 64
    · rw [cdp hd]
      exact ⟨.inl (c + 1), rfl, fun h => by omega, fun _ => ⟨_, rfl⟩⟩
    · rw [cdn hd, Option.bind_some]
      show ∃ z, Option.bind (f472_l31 (dV m) (f472 K) d false K 0 (c + 1)) _ = some z ∧ _
      obtain ⟨K, rfl⟩ : ∃ j, K = j + 1 := ⟨K - 1, by omega⟩
      rw [f472_l31]
      match m, h4, h5 with
      | 0, h4, h5 =>
        show ∃ z, Option.bind (cond (decide ((0 : Int) < 0)) _ (some (LR2.b0 (c + 1)))) _ = some z ∧ _
        rw [cdn (by decide)]
        exact ⟨.inr (c + 1), rfl, fun _ => by simp, fun h => by simp at h; omega⟩
      | m + 1, h4, h5 =>
        obtain ⟨z, z1, z2, z3⟩ := walk_deep m (K + 1) (d + 1) (c + 1) (by omega) (by omega) (by omega) (by omega) (by omega)
        show ∃ z, Option.bind (cond (decide ((0 : Int) < 1)) (gd ((0 : Int) ≤ 0 ∧ (0 : Int) < 1) (Option.bind (TValue.dec (rtE (RT.of TValue.ok (dV m)))) _)) _) _ = some z ∧ _
        rw [cdp (by decide), gdp (by decide), TValue.dec_of, Option.bind_some, i64w (n := d + 1) (by omega)]
        show ∃ z, Option.bind (Option.bind (f472 (K + 1) (dV m) (d + 1) false (c + 1)) _) _ = some z ∧ _
        rw [z1, Option.bind_some]
        by_cases hl : d + 1 + (m : Int) ≤ 64
        · rw [z2 hl]
          show ∃ z, Option.bind (f472_l31 (dV (m + 1)) (f472 (K + 1)) d false K (IntKind.i64.wrap (0 + 1)) (c + 1 + m + 1)) _ = some z ∧ _
          obtain ⟨K, rfl⟩ : ∃ j, K = j + 1 := ⟨K - 1, by omega⟩
          rw [i64w (by omega), f472_l31]
          show ∃ z, Option.bind (cond (decide ((0 : Int) + 1 < 1)) _ (some (LR2.b0 (c + 1 + m + 1)))) _ = some z ∧ _
          rw [cdn (by decide)]
          refine ⟨.inr (c + 1 + m + 1), rfl, fun _ => ?_, fun h => by omega⟩
          rw [show c + ((m + 1 : Nat) : Int) + 1 = c + 1 + (m : Int) + 1 by omega]
        · obtain ⟨x, hx⟩ := z3 (by omega)
          rw [hx]
          exact ⟨.inl x, rfl, fun h => by omega, fun _ => ⟨x, rfl⟩⟩
/-! ### its bytes -/
theorem bytes_deep : ∀ (m K : Nat) (y : List UInt8), m ≤ 100 → y.length + 4 * m ≤ 2000 → m + 30 ≤ K → f474 K y (dV m) = some (y ++ dB m)
  | 0, K, y, h1, h2, h3 => by
    obtain ⟨K, rfl⟩ : ∃ j, K = j + 2 := ⟨K - 2, by omega⟩
    rw [f474]
    unfold f474_s
    show cond (decide ((11 : Int) = 11)) (f474_j18 (K + 1) (dV 0) y (f474 (K + 1)) true) _ = _
    rw [cdp rfl]
    show f474_j29 (K + 1) (dV 0) y (f474 (K + 1)) true false = _
    show f474_j40 (K + 1) (dV 0) (f474 (K + 1)) true y = _
    unfold f474_j40
    show Option.bind (some []) _ = _
    rw [Option.bind_some, gdp (by simp; omega), List.append_nil, f474_l56]
    show Option.bind (cond (decide ((0 : Int) < 0)) _ (some (LR2.b0 y))) _ = _
    rw [cdn (by decide), Option.bind_some]
    show f474_j108 (K + 1) true y = _
    unfold f474_j108
    rw [cond_true, gdp (by simp; omega)]
    rfl
  | m + 1, K, y, h1, h2, h3 => by
    obtain ⟨K, rfl⟩ : ∃ j, K = j + 3 := ⟨K - 3, by omega⟩
    have ih := bytes_deep m (K + 2) (y ++ [2]) (by omega) (by simp; omega) (by omega)
    have hz : f25 (K + 2) 1 = some [2] := by
      have := zig_code (a := 1) (by omega) (k := K + 2) (by omega)
      rw [this]
      rw [show zg 1 = 2 from rfl, nb_lt (by omega)]
      rfl
    rw [f474]
    unfold f474_s
    show cond (decide ((11 : Int) = 11)) (f474_j18 (K + 2) (dV (m + 1)) y (f474 (K + 2)) true) _ = _
    rw [cdp rfl]
    show f474_j29 (K + 2) (dV (m + 1)) y (f474 (K + 2)) true (decide ((1 : Int) > 0)) = _
    rw [decide_eq_true (by decide)]
    unfold f474_j29
    rw [cond_true]
    show Option.bind (f25 (K + 2) 1) _ = _
    rw [hz, Option.bind_some, gdp (by simp; omega)]
    unfold f474_j40
    show Option.bind (some []) _ = _
    rw [Option.bind_some, gdp (by simp; omega), List.append_nil, f474_l56]
    show Option.bind (cond (decide ((0 : Int) < 1)) (gd ((0 : Int) ≤ 0 ∧ (0 : Int) < 1) (Option.bind (TValue.dec (rtE (RT.of TValue.ok (dV m)))) _)) _) _ = _
    rw [cdp (by decide), gdp (by decide), TValue.dec_of, Option.bind_some]
    show Option.bind (cond (decide ((11 : Int) = 12)) _ (f474_j98 (f474_l56 (dV (m + 1)) (f474 (K + 2)) (K + 1)) (K + 1) (f474 (K + 2)) (dV m) 0 (y ++ [2]))) _ = _
    rw [cdn (by decide)]
    unfold f474_j98
    show Option.bind (Option.bind (f474 (K + 2) (y ++ [2]) (dV m)) _) _ = _
    rw [ih, Option.bind_some, i64w (by omega), f474_l56]
    show Option.bind (cond (decide ((0 : Int) + 1 < 1)) _ (some (LR2.b0 (y ++ [2] ++ dB m)))) _ = _
    rw [cdn (by decide), Option.bind_some]
    show f474_j108 (K + 2) true (y ++ [2] ++ dB m) = _
    have := dB_len m
    unfold f474_j108
    rw [cond_true, gdp (by simp; omega)]
    simp [dB]
end Go.Proofs.Abs
