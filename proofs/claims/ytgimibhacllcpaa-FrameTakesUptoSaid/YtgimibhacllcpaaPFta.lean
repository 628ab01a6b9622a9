/- The law FrameTakes over the Lean functions. -/
import Derived.Test.YtgimibhacllcpaaGLfta
import Derived.Test.YtgimibhacllcpaaPTan
set_option linter.unusedSimpArgs false
namespace Go.Proofs.Abs
open Go
set_option linter.unusedVariables false
set_option maxRecDepth 10000
theorem take_frameR {a : List UInt8} (hn : a.length ≤ 1048576000) {k : Nat} (hk : a.length + 400 < k) : f274 k a = some ((takeF a).1, (takeF a).2.1, (takeF a).2.2.1, (takeF a).2.2.2.length, (takeF a).2.2.2) := by
  simp only [f274, cond_dec]
  unfold takeF
  by_cases c1 : a.length < 16
  · rw [if_pos (by omega), if_pos c1]; rfl
  rw [if_neg (by omega), if_neg c1, gd_pos (by omega)]
  have s1 : sl a 0 4 = a.take 4 := by simp [sl]
  have hl4 : (a.take 4).length = 4 := by simp; omega
  have hv := val4 hl4
  rw [s1, num_take (by omega) (by omega)]
  simp only [Option.bind_some]
  generalize valN 0 (a.take 4) = n at hv
  by_cases c2 : 32768 < n
  · rw [if_pos (by omega), if_pos c2]; rfl
  rw [if_neg (by omega), if_neg c2, i64w (n := ((a.length : Nat) : Int) - 16) (by omega), u64w (n := ((a.length : Nat) : Int) - 16) (by omega)]
  by_cases c3 : a.length - 16 < n
  · rw [if_pos (by omega), if_pos c3]; rfl
  have e1 : IntKind.i64.wrap (n : Int) = (n : Int) := i64w (by omega)
  have e2 : IntKind.i64.wrap ((16 : Int) + (n : Int)) = ((16 + n : Nat) : Int) := by rw [i64w (by omega)]; omega
  rw [if_neg (by omega), if_neg c3]
  simp only [e1, e2]
  have s2 : sl a 8 ((16 + n : Nat) : Int) = (a.take (16 + n)).drop 8 := by simp only [sl, Int.toNat_natCast]; rfl
  have s3 : sl a 4 8 = (a.take 8).drop 4 := by simp [sl]
  have s4 : sl a 8 16 = (a.take 16).drop 8 := by simp [sl]
  have s5 : sl a 16 ((16 + n : Nat) : Int) = (a.take (16 + n)).drop 16 := by simp only [sl, Int.toNat_natCast]; rfl
  have hl8 : ((a.take 8).drop 4).length = 4 := by simp; omega
  have hl16 : ((a.take 16).drop 8).length = 8 := by simp; omega
  have hlc : ((a.take (16 + n)).drop 8).length = 8 + n := by simp; omega
  have hld : ((a.take (16 + n)).drop 16).length = n := by simp; omega
  have hc : addC 0 ((a.take (16 + n)).drop 8) < 4294967296 := addC_lt (by decide)
  rw [gd_pos (by omega), s2, sum_crc (by omega) (by omega)]
  simp only [Option.bind_some]
  rw [gd_pos (by omega), s3, num_take (by omega) (by omega)]
  simp only [Option.bind_some]
  rw [u64w (n := ((addC 0 ((a.take (16 + n)).drop 8) : Nat) : Int)) (by omega)]
  by_cases c4 : addC 0 ((a.take (16 + n)).drop 8) = valN 0 ((a.take 8).drop 4)
  · rw [if_neg (by rw [c4]; simp), if_neg (by rw [c4]; simp), gd_pos (by omega), s4, num_take (by omega) (by omega)]
    simp only [Option.bind_some]
    rw [gd_pos (by omega), s5, f87r, gd_pos (by omega)]
    rfl
  · rw [if_pos (fun h => c4 (Int.ofNat_inj.1 h)), if_pos c4]; rfl
theorem spoil_loop {n : Nat} (hn : n ≤ 1048576000) : ∀ (d j k : Nat) (l : List UInt8), j + d = n → n ≤ l.length → d < k → ∃ r : List UInt8, f45_l5 n k (j : Int) l = some (.b0 r) := by
  intro d
  induction d with
  | zero =>
    intro j k l hj hl hk
    obtain ⟨k, rfl, _⟩ := succ_of_pos (show 0 < k by omega)
    rw [f45_l5, cdn (by omega)]
    exact ⟨_, rfl⟩
  | succ d ih =>
    intro j k l hj hl hk
    obtain ⟨k, rfl, _⟩ := succ_of_pos (show 0 < k by omega)
    rw [f45_l5, cdp (by omega), gdp (by omega), gdp (by omega), gdp (by omega), gdp (by omega), i64w (by omega)]
    exact ih (j + 1) k _ (by omega) (by simp; omega) (by omega)
theorem spoil {l : List UInt8} {n : Nat} (hn : n ≤ 1048576000) (hl : n ≤ l.length) {k : Nat} (hk : n < k) : ∃ r : List UInt8, f45 k l n = some r := by
  obtain ⟨r, h⟩ := spoil_loop hn n 0 k l (by omega) hl hk
  exact ⟨r, by rw [f45, show f45_l5 n k 0 l = _ from h]; rfl⟩
theorem takeF_len {a : List UInt8} : (takeF a).2.2.2.length ≤ a.length := by
  unfold takeF
  by_cases c1 : a.length < 16
  · rw [if_pos c1]; simp
  rw [if_neg c1]
  simp only []
  repeat' split
  all_goals simp
  omega
theorem law_FrameTakes (a0 : (List UInt8)) (w0 : (∀ e0 ∈ a0, True)) (hb : ((a0.map (fun _ => 1)).sum + 1) ≤ 1048576) : ∃ k, f252 k a0 = some true := by
  have hn := len_sum (sz := fun _ : UInt8 => 1) (fun _ => Nat.le_refl _) a0
  refine ⟨a0.length + 600, ?_⟩
  generalize hk : a0.length + 600 = k
  have ht : List.take ((0 : Int).toNat + a0.length) (a0 ++ [71, 71, 71]) = a0 := by simp
  have hl := takeF_len (a := a0)
  obtain ⟨r, hr⟩ := spoil (l := (takeF a0).2.2.2) (n := (takeF a0).2.2.2.length) (by omega) (Nat.le_refl _) (k := k) (by omega)
  simp only [f252, awake18 (show 500 < k by omega), Option.bind_some]
  rw [cond_dec]
  split
  · rfl
  rw [own21 (by omega) (by omega)]
  simp only [Option.bind_some, ht]
  rw [take_frameR (by omega) (by omega), take_ref (by omega) (by omega)]
  simp only [Option.bind_some, Bool.not_true, cond_false]
  rw [gdp (Nat.le_refl _), List.take_length]
  simp only [f287, f22, Option.bind_some, decide_true, cond_true, Bool.not_true, cond_false]
  rw [cdn (by simp), cdn (by simp), hr, Option.bind_some, kept29 (by omega) (by omega)]
  rfl
end Go.Proofs.Abs
