/- The law BatchOnce over the Lean functions: numbers that come in order are taken once. -/
import Derived.Test.YtojmpoboidomeaaPBat
import Derived.Test.YtojmpoboidomeaaAbsxc
set_option linter.unusedSimpArgs false
namespace Go.Proofs.Abs
open Go
set_option linter.unusedVariables false
set_option maxRecDepth 10000
/-- the messages that were taken so far -/
def msgs (p f : Nat) : Nat → List TMessage
  | 0 => []
  | n + 1 => msgs p f n ++ [⟨(n : Int), (p : Int), ((f + n : Nat) : Int), 0, []⟩]
theorem msgs_len (p f : Nat) : ∀ n, (msgs p f n).length = n
  | 0 => rfl
  | n + 1 => by simp [msgs, msgs_len p f n]
theorem msgs_data (p f : Nat) : ∀ n, ∀ x ∈ msgs p f n, x.fData.length ≤ 1048576
  | 0 => by intro x hx; simp [msgs] at hx
  | n + 1 => by
    intro x hx
    rcases List.mem_append.1 hx with h | h
    · exact msgs_data p f n x h
    · rw [List.mem_singleton.1 h]; simp
theorem look_first {p s : Int} (hp : p ≠ 0) (hs : s ≠ 0) {k : Nat} (hk : 0 < k) : f34 k [] p s = some (0, false, 0) := by
  have h := last_batch (a := []) (p := p) (by simp) (by simp) (k := k) (by simpa using hk)
  simp only [f34, f34_j17, h, Option.bind_some, f34_j53]
  rw [cdn hp, decide_eq_false hs]
  rfl
theorem look_next {p f n : Nat} {s : Int} (hp : p ≠ 0) (hs : s ≠ 0) (hn : n ≤ 1000) {k : Nat} (hk : n + 1 < k) : f34 k (msgs p f (n + 1)) p s = some (if IntKind.u64.wrap (s - 1) = ((f + n : Nat) : Int) then (0, false, 0) else if s = ((f + n : Nat) : Int) then ((n : Int), true, 0) else (0, false, 15)) := by
  have h := last_batch (a := msgs p f (n + 1)) (p := (p : Int)) (by rw [msgs_len]; omega) (msgs_data p f (n + 1)) (k := k) (by rw [msgs_len]; omega)
  have h2 : lastM (p : Int) (msgs p f (n + 1)).reverse = some ⟨(n : Int), (p : Int), ((f + n : Nat) : Int), 0, []⟩ := by
    simp [msgs, lastM]
  rw [h2] at h
  simp only [f34, f34_j17, h, Option.bind_some, f34_j53, tupM]
  rw [cdn (by omega), decide_eq_false hs]
  simp only [cond_false, Bool.not_true, cond_dec]
  split
  · rfl
  · split <;> rfl
theorem shr1 (a : Nat) : Int.fdiv (a : Int) (2 ^ (min ((1 : Int)).toNat IntKind.u64.bits)) = ((a / 2 : Nat) : Int) := fdivN a 1
theorem shr2 (a : Nat) : Int.fdiv (a : Int) (2 ^ (min ((2 : Int)).toNat IntKind.u64.bits)) = ((a / 4 : Nat) : Int) := fdivN a 2
theorem l71o {a b : Nat} (ha : a < 18446744073709551616) (hb : b < 18446744073709551616) {l : List Int} {i n m : Nat} (hi : i < l.length) (hn : n ≤ 100) (hm : IntKind.i64.wrap (Int.tmod (IntKind.u64.wrap (rd l (i : Int))) 3) = (m : Int)) (hm3 : m < 3) :
    ∀ (d j k : Nat), j + d = m + 1 → 1 ≤ j → d + n + 100 < k → f6_l71 (i : Int) l (a : Int) (b : Int) (msgs (1 + a / 2) (1 + b / 4) n) k (msgs (1 + a / 2) (1 + b / 4) (n + 1)) (j : Int) = some (.b0 (msgs (1 + a / 2) (1 + b / 4) (n + 1))) := by
  intro d
  induction d with
  | zero =>
    intro j k hj h1 hk
    obtain ⟨k, rfl, _⟩ := succ_of_pos (show 0 < k by omega)
    rw [f6_l71, gdp (by omega), hm, cdn (by omega)]
  | succ d ih =>
    intro j k hj h1 hk
    obtain ⟨k, rfl, _⟩ := succ_of_pos (show 0 < k by omega)
    have e1 : IntKind.u64.wrap ((1 : Int) + (Int.fdiv (a : Int) (2 ^ (min ((1 : Int)).toNat IntKind.u64.bits)))) = ((1 + a / 2 : Nat) : Int) := by rw [shr1, u64w (by omega)]; omega
    have e2 : IntKind.u64.wrap ((IntKind.u64.wrap ((1 : Int) + (Int.fdiv (b : Int) (2 ^ (min ((2 : Int)).toNat IntKind.u64.bits))))) + (IntKind.u64.wrap (((msgs (1 + a / 2) (1 + b / 4) n).length : Nat) : Int))) = ((1 + b / 4 + n : Nat) : Int) := by
      rw [shr2, msgs_len, u64w (n := 1 + ((b / 4 : Nat) : Int)) (by omega), u64w (n := (n : Int)) (by omega), u64w (by omega)]; omega
    have e3 := look_next (p := 1 + a / 2) (f := 1 + b / 4) (n := n) (s := ((1 + b / 4 + n : Nat) : Int)) (by omega) (by omega) (by omega) (show n + 1 < k by omega)
    rw [if_neg (by rw [u64w (by omega)]; omega), if_pos rfl] at e3
    have e4 : IntKind.i64.wrap ((j : Int) + 1) = ((j + 1 : Nat) : Int) := by rw [i64w (by omega)]; omega
    rw [f6_l71, gdp (by omega), hm, cdp (by omega), e1, e2, e3, Option.bind_some]
    rw [cdn (by simp), decide_eq_true (show (j : Int) > 0 by omega)]
    simp only [BEq.rfl, Bool.not_true, cond_false, cond_true]
    rw [cdn (by rw [msgs_len, i64w (by omega), u64w (by omega)]; simp), f6_j136]
    simp only [Bool.not_true, cond_false, e4]
    exact ih (j + 1) k (by omega) (by omega) (by omega)
theorem l38o {a b : Nat} (ha : a < 18446744073709551616) (hb : b < 18446744073709551616) {l : List Int} (hl : l.length ≤ 1048576) : ∀ (d n k : Nat), n + d = 60 → d + 400 < k →
    f6_l38 l (a : Int) (b : Int) k (msgs (1 + a / 2) (1 + b / 4) n) (n : Int) = some (.b0 ()) := by
  intro d
  induction d with
  | zero =>
    intro n k hj hk
    obtain ⟨k, rfl, _⟩ := succ_of_pos (show 0 < k by omega)
    rw [f6_l38]
    by_cases c : (n : Int) < ((l.length : Nat) : Int)
    · rw [cdp c, cdn (by omega)]
    · rw [cdn c]
  | succ d ih =>
    intro n k hj hk
    obtain ⟨k, rfl, _⟩ := succ_of_pos (show 0 < k by omega)
    rw [f6_l38]
    by_cases c : (n : Int) < ((l.length : Nat) : Int)
    · rw [cdp c, cdp (by omega)]
      obtain ⟨m, hm, hm3⟩ : ∃ m : Nat, IntKind.i64.wrap (Int.tmod (IntKind.u64.wrap (rd l (n : Int))) 3) = (m : Int) ∧ m < 3 := by
        rw [wrap_u64_mod]
        have h0 : 0 ≤ rd l (n : Int) % 18446744073709551616 := by omega
        generalize rd l (n : Int) % 18446744073709551616 = x at h0
        rw [Int.tmod_eq_emod_of_nonneg h0, i64w (by omega)]
        exact ⟨(x % 3).toNat, by omega, by omega⟩
      obtain ⟨j, rfl, _⟩ := succ_of_pos (show 0 < k by omega)
      have e1 : IntKind.u64.wrap ((1 : Int) + (Int.fdiv (a : Int) (2 ^ (min ((1 : Int)).toNat IntKind.u64.bits)))) = ((1 + a / 2 : Nat) : Int) := by rw [shr1, u64w (by omega)]; omega
      have e2 : IntKind.u64.wrap ((IntKind.u64.wrap ((1 : Int) + (Int.fdiv (b : Int) (2 ^ (min ((2 : Int)).toNat IntKind.u64.bits))))) + (IntKind.u64.wrap (((msgs (1 + a / 2) (1 + b / 4) n).length : Nat) : Int))) = ((1 + b / 4 + n : Nat) : Int) := by
        rw [shr2, msgs_len, u64w (n := 1 + ((b / 4 : Nat) : Int)) (by omega), u64w (n := (n : Int)) (by omega), u64w (by omega)]; omega
      have e3 : f34 j (msgs (1 + a / 2) (1 + b / 4) n) ((1 + a / 2 : Nat) : Int) ((1 + b / 4 + n : Nat) : Int) = some (0, false, 0) := by
        cases n with
        | zero => exact look_first (by omega) (by omega) (by omega)
        | succ n =>
          rw [look_next (p := 1 + a / 2) (f := 1 + b / 4) (n := n) (by omega) (by omega) (by omega) (show n + 1 < j by omega), if_pos (by rw [u64w (by omega)]; omega)]
      have e4 : f6_l71 (n : Int) l (a : Int) (b : Int) (msgs (1 + a / 2) (1 + b / 4) n) (j + 1) (msgs (1 + a / 2) (1 + b / 4) n) 0 = some (.b0 (msgs (1 + a / 2) (1 + b / 4) (n + 1))) := by
        have := l71o ha hb (l := l) (i := n) (n := n) (m := m) (by omega) (by omega) hm hm3 m 1 j (by omega) (by omega) (by omega)
        rw [f6_l71, gdp (by omega), hm, cdp (by omega), e1, e2, e3, Option.bind_some]
        rw [cdn (by simp)]
        rw [show decide ((0 : Int) > 0) = false from rfl]
        simp only [BEq.rfl, Bool.not_true, cond_false]
        rw [f6_j136]
        simp only [Bool.not_false, cond_true, e1, e2]
        rw [gdp (by rw [msgs_len]; simp; omega), msgs_len, u64w (n := (n : Int)) (by omega), i64w (n := 0 + 1) (by omega)]
        exact this
      rw [e4, Option.bind_some]
      have e5 := look_next (p := 1 + a / 2) (f := 1 + b / 4) (n := n) (s := ((1 + b / 4 + n + 2 : Nat) : Int)) (by omega) (by omega) (by omega) (show n + 1 < j + 1 by omega)
      rw [if_neg (by rw [u64w (by omega)]; omega), if_neg (by omega)] at e5
      simp only [f6_j160, e1, e2]
      rw [show IntKind.u64.wrap (((1 + b / 4 + n : Nat) : Int) + 2) = ((1 + b / 4 + n + 2 : Nat) : Int) by rw [u64w (by omega)]; omega, e5, Option.bind_some, cdn (by simp), i64w (n := (n : Int) + 1) (by omega)]
      exact ih (n + 1) (j + 1) (by omega) (by omega)
    · rw [cdn c]
theorem law_BatchOnce (a0 : Int) (a1 : Int) (a2 : (List Int)) (w0 : (0 ≤ a0 ∧ a0 ≤ 18446744073709551615)) (w1 : (0 ≤ a1 ∧ a1 ≤ 18446744073709551615)) (w2 : (∀ e0 ∈ a2, (-9223372036854775808 ≤ e0 ∧ e0 ≤ 9223372036854775807))) (hb : 1 + 1 + ((a2.map (fun _ => 1)).sum + 1) ≤ 1048576) : ∃ k, f6 k a0 a1 a2 = some true := by
  have h1 := len_sum (sz := fun _ : Int => 1) (fun _ => Nat.le_refl _) a2
  obtain ⟨a, rfl⟩ := Int.eq_ofNat_of_zero_le w0.1
  obtain ⟨b, rfl⟩ := Int.eq_ofNat_of_zero_le w1.1
  refine ⟨1000, ?_⟩
  simp only [f6, awake24' (show 30 ≤ 1000 by omega), Option.bind_some, Bool.not_true, cond_false]
  rw [show f6_l38 a2 (a : Int) (b : Int) 1000 [] 0 = _ from l38o (a := a) (b := b) (by omega) (by omega) (by omega) 60 0 1000 (by omega) (by omega)]
  rfl
end Go.Proofs.Abs
