/- JsonStrings: any UTF-8, as a string, is printed and parsed. -/
import Derived.Test.YtnhjiioiejpbgaaDoorPSt2
set_option linter.unusedSimpArgs false
namespace Go.Proofs.Abs
open Go
set_option linter.unusedVariables false
set_option maxRecDepth 100000
variable {s R : List UInt8} {n : Int} {c : UInt8}
theorem and_i64 (x : Nat) (m b : Nat) (hb : 2 ^ m = b) (hx : x < 1099511627776) (hm : b ≤ 1048576) (h0 : 0 < b) : bitsA .and .i64 (x : Int) ((b - 1 : Nat) : Int) = ((x % b : Nat) : Int) := by
  unfold bitsA
  simp only [BitVec.toNat_and, BitVec.toNat_ofInt]
  have h1 : ((x : Int) % ((2 ^ IntKind.i64.bits : Nat) : Int)).toNat = x := by
    show ((x : Int) % 18446744073709551616).toNat = _
    omega
  have h2 : (((b - 1 : Nat) : Int) % ((2 ^ IntKind.i64.bits : Nat) : Int)).toNat = b - 1 := by
    show (((b - 1 : Nat) : Int) % 18446744073709551616).toNat = _
    omega
  rw [h1, h2, ← hb, Nat.and_two_pow_sub_one_eq_mod, hb]
  have := Nat.mod_lt x h0
  rw [i64w (by omega)]
theorem hstep (v m b K : Nat) (y : List UInt8) (hv' : v ≤ 65535) (hmm : m ≤ 12) (hb : 2 ^ m = b) (h0 : 0 < b) (hy : y.length ≤ 100000) :
    f446_l11 (v : Int) (K + 1) (m : Int) y = f446_l11 (v : Int) K ((m : Int) - 4) (y ++ [hm (v / b % 16)]) := by
  have e1 : IntKind.u64.wrap (m : Int) = (m : Int) := u64w (by omega)
  have e2 : Int.fdiv (v : Int) (2 ^ (min ((m : Int)).toNat IntKind.i64.bits)) = ((v / b : Nat) : Int) := shr_nat v m b .i64 (by rw [Int.toNat_natCast]; exact Nat.min_eq_left (by show m ≤ 64; omega)) hb
  have hq : v / b ≤ v := Nat.div_le_self v b
  have e3 : bitsA .and .i64 ((v / b : Nat) : Int) (15 : Int) = ((v / b % 16 : Nat) : Int) := and_i64 (v / b) 4 16 rfl (by omega) (by omega) (by omega)
  rw [f446_l11, cdp (by omega), e1, gdp (by omega), e2, e3, i64w (n := ((v / b % 16 : Nat) : Int) + 1) (by omega)]
  have e4 : Abs.sl hexM ((v / b % 16 : Nat) : Int) (((v / b % 16 : Nat) : Int) + 1) = [hm (v / b % 16)] := hm_sl (v / b % 16) (by omega)
  show gd (0 ≤ ((v / b % 16 : Nat) : Int) ∧ ((v / b % 16 : Nat) : Int) ≤ ((v / b % 16 : Nat) : Int) + 1 ∧ ((v / b % 16 : Nat) : Int) + 1 ≤ 16) (gd (y.length + (Abs.sl hexM ((v / b % 16 : Nat) : Int) (((v / b % 16 : Nat) : Int) + 1)).length ≤ 9223372036854775807) (f446_l11 (v : Int) K (IntKind.i64.wrap ((m : Int) - 4)) (y ++ Abs.sl hexM ((v / b % 16 : Nat) : Int) (((v / b % 16 : Nat) : Int) + 1)))) = _
  rw [gdp (by omega), e4, gdp (by simp only [List.length_cons, List.length_nil]; omega), i64w (by omega)]
theorem four_out (K v : Nat) (y : List UInt8) (hv' : v ≤ 65535) (hK : 6 ≤ K) (hy : y.length ≤ 90000) : f446 K (v : Int) y = some (y ++ hd4 v) := by
  obtain ⟨K, rfl⟩ : ∃ j, K = j + 5 := ⟨K - 5, by omega⟩
  unfold f446
  rw [gdp (by simp only [List.length_cons, List.length_nil]; omega)]
  show Option.bind (f446_l11 (v : Int) (K + 5) ((12 : Nat) : Int) (y ++ [92, 117])) _ = _
  rw [hstep v 12 4096 (K + 4) _ hv' (by omega) rfl (by omega) (by simp; omega)]
  show Option.bind (f446_l11 (v : Int) (K + 4) ((8 : Nat) : Int) _) _ = _
  rw [hstep v 8 256 (K + 3) _ hv' (by omega) rfl (by omega) (by simp; omega)]
  show Option.bind (f446_l11 (v : Int) (K + 3) ((4 : Nat) : Int) _) _ = _
  rw [hstep v 4 16 (K + 2) _ hv' (by omega) rfl (by omega) (by simp; omega)]
  show Option.bind (f446_l11 (v : Int) (K + 2) ((0 : Nat) : Int) _) _ = _
  rw [hstep v 0 1 (K + 1) _ hv' (by omega) rfl (by omega) (by simp; omega), f446_l11, cdn (by omega), Option.bind_some]
  simp [hd4, Nat.div_one]
theorem out_runes (rs : List Int) (s : List UInt8) (hrs : runL s = rs) (hl : rs.length ≤ 1000) (hok : ∀ r ∈ rs, runeOk r) : ∀ (rest pre : List Int) (K : Nat) (y : List UInt8), rs = pre ++ rest → rest.length + 10 ≤ K → y.length + 12 * rest.length ≤ 80000 →
    f411_l55 s K ((pre.length : Nat) : Int) y = some (.b0 (y ++ hexT rest)) := by
  intro rest
  induction rest with
  | nil =>
    intro pre K y e hK hy
    obtain ⟨K, rfl⟩ : ∃ j, K = j + 1 := ⟨K - 1, by omega⟩
    rw [f411_l55, hrs, cdn (by rw [e]; simp)]
    simp [hexT]
  | cons r t ih =>
    intro pre K y e hK hy
    rw [List.length_cons] at hK hy
    obtain ⟨K, rfl⟩ : ∃ j, K = j + 1 := ⟨K - 1, by omega⟩
    have hlen : rs.length = pre.length + (t.length + 1) := by rw [e]; simp
    have hm : rd rs ((pre.length : Nat) : Int) = r := by rw [e]; exact rd_mid
    obtain ⟨v, hr, hv'⟩ := hok r (by rw [e]; simp)
    have hT : hexT (r :: t) = hexR v ++ hexT t := by rw [hr]; simp [hexT]
    have hL := hexR_len v
    have go := ih (pre ++ [r]) K (y ++ hexR v) (by rw [e]; simp) (by omega) (by rw [List.length_append]; omega)
    rw [List.length_append, List.length_cons, List.length_nil] at go
    rw [f411_l55, hrs, cdp (by omega), gdp (by omega), hm, i64w (n := ((pre.length : Nat) : Int) + 1) (by omega), hT, hr]
    by_cases h1 : v < 65536
    · have eR : hexR v = hd4 v := if_pos h1
      rw [cdn (by omega), i64w (by omega), four_out K v y (by omega) (by omega) (by omega), Option.bind_some, ← eR, ← List.append_assoc]
      exact go
    · have eR : hexR v = hd4 (55296 + (v - 65536) / 1024) ++ hd4 (56320 + (v - 65536) % 1024) := if_neg h1
      have e1 : IntKind.i64.wrap (IntKind.i32.wrap ((v : Int) - 65536)) = ((v - 65536 : Nat) : Int) := by rw [i32w (by omega), i64w (by omega)]; omega
      have e2 : Int.fdiv ((v - 65536 : Nat) : Int) (2 ^ (min ((10 : Int)).toNat IntKind.i64.bits)) = (((v - 65536) / 1024 : Nat) : Int) := shr_nat (v - 65536) 10 1024 .i64 rfl rfl
      have e3 : bitsA .and .i64 ((v - 65536 : Nat) : Int) (1023 : Int) = (((v - 65536) % 1024 : Nat) : Int) := and_i64 (v - 65536) 10 1024 rfl (by omega) (by omega) (by omega)
      rw [cdp (by omega), e1, e2, e3, i64w (n := 55296 + (((v - 65536) / 1024 : Nat) : Int)) (by omega), show (55296 : Int) + (((v - 65536) / 1024 : Nat) : Int) = ((55296 + (v - 65536) / 1024 : Nat) : Int) by omega, four_out K _ y (by omega) (by omega) (by omega), Option.bind_some, i64w (n := 56320 + (((v - 65536) % 1024 : Nat) : Int)) (by omega), show (56320 : Int) + (((v - 65536) % 1024 : Nat) : Int) = ((56320 + (v - 65536) % 1024 : Nat) : Int) by omega, four_out K _ _ (by omega) (by omega) (by rw [List.length_append]; simp [hd4]; omega), Option.bind_some, List.append_assoc, ← eR, ← List.append_assoc]
      exact go
theorem parse_str (K : Nat) (s q : List UInt8) (hb : s.length ≤ 20000) (hK : 3 ≤ K) (t : List UInt8) (hs : s = 34 :: t) (h4 : f400 (K - 1) s 0 = some (q, 0, ((s.length : Nat) : Int))) : f396 K s = some (0, 5, q, [], []) := by
  obtain ⟨K, rfl⟩ : ∃ j, K = j + 3 := ⟨K - 3, by omega⟩
  have h : At s 0 (34 :: t) := by rw [← hs]; exact At.start s
  have hl := h.len
  rw [List.length_cons] at hl
  have h4 : f400 (K + 2) s 0 = some (q, 0, ((s.length : Nat) : Int)) := h4
  have he : At s ((s.length : Nat) : Int) [] := ⟨s, by simp, rfl⟩
  have hv : f397 (K + 3) s 0 0 = some (0, 5, q, [], [], ((s.length : Nat) : Int)) := by
    rw [f397]
    unfold f397_s
    rw [white_at (K + 1) h (by decide) (by decide) (by decide) (by decide), Option.bind_some, cdn (by omega), gdp (by omega), h.get, cdn (by decide), cdn (by decide), cdn (by decide), cdp (by decide), h4]
    rfl
  rw [f396, cdn (by omega), hv, Option.bind_some]
  show cond (decide ((0 : Int) ≠ 0)) _ (Option.bind (f398 (K + 2 + 1) s ((s.length : Nat) : Int)) _) = _
  rw [cdn (by decide), white_end _ he, Option.bind_some, cdn (by omega)]
theorem leaf_same (K : Nat) (s : List UInt8) (hK : 3 ≤ K) : f437 K ⟨5, s, [], []⟩ ⟨5, s, [], []⟩ = some true := by
  obtain ⟨K, rfl⟩ : ∃ j, K = j + 3 := ⟨K - 3, by omega⟩
  rw [f437]
  unfold f437_s
  rw [cdp rfl, cdp rfl]
  rfl
theorem awake_js (k : Nat) : f395 (k + 20) = some true := by kernel_rfl
theorem law_JsonStrings (a0 : List UInt8) (w0 : True) (hb : a0.length + 1 ≤ 1048576) : ∃ k, f411 k a0 = some true := by
  suffices h : ∀ K, 2000 ≤ K → f411 K a0 = some true from ⟨2000, h _ (Nat.le_refl _)⟩
  intro K hK
  have ha : f395 K = some true := by
    obtain ⟨j, rfl⟩ : ∃ j, K = j + 20 := ⟨K - 20, by omega⟩
    exact awake_js j
  unfold f411
  rw [ha]
  by_cases h : ((a0.length : Nat) : Int) > 500
  · rw [cdp h]
    rfl
  · rw [cdn h]
    have hv : f351 K a0 = some (Lib.validD a0) := by unfold f351; rw [gdp (by omega)]
    rw [hv, Option.bind_some]
    cases hvd : Lib.validD a0 with
    | false => rfl
    | true =>
      have ql := quo_len a0
      obtain ⟨ok, cat⟩ := runL_ok a0 hvd
      have rl : (runL a0).length ≤ a0.length := runL_len a0
      have ho := out_runes (runL a0) a0 rfl (by omega) ok (runL a0) [] K [34] rfl (by omega) (by simp; omega)
      have hxl : (hexT (runL a0)).length ≤ 12 * (runL a0).length := by
        have : ∀ rs : List Int, (hexT rs).length ≤ 12 * rs.length := by
          intro rs
          induction rs with
          | nil => exact Nat.le_refl _
          | cons r t ih =>
            have := (hexR_len r.toNat).2
            have e : hexT (r :: t) = hexR r.toNat ++ hexT t := by simp [hexT]
            rw [e, List.length_append, List.length_cons]
            omega
        exact this _
      have p1 : f396 K (quo a0) = some (0, 5, a0, [], []) := by
        refine parse_str K (quo a0) a0 (by omega) (by omega) _ rfl ?_
        have h0 : At (quo a0) 0 (quo a0 ++ []) := by rw [List.append_nil]; exact At.start _
        have := text_at (K - 1 - a0.length - 7) a0 hvd (by omega) (by omega) h0
        rw [show K - 1 - a0.length - 7 + a0.length + 7 = K - 1 by omega] at this
        rw [this]
        simp
      have p2 : f396 K (34 :: (hexT (runL a0) ++ [34])) = some (0, 5, a0, [], []) := by
        obtain ⟨T, hT⟩ : ∃ T, T = 34 :: (hexT (runL a0) ++ [34]) := ⟨_, rfl⟩
        have hTl : T.length = (hexT (runL a0)).length + 2 := by rw [hT]; simp
        rw [← hT]
        refine parse_str K T a0 (by omega) (by omega) _ hT ?_
        have h0 : At T 0 (34 :: (hexT (runL a0) ++ 34 :: [])) := by rw [← hT]; exact At.start _
        unfold f400
        rw [is_yes _ h0 (by omega), Option.bind_some]
        show cond false _ (Option.bind (f400_l26 T (K - 1) [] (0 + 1)) _) = _
        rw [cond_false, hex_loop (by omega) (runL a0) (K - 1) [] [] (0 + 1) ok (by omega) (by simp; omega) h0.next, Option.bind_some, cat, List.nil_append]
        show some (a0, (0 : Int), (0 : Int) + 1 + (((hexT (runL a0)).length : Nat) : Int) + 1) = _
        rw [show (0 : Int) + 1 + (((hexT (runL a0)).length : Nat) : Int) + 1 = ((T.length : Nat) : Int) by omega]
      show Option.bind (f356 K a0) _ = _
      rw [quote_at K a0 (by omega) (by omega), Option.bind_some, p1, Option.bind_some, gdp (by omega)]
      show Option.bind (f411_l55 a0 K (((([] : List Int).length : Nat)) : Int) [34]) _ = _
      rw [ho, Option.bind_some]
      show f411_j108 K (0, 5, a0, [], []) a0 (34 :: hexT (runL a0)) = _
      unfold f411_j108
      rw [gdp (by simp only [List.length_cons, List.length_nil]; omega)]
      show Option.bind (f396 K (34 :: (hexT (runL a0) ++ [34]))) _ = _
      rw [p2, Option.bind_some, ha, Option.bind_some, cond_true]
      show cond (decide ((0 : Int) = 0)) (cond (decide ((0 : Int) = 0)) (Option.bind (f437 K ⟨5, a0, [], []⟩ ⟨5, a0, [], []⟩) _) _) _ = _
      rw [cdp rfl, cdp rfl, leaf_same K a0 (by omega), Option.bind_some, cond_true]
      rw [Option.bind_some, cond_true, print_at K a0 (by omega) hvd (by omega), Option.bind_some, quote_at K a0 (by omega) (by omega), Option.bind_some]
      simp
end Go.Proofs.Abs
