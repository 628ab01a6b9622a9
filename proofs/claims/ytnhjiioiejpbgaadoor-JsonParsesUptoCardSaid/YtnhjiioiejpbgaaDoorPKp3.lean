/- Two parsers of json at the same place: what stands behind a backslash. -/
import Derived.Test.YtnhjiioiejpbgaaDoorPKp2
set_option linter.unusedSimpArgs false
namespace Go.Proofs.Abs
open Go
set_option linter.unusedVariables false
set_option maxRecDepth 100000
variable {s R : List UInt8} {n : Int} {c : UInt8}
def refU (k : Nat) (s : List UInt8) (n : Int) : Option ((List UInt8) × Int × Int) := (f302 k s n 0).bind fun r154 => cond (decide (r154.1 ≥ (55296 : Int))) (cond (decide (r154.1 < (56320 : Int))) ((f299 k s r154.2 0 ([92, 117] : List UInt8)).bind fun r168 => f301_j170 k s 0 r154 r168.1 r168.2) (f301_j170 k s 0 r154 false r154.2)) (f301_j170 k s 0 r154 false r154.2)
theorem fail0 (k : Nat) (s : List UInt8) (n e : Int) : f298 k s n 0 e = some e := rfl
theorem ref_bad (k : Nat) (s : List UInt8) (v n : Int) (h : v < 0 ∨ (55296 ≤ v ∧ v < 57344)) : f301_j207 k 0 s v n = some ([], n, 4) := by
  unfold f301_j207
  have e : f301_j220 k v n 0 s false = some ([], n, 4) := rfl
  by_cases h0 : v ≥ 0
  · rw [cdp h0, cdn (by omega), decide_eq_false (by omega), e]
  · rw [cdn h0, e]
theorem ref_ok (k : Nat) (s : List UInt8) (v n : Int) (h : 0 ≤ v ∧ (v < 55296 ∨ (57344 ≤ v ∧ v ≤ 65535))) : f301_j207 k 0 s v n = some (encL v, n, 0) := by
  unfold f301_j207
  have e : f301_j220 k v n 0 s true = some (encL v, n, 0) := by
    unfold f301_j220
    rw [cond_true, i32w (by omega)]
  rw [cdp (by omega)]
  by_cases h1 : v < 55296
  · rw [cdp h1, e]
  · rw [cdn h1, decide_eq_true (by omega), e]
/-- behind \\u -/
theorem sign2 (hb : s.length ≤ 20000) (K : Nat) (hK : 6 ≤ K) (h : At s n R) :
    (∃ (v : Nat) (n' : Int) (R' : List UInt8), (v < 55296 ∨ (57343 < v ∧ v ≤ 1114111)) ∧ f416 K s n = some ((v : Int), true, n') ∧ refU K s n = some (encL (v : Int), n', 0) ∧ At s n' R' ∧ R'.length ≤ R.length) ∨
    ((∃ n1, f416 K s n = some (0, false, n1)) ∧ ∃ n2 R2, refU K s n = some ([], n2, 4) ∧ At s n2 R2 ∧ R2.length ≤ R.length) := by
  rcases fours hb K hK h with ⟨v, R', v0, v1, p, r, hA, hL⟩ | ⟨⟨n1, p⟩, n2, R2, r, hA, hL⟩
  · by_cases c1 : v < 55296
    · refine .inl ⟨v.toNat, n + 4, R', .inl (by omega), ?_, ?_, hA, hL⟩
      · unfold f416
        rw [p, Option.bind_some]
        show cond false _ (cond (decide (v < 55296)) _ _) = _
        rw [cond_false, cdp c1, show ((v.toNat : Nat) : Int) = v by omega]
        rfl
      · unfold refU
        rw [r, Option.bind_some]
        show cond (decide (v ≥ 55296)) _ (f301_j207 K 0 s v (n + 4)) = _
        rw [cdn (by omega), ref_ok K s v _ ⟨v0, .inl c1⟩, show ((v.toNat : Nat) : Int) = v by omega]
    · by_cases c2 : v > 57343
      · refine .inl ⟨v.toNat, n + 4, R', .inr (by omega), ?_, ?_, hA, hL⟩
        · unfold f416
          rw [p, Option.bind_some]
          show cond false _ (cond (decide (v < 55296)) _ (f416_j30 K (v, true, n + 4) s (decide (v > 57343)))) = _
          rw [cond_false, cdn c1, decide_eq_true c2, show ((v.toNat : Nat) : Int) = v by omega]
          rfl
        · unfold refU
          rw [r, Option.bind_some]
          show cond (decide (v ≥ 55296)) (cond (decide (v < 56320)) _ (f301_j207 K 0 s v (n + 4))) _ = _
          rw [cdp (by omega), cdn (by omega), ref_ok K s v _ ⟨v0, .inr (by omega)⟩, show ((v.toNat : Nat) : Int) = v by omega]
      · have p0 : f416 K s n = f416_j30 K (v, true, n + 4) s false := by
          unfold f416
          rw [p, Option.bind_some]
          show cond false _ (cond (decide (v < 55296)) _ (f416_j30 K (v, true, n + 4) s (decide (v > 57343)))) = _
          rw [cond_false, cdn c1, decide_eq_false c2]
        by_cases c3 : v ≥ 56320
        · refine .inr ⟨⟨n + 4, ?_⟩, n + 4, R', ?_, hA, hL⟩
          · rw [p0]
            unfold f416_j30
            rw [cond_false]
            show cond (decide (v ≥ 56320)) _ _ = _
            rw [cdp c3]
          · unfold refU
            rw [r, Option.bind_some]
            show cond (decide (v ≥ 55296)) (cond (decide (v < 56320)) _ (f301_j207 K 0 s v (n + 4))) _ = _
            rw [cdp (by omega), cdn (by omega), ref_bad K s v _ (.inr (by omega))]
        · -- a high one: the low one has to come
          have p1 : f416 K s n = (f401 K s (n + 4) 92).bind fun r48 => cond (!r48.1) (some ((0 : Int), false, r48.2)) ((f401 K s r48.2 117).bind fun r53 => cond (!r53.1) (some ((0 : Int), false, r53.2)) ((f420 K s r53.2).bind fun r68 => cond (!r68.2.1) (some ((0 : Int), false, r68.2.2)) (cond (decide (r68.1 < (56320 : Int))) (some ((0 : Int), false, r68.2.2)) (cond (decide (r68.1 > (57343 : Int))) (some ((0 : Int), false, r68.2.2)) (some ((IntKind.i32.wrap ((IntKind.i32.wrap ((65536 : Int) + (IntKind.i32.wrap ((IntKind.i32.wrap (v - (55296 : Int))) * 2 ^ (min ((10 : Int)).toNat IntKind.i32.bits))))) + (IntKind.i32.wrap (r68.1 - (56320 : Int))))), true, r68.2.2)))))) := by
            rw [p0]
            unfold f416_j30
            rw [cond_false]
            show cond (decide (v ≥ 56320)) _ _ = _
            rw [cdn c3]
          have r1 : refU K s n = (f299 K s (n + 4) 0 ([92, 117] : List UInt8)).bind fun r168 => f301_j170 K s 0 (v, n + 4) r168.1 r168.2 := by
            unfold refU
            rw [r, Option.bind_some]
            show cond (decide (v ≥ 55296)) (cond (decide (v < 56320)) _ _) _ = _
            rw [cdp (by omega), cdp (by omega)]
          have rno : f299 K s (n + 4) 0 [92, 117] = some (false, n + 4) → refU K s n = some ([], n + 4, 4) := by
            intro hf
            rw [r1, hf, Option.bind_some]
            show f301_j207 K 0 s v (n + 4) = _
            exact ref_bad K s v _ (.inr (by omega))
          match R', hA, hL with
          | [], hA, hL =>
            refine .inr ⟨⟨n + 4, ?_⟩, n + 4, [], rno (ris_0 K 0 92 [117] hA hb (by simp)), hA, hL⟩
            rw [p1, is_end K 92 hA]
            rfl
          | a :: t, hA, hL =>
            by_cases ha : a = 92
            · subst ha
              match t, hA, hL with
              | [], hA, hL =>
                refine .inr ⟨⟨n + 4 + 1, ?_⟩, n + 4, [92], rno (ris_no K 0 [92, 117] hA hb (by simp) (by simp)), hA, hL⟩
                rw [p1, is_yes K hA hb, Option.bind_some]
                show cond false _ ((f401 K s (n + 4 + 1) 117).bind _) = _
                rw [cond_false, is_end K 117 hA.next]
                rfl
              | b :: t, hA, hL =>
                by_cases hbq : b = 117
                · subst hbq
                  have p2 : f416 K s n = ((f420 K s (n + 4 + 1 + 1)).bind fun r68 => cond (!r68.2.1) (some ((0 : Int), false, r68.2.2)) (cond (decide (r68.1 < (56320 : Int))) (some ((0 : Int), false, r68.2.2)) (cond (decide (r68.1 > (57343 : Int))) (some ((0 : Int), false, r68.2.2)) (some ((IntKind.i32.wrap ((IntKind.i32.wrap ((65536 : Int) + (IntKind.i32.wrap ((IntKind.i32.wrap (v - (55296 : Int))) * 2 ^ (min ((10 : Int)).toNat IntKind.i32.bits))))) + (IntKind.i32.wrap (r68.1 - (56320 : Int))))), true, r68.2.2))))) := by
                    rw [p1, is_yes K hA hb, Option.bind_some]
                    show cond false _ ((f401 K s (n + 4 + 1) 117).bind _) = _
                    rw [cond_false, is_yes K hA.next hb, Option.bind_some]
                    rfl
                  have r2 : refU K s n = (f302 K s (n + 4 + 1 + 1) 0).bind fun r175 => cond (decide (r175.1 ≥ (56320 : Int))) (f301_j187 K (v, n + 4) r175 0 s (decide (r175.1 < (57344 : Int)))) (f301_j187 K (v, n + 4) r175 0 s false) := by
                    rw [r1, ris_yes K 0 [92, 117] (R := t) hA hb, Option.bind_some]
                    unfold f301_j170
                    show Option.bind (f302 K s (n + 4 + ((2 : Nat) : Int)) 0) _ = _
                    rw [show n + 4 + ((2 : Nat) : Int) = n + 4 + 1 + 1 by omega]
                  have hlen : t.length ≤ R.length := by simp at hL; omega
                  rcases fours hb K hK hA.next.next with ⟨w, R3, w0, w1, p3, r3, hA3, hL3⟩ | ⟨⟨n1, p3⟩, n2, R2, r3, hA2, hL2⟩
                  · have bad : (w < 56320 ∨ w > 57343) → ((∃ n1, f416 K s n = some (0, false, n1)) ∧ ∃ n2 R2, refU K s n = some ([], n2, 4) ∧ At s n2 R2 ∧ R2.length ≤ R.length) := by
                      intro hw
                      refine ⟨⟨n + 4 + 1 + 1 + 4, ?_⟩, n + 4 + 1 + 1 + 4, R3, ?_, hA3, by omega⟩
                      · rw [p2, p3, Option.bind_some]
                        show cond false _ (cond (decide (w < 56320)) _ (cond (decide (w > 57343)) _ _)) = _
                        rw [cond_false]
                        by_cases h5 : w < 56320
                        · rw [cdp h5]
                        · rw [cdn h5, cdp (by omega)]
                      · rw [r2, r3, Option.bind_some]
                        have e : f301_j187 K (v, n + 4) (w, n + 4 + 1 + 1 + 4) 0 s false = some ([], n + 4 + 1 + 1 + 4, 4) := by
                          unfold f301_j187
                          rw [cond_false]
                          exact ref_bad K s (-1) _ (.inl (by omega))
                        show cond (decide (w ≥ 56320)) (f301_j187 K (v, n + 4) (w, n + 4 + 1 + 1 + 4) 0 s (decide (w < 57344))) (f301_j187 K (v, n + 4) (w, n + 4 + 1 + 1 + 4) 0 s false) = _
                        by_cases h5 : w < 56320
                        · rw [cdn (by omega), e]
                        · rw [cdp (by omega), decide_eq_false (by omega), e]
                    by_cases h5 : w < 56320 ∨ w > 57343
                    · exact .inr (bad h5)
                    · refine .inl ⟨(65536 + (v - 55296) * 1024 + (w - 56320)).toNat, n + 4 + 1 + 1 + 4, R3, .inr (by omega), ?_, ?_, hA3, by omega⟩
                      · rw [p2, p3, Option.bind_some]
                        show cond false _ (cond (decide (w < 56320)) _ (cond (decide (w > 57343)) _ _)) = _
                        rw [cond_false, cdn (by omega), cdn (by omega)]
                        have e10 : (v - 55296) * 2 ^ (min ((10 : Int)).toNat IntKind.i32.bits) = (v - 55296) * 1024 := rfl
                        show some (IntKind.i32.wrap ((IntKind.i32.wrap ((65536 : Int) + (IntKind.i32.wrap ((IntKind.i32.wrap (v - (55296 : Int))) * 2 ^ (min ((10 : Int)).toNat IntKind.i32.bits))))) + (IntKind.i32.wrap (w - (56320 : Int)))), true, n + 4 + 1 + 1 + 4) = _
                        rw [i32w (n := v - 55296) (by omega), e10, i32w (n := (v - 55296) * 1024) (by omega), i32w (n := 65536 + (v - 55296) * 1024) (by omega), i32w (n := w - 56320) (by omega), i32w (by omega), show (((65536 + (v - 55296) * 1024 + (w - 56320)).toNat : Nat) : Int) = 65536 + (v - 55296) * 1024 + (w - 56320) by omega]
                      · rw [r2, r3, Option.bind_some]
                        show cond (decide (w ≥ 56320)) (f301_j187 K (v, n + 4) (w, n + 4 + 1 + 1 + 4) 0 s (decide (w < 57344))) _ = _
                        rw [cdp (by omega), decide_eq_true (by omega)]
                        unfold f301_j187
                        rw [cond_true]
                        show some (encL (IntKind.i32.wrap (IntKind.i64.wrap ((IntKind.i64.wrap ((IntKind.i64.wrap ((65536 : Int) + (IntKind.i64.wrap ((IntKind.i64.wrap (v - (55296 : Int))) * (1024 : Int))))) + w)) - (56320 : Int)))), n + 4 + 1 + 1 + 4, (0 : Int)) = _
                        rw [i64w (n := v - 55296) (by omega), i64w (n := (v - 55296) * 1024) (by omega), i64w (n := 65536 + (v - 55296) * 1024) (by omega), i64w (n := 65536 + (v - 55296) * 1024 + w) (by omega), i64w (by omega), i32w (by omega), show (((65536 + (v - 55296) * 1024 + (w - 56320)).toNat : Nat) : Int) = 65536 + (v - 55296) * 1024 + w - 56320 by omega]
                  · refine .inr ⟨⟨n1, ?_⟩, n2, R2, ?_, hA2, by omega⟩
                    · rw [p2, p3]
                      rfl
                    · rw [r2, r3, Option.bind_some]
                      show cond (decide ((-1 : Int) ≥ 56320)) _ (f301_j207 K 0 s (-1) n2) = _
                      rw [cdn (by omega), ref_bad K s (-1) _ (.inl (by omega))]
                · refine .inr ⟨⟨n + 4 + 1, ?_⟩, n + 4, 92 :: b :: t, rno (ris_no K 0 [92, 117] hA hb (by simp) (by simpa using hbq)), hA, hL⟩
                  rw [p1, is_yes K hA hb, Option.bind_some]
                  show cond false _ ((f401 K s (n + 4 + 1) 117).bind _) = _
                  rw [cond_false, is_no K hA.next (fun e => hbq (UInt8.toNat.inj (by omega)))]
                  rfl
            · refine .inr ⟨⟨n + 4, ?_⟩, n + 4, a :: t, rno (ris_no K 0 [92, 117] hA hb (by simp) ?_), hA, hL⟩
              · rw [p1, is_no K hA (fun e => ha (UInt8.toNat.inj (by omega)))]
                rfl
              · cases t with
                | nil => simp
                | cons b t => simp [ha]
  · refine .inr ⟨⟨n1, ?_⟩, n2, R2, ?_, hA, hL⟩
    · unfold f416
      rw [p, Option.bind_some]
      rfl
    · unfold refU
      rw [r, Option.bind_some]
      show cond (decide ((-1 : Int) ≥ 55296)) _ (f301_j207 K 0 s (-1) n2) = _
      rw [cdn (by omega), ref_bad K s (-1) _ (.inl (by omega))]
end Go.Proofs.Abs
