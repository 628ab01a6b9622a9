/- Arrays of nulls or of numbers, in blocks: what is read of their bytes. -/
import Derived.Test.YtlpffigmcnahcaaDoorPC3
set_option linter.unusedSimpArgs false
namespace Go.Proofs.Abs
open Go
set_option linter.unusedVariables false
set_option maxRecDepth 100000
def zc (a : Int) : List UInt8 := nb (zg a)
def nA : TNode := TNode.mk 11 [] [] [] [] false [] 1 [] 0
def nI (K : Int) : TNode := TNode.mk K [] [] [] [] false [] 0 [] 0
def ndl (K : Int) : List TNode := [nA, nI K]
def vI (K n : Int) : RT 5 := RT.of TValue.ok ⟨K, n, [], [], []⟩
abbrev Ix := List UInt8 × Int
theorem num_in {b pre rest : List UInt8} {a lo hi left : Int} (K : Int) (hb : b = pre ++ (zc a ++ rest)) (hl : b.length ≤ 100000000) (ha : -9223372036854775808 ≤ a ∧ a ≤ 9223372036854775807) (h1 : lo ≤ a ∧ a ≤ hi) {k : Nat} (hk : 10 ≤ k) :
    f454 k (ndl K) b ((pre.length : Nat) : Int) 0 left lo hi = some (a, 0, (((pre ++ zc a).length : Nat) : Int), 0) := by
  have hp : pre.length ≤ b.length := by rw [hb]; simp
  have hz := rZig_put (b := b) (pre := pre) (rest := rest) (a := a) hb ha
  have h42 : ∀ p e, f42 k b p e = some () := fun _ _ => rfl
  unfold f454
  rw [zig_read hl hp hk, hz, Option.bind_some, h42, Option.bind_some]
  show cond (decide ((0 : Int) ≠ 0)) _ (cond (decide (a < lo)) _ (cond (decide (a > hi)) _ _)) = _
  rw [cdn (by decide), cdn (by omega), cdn (by omega)]
  rfl
/-- node 1, up to what is read of it -/
theorem at_1 (K : Int) (hK : K = 1 ∨ K = 4) (k : Nat) (b : List UInt8) (p : Int) (left : Nat) (h : 1 ≤ left ∧ left ≤ 10000) : f451 (k + 1) (ndl K) b p 0 ((left : Nat) : Int) 1 2 = (f465 k (ndl K) b p 0 ((left - 1 : Nat) : Int) (nI K) K 0).bind fun r243 => f451_j245 k r243.1 K r243.2.2.2.1 r243.2.2.2.2 ([] : List (RT 5)) ([] : List (List UInt8)) ((left - 1 : Nat) : Int) r243.2.1 r243.2.2.1 := by
  rw [f451]
  unfold f451_s
  rw [cdn (by decide)]
  show f451_j22 k ((left : Nat) : Int) p 0 2 1 (ndl K) (f451 k) b (decide ((1 : Int) ≥ 2)) = _
  rw [decide_eq_false (by decide)]
  unfold f451_j22
  rw [cond_false, cdn (by decide), decide_eq_false (by omega)]
  unfold f451_j44
  rw [cond_false, gdp ⟨by decide, by show (1 : Int) < 2; decide⟩]
  show cond (decide (K = 11)) _ (f451_j105 k (f451 k) (ndl K) b p 0 ((left : Nat) : Int) 1 2 (decide (K = 12))) = _
  rw [cdn (by omega), decide_eq_false (by omega)]
  unfold f451_j105
  rw [cond_false]
  show cond (decide (K = 9)) _ (cond (decide (K = 13)) _ (Option.bind (f465 k (ndl K) b p 0 (IntKind.i64.wrap (((left : Nat) : Int) - 1)) (nI K) K 0) _)) = _
  rw [cdn (by omega), cdn (by omega), i64w (n := ((left : Nat) : Int) - 1) (by omega), show ((left : Nat) : Int) - 1 = ((left - 1 : Nat) : Int) by omega]
  rfl
/-- what an item is read as -/
def Item (K : Int) (b : List UInt8) (x : Ix) : Prop := ∀ (pre rest : List UInt8) (k left : Nat), b = pre ++ (x.1 ++ rest) → 12 ≤ k → 1 ≤ left → left ≤ 10000 →
  f451 k (ndl K) b ((pre.length : Nat) : Int) 0 ((left : Nat) : Int) 1 2 = some (0, K, x.2, [], [], [], ((left - 1 : Nat) : Int), (((pre ++ x.1).length : Nat) : Int), 0)
theorem item_null (b : List UInt8) : Item 1 b ([], 0) := by
  intro pre rest k left hb hk h1 h2
  obtain ⟨k, rfl⟩ : ∃ j, k = j + 1 := ⟨k - 1, by omega⟩
  rw [at_1 1 (.inl rfl) k b _ left ⟨h1, h2⟩, List.append_nil]
  rfl
theorem item_long (b : List UInt8) (a : Int) (hl : b.length ≤ 100000000) (ha : -9223372036854775808 ≤ a ∧ a ≤ 9223372036854775807) : Item 4 b (zc a, a) := by
  intro pre rest k left hb hk h1 h2
  obtain ⟨k, rfl⟩ : ∃ j, k = j + 1 := ⟨k - 1, by omega⟩
  have hn := num_in (lo := -9223372036854775808) (hi := 9223372036854775807) (left := ((left - 1 : Nat) : Int)) 4 hb hl ha ha (k := k) (by omega)
  have h5 : f465 k (ndl 4) b ((pre.length : Nat) : Int) 0 ((left - 1 : Nat) : Int) (nI 4) 4 0 = some (0, (((pre ++ zc a).length : Nat) : Int), 0, a, []) := by
    unfold f465
    show cond (decide ((4 : Int) = 2)) _ (cond (decide ((4 : Int) = 3)) _ (cond (decide ((4 : Int) = 4)) (Option.bind (f454 k (ndl 4) b ((pre.length : Nat) : Int) 0 ((left - 1 : Nat) : Int) (-9223372036854775808) 9223372036854775807) _) _)) = _
    rw [cdn (by decide), cdn (by decide), cdp rfl, hn]
    rfl
  rw [at_1 4 (.inr rfl) k b _ left ⟨h1, h2⟩, h5]
  rfl
theorem item_lim (K : Int) (k : Nat) (b : List UInt8) (p : Int) : f451 (k + 1) (ndl K) b p 0 0 1 2 = some (5, 0, 0, [], [], [], 0, p, 0) := by
  rw [f451]
  unfold f451_s
  rw [cdn (by decide)]
  show f451_j22 k 0 p 0 2 1 (ndl K) (f451 k) b (decide ((1 : Int) ≥ 2)) = _
  rw [decide_eq_false (by decide)]
  unfold f451_j22
  rw [cond_false, cdn (by decide), decide_eq_true rfl]
  rfl
abbrev body (xs : List Ix) : List UInt8 := xs.flatMap (·.1)
theorem count_loop (K : Int) (b : List UInt8) (k0 : Nat) (hk0 : 12 ≤ k0) (r17 : Int × Int × Int × Int × Int) (a6 a7 : Int) : ∀ (xs : List Ix) (pre rest : List UInt8) (i left : Nat) (L : List (RT 5)) (k : Nat), b = pre ++ (body xs ++ rest) → (∀ x ∈ xs, Item K b x) →
    r17.1 = ((i + xs.length : Nat) : Int) → i + xs.length ≤ 1000000 → L.length + left ≤ 10000 → xs.length + 1 ≤ k →
    ∃ z, f452_l63 r17 (f451 k0) (ndl K) b nA a6 a7 2 k ((i : Nat) : Int) ((left : Nat) : Int) L [] ((pre.length : Nat) : Int) 0 = some z ∧
      (xs.length ≤ left → z = .b0 (((left - xs.length : Nat) : Int), L ++ xs.map (fun x => vI K x.2), [], (((pre ++ body xs).length : Nat) : Int), 0)) ∧ (left < xs.length → ∃ r, z = .r r ∧ r.1 = 5) := by
  intro xs
  induction xs with
  | nil =>
    intro pre rest i left L k hb hx hr hi hL hk
    obtain ⟨k, rfl⟩ : ∃ j, k = j + 1 := ⟨k - 1, by omega⟩
    refine ⟨_, by rw [f452_l63, cdn (by rw [hr]; simp)], fun _ => by simp [body], fun h => absurd h (by simp)⟩
  | cons x xs ih =>
    intro pre rest i left L k hb hx hr hi hL hk
    rw [List.length_cons] at hr hi hk
    obtain ⟨k, rfl⟩ : ∃ j, k = j + 1 := ⟨k - 1, by omega⟩
    rw [f452_l63, cdp (by rw [hr]; omega)]
    have step : f455v2 (f451 k0) k (ndl K) b ((pre.length : Nat) : Int) 0 ((left : Nat) : Int) nA a6 a7 L [] 2 = f455v2_j46 k (f451 k0) (ndl K) b ((left : Nat) : Int) nA 2 L [] [] ((pre.length : Nat) : Int) 0 := by
      unfold f455v2
      show cond (decide ((11 : Int) = 12)) _ _ = _
      rw [cdn (by decide)]
    show ∃ z, Option.bind (f455v2 (f451 k0) k (ndl K) b ((pre.length : Nat) : Int) 0 ((left : Nat) : Int) nA a6 a7 L [] 2) _ = some z ∧ _
    rw [step]
    unfold f455v2_j46
    show ∃ z, Option.bind (Option.bind (f451 k0 (ndl K) b ((pre.length : Nat) : Int) 0 ((left : Nat) : Int) 1 2) _) _ = some z ∧ _
    by_cases h0 : left = 0
    · obtain ⟨k0', rfl⟩ : ∃ j, k0 = j + 1 := ⟨k0 - 1, by omega⟩
      subst h0
      have e : f451 (k0' + 1) (ndl K) b ((pre.length : Nat) : Int) 0 ((0 : Nat) : Int) 1 2 = _ := item_lim K k0' b _
      rw [e, Option.bind_some]
      refine ⟨.r (5, 0, ((pre.length : Nat) : Int), 0, L, []), ?_, fun h => absurd h (by simp), fun _ => ⟨_, rfl, rfl⟩⟩
      show Option.bind (cond (decide ((5 : Int) ≠ 0)) _ _) _ = _
      rw [cdp (by decide), Option.bind_some]
      show cond (decide ((5 : Int) ≠ 0)) _ _ = _
      rw [cdp (by decide)]
    · have hb' : b = pre ++ (x.1 ++ (body xs ++ rest)) := by rw [hb]; simp [body]
      have it := hx x (List.mem_cons_self ..) pre (body xs ++ rest) k0 left hb' hk0 (by omega) (by omega)
      obtain ⟨z, z1, z2, z3⟩ := ih (pre ++ x.1) rest (i + 1) (left - 1) (L ++ [vI K x.2]) k (by rw [hb']; simp) (fun y hy => hx y (List.mem_cons_of_mem _ hy)) (by rw [hr]; omega) (by omega) (by rw [List.length_append, List.length_cons, List.length_nil]; omega) (by omega)
      rw [it, Option.bind_some]
      refine ⟨z, ?_, fun h => ?_, fun h => z3 (by rw [List.length_cons] at h; omega)⟩
      · show Option.bind (cond (decide ((0 : Int) ≠ 0)) _ (cond (decide ((11 : Int) = 12)) _ (f455v2_j115 k L _ []))) _ = _
        rw [cdn (by decide), cdn (by decide)]
        unfold f455v2_j115
        rw [gdp (by omega), Option.bind_some]
        show cond (decide ((0 : Int) ≠ 0)) _ (f452_l63 r17 (f451 k0) (ndl K) b nA a6 a7 2 k (IntKind.i64.wrap (((i : Nat) : Int) + 1)) ((left - 1 : Nat) : Int) (L ++ [vI K x.2]) [] (((pre ++ x.1).length : Nat) : Int) 0) = _
        rw [cdn (by decide), i64w (by omega)]
        exact z1
      · rw [List.length_cons] at h ⊢
        rw [z2 (by omega), show left - 1 - xs.length = left - (xs.length + 1) by omega]
        simp [body]
/-! ### blocks -/
abbrev Bl := Option Int × List Ix
def hd (q : Bl) : List UInt8 := match q.1 with
  | none => zc ((q.2.length : Nat) : Int)
  | some m => zc (-((q.2.length : Nat) : Int)) ++ zc m
def bT (q : Bl) : List UInt8 := hd q ++ body q.2
def szOk (q : Bl) : Bool := match q.1 with
  | none => true
  | some m => decide (m = (((body q.2).length : Nat) : Int))
def outc : List Bl → Nat → Int
  | [], _ => 0
  | q :: r, left => if left < q.2.length then 5 else if szOk q = false then 4 else outc r (left - q.2.length)
def tot (bs : List Bl) : Nat := (bs.map (·.2.length)).sum
def vals (K : Int) (bs : List Bl) : List (RT 5) := bs.flatMap fun q => q.2.map fun x => vI K x.2
def szI (q : Bl) : Int := match q.1 with
  | none => -1
  | some m => m
theorem head_at (K : Int) {b pre rest : List UInt8} (q : Bl) (left : Int) (hb : b = pre ++ (hd q ++ rest)) (hl : b.length ≤ 100000000) (h1 : 1 ≤ q.2.length ∧ q.2.length ≤ 1000000) (hm : ∀ m, q.1 = some m → 0 ≤ m ∧ m ≤ 1000000000) {k : Nat} (hk : 10 ≤ k) :
    f453 k (ndl K) b ((pre.length : Nat) : Int) 0 left = some (((q.2.length : Nat) : Int), szI q, 0, (((pre ++ hd q).length : Nat) : Int), 0) := by
  obtain ⟨s, xs⟩ := q
  simp only at h1 hm hb
  cases s with
  | none =>
    have hn := num_in (lo := -9223372036854775808) (hi := 9223372036854775807) (left := left) K (a := ((xs.length : Nat) : Int)) hb hl (by omega) (by omega) hk
    unfold f453
    rw [hn, Option.bind_some]
    show cond (decide ((0 : Int) ≠ 0)) _ (f453_j27 k _ (ndl K) b left (decide (((xs.length : Nat) : Int) ≥ 0))) = _
    rw [cdn (by decide), decide_eq_true (by omega)]
    rfl
  | some m =>
    have hm := hm m rfl
    have hb' : b = pre ++ (zc (-((xs.length : Nat) : Int)) ++ (zc m ++ rest)) := by rw [hb]; simp [hd]
    have hn := num_in (lo := -9223372036854775808) (hi := 9223372036854775807) (left := left) K (a := -((xs.length : Nat) : Int)) hb' hl (by omega) (by omega) hk
    have hb2 : b = (pre ++ zc (-((xs.length : Nat) : Int))) ++ (zc m ++ rest) := by rw [hb']; simp
    have hn2 := num_in (lo := 0) (hi := 9223372036854775807) (left := left) K (a := m) hb2 hl (by omega) (by omega) hk
    unfold f453
    rw [hn, Option.bind_some]
    show cond (decide ((0 : Int) ≠ 0)) _ (f453_j27 k _ (ndl K) b left (decide (-((xs.length : Nat) : Int) ≥ 0))) = _
    rw [cdn (by decide), decide_eq_false (by omega)]
    unfold f453_j27
    rw [cond_false]
    show Option.bind (f454 k (ndl K) b (((pre ++ zc (-((xs.length : Nat) : Int))).length : Nat) : Int) 0 left 0 9223372036854775807) _ = _
    rw [hn2, Option.bind_some]
    show cond (decide ((0 : Int) ≠ 0)) _ (cond (decide (-((xs.length : Nat) : Int) = -9223372036854775808)) _ (some (IntKind.i64.wrap (0 - -((xs.length : Nat) : Int)), m, 0, _, 0))) = _
    rw [cdn (by decide), cdn (by omega), i64w (by omega)]
    simp [hd, szI]
theorem zc0 : zc 0 = [0] := by
  unfold zc
  rw [show zg 0 = 0 from rfl, nb_lt (by omega)]
  rfl
theorem j101_eq (Lf : Int → (List (RT 5)) → (List (List UInt8)) → Int → Int → Option (LR2 (Int × Int × Int × (List (RT 5)) × (List (List UInt8))) Unit (Int × Int × Int × Int × (List (RT 5)) × (List (List UInt8))))) (k : Nat) (c sz p1 p2 left e2 : Int) (b : List UInt8) (LL : List (RT 5)) (ks : List (List UInt8)) (h : 0 ≤ p1 ∧ p1 ≤ p2 ∧ p2 ≤ ((b.length : Nat) : Int)) (hl : b.length ≤ 100000000) :
    f452_j101 Lf k (c, sz, 0, p1, 0) b left LL ks p2 e2 = if 0 ≤ sz ∧ sz ≠ p2 - p1 then some (.r (4, left, p2, e2, LL, ks)) else Lf left LL ks p2 e2 := by
  unfold f452_j101
  show cond (decide (sz ≥ 0)) (Option.bind (some ()) fun r113 => cond (decide (sz ≠ (IntKind.i64.wrap ((IntKind.i64.wrap (((b.length : Nat) : Int) - p1)) - (IntKind.i64.wrap (((b.length : Nat) : Int) - p2)))))) _ _) _ = _
  have hw : IntKind.i64.wrap ((IntKind.i64.wrap (((b.length : Nat) : Int) - p1)) - (IntKind.i64.wrap (((b.length : Nat) : Int) - p2))) = p2 - p1 := by
    rw [i64w (n := ((b.length : Nat) : Int) - p1) (by omega), i64w (n := ((b.length : Nat) : Int) - p2) (by omega), i64w (by omega)]
    omega
  rw [hw]
  by_cases h0 : sz ≥ 0
  · rw [cdp h0, Option.bind_some]
    by_cases h1 : sz ≠ p2 - p1
    · rw [cdp h1, if_pos ⟨h0, h1⟩]
    · rw [cdn h1, if_neg (fun h => h1 h.2)]
  · rw [cdn h0, if_neg (fun h => h0 h.1)]
theorem szOk_iff (q : Bl) (hm : ∀ m, q.1 = some m → 0 ≤ m ∧ m ≤ 1000000000) (x : Int) (hx : x = (((body q.2).length : Nat) : Int)) : (szOk q = false) ↔ (0 ≤ szI q ∧ szI q ≠ x) := by
  subst hx
  obtain ⟨s, xs⟩ := q
  cases s with
  | none => exact ⟨fun h => (by cases h), fun h => absurd h.1 (show ¬ (0 : Int) ≤ -1 by decide)⟩
  | some m =>
    have := hm m rfl
    show decide (m = (((body xs).length : Nat) : Int)) = false ↔ 0 ≤ m ∧ m ≠ (((body xs).length : Nat) : Int)
    rw [decide_eq_false_iff_not]
    exact ⟨fun h => ⟨this.1, h⟩, fun h => h.2⟩
theorem blocks_loop (K : Int) (b : List UInt8) (hl : b.length ≤ 100000000) (k0 : Nat) (hk0 : 12 ≤ k0) (a6 a7 : Int) : ∀ (bs : List Bl) (pre rest : List UInt8) (left : Nat) (L : List (RT 5)) (k : Nat), b = pre ++ (bs.flatMap bT ++ (0 :: rest)) →
    (∀ q ∈ bs, (∀ x ∈ q.2, Item K b x) ∧ (1 ≤ q.2.length ∧ q.2.length ≤ 1000000) ∧ ∀ m, q.1 = some m → 0 ≤ m ∧ m ≤ 1000000000) → L.length + left ≤ 10000 → bs.length + tot bs + 20 ≤ k →
    ∃ z, f452_l10 (ndl K) b (f451 k0) nA a6 a7 2 k ((left : Nat) : Int) L [] ((pre.length : Nat) : Int) 0 = some z ∧
      (outc bs left = 0 → z = .b0 (((left - tot bs : Nat) : Int), (((pre ++ bs.flatMap bT).length + 1 : Nat) : Int), 0, L ++ vals K bs, [])) ∧ (outc bs left ≠ 0 → ∃ r, z = .r r ∧ r.1 = outc bs left) := by
  intro bs
  induction bs with
  | nil =>
    intro pre rest left L k hb hx hL hk
    obtain ⟨k, rfl⟩ : ∃ j, k = j + 1 := ⟨k - 1, by omega⟩
    have hb' : b = pre ++ (zc 0 ++ rest) := by rw [hb, zc0]; rfl
    have hn := num_in (lo := -9223372036854775808) (hi := 9223372036854775807) (left := ((left : Nat) : Int)) K (a := 0) hb' hl (by omega) (by omega) (k := k) (by omega)
    have h3 : f453 k (ndl K) b ((pre.length : Nat) : Int) 0 ((left : Nat) : Int) = some (0, -1, 0, (((pre ++ zc 0).length : Nat) : Int), 0) := by
      unfold f453
      rw [hn, Option.bind_some]
      rfl
    refine ⟨LR2.b0 (((left : Nat) : Int), (((pre ++ zc 0).length : Nat) : Int), 0, L, []), ?_, fun _ => (by rw [zc0]; simp [tot, vals]), fun h => absurd rfl h⟩
    rw [f452_l10, h3, Option.bind_some]
    show cond (decide ((0 : Int) ≠ 0)) _ (cond (decide ((0 : Int) = 0)) (some (LR2.b0 (((left : Nat) : Int), _, 0, L, []))) _) = _
    rw [cdn (by decide), cdp rfl]
  | cons q bs ih =>
    intro pre rest left L k hb hx hL hk
    have ht : tot (q :: bs) = q.2.length + tot bs := by simp [tot]
    rw [List.length_cons, ht] at hk
    obtain ⟨k, rfl⟩ : ∃ j, k = j + 1 := ⟨k - 1, by omega⟩
    obtain ⟨hi, hn, hm⟩ := hx q (List.mem_cons_self ..)
    have hb1 : b = pre ++ (hd q ++ (body q.2 ++ (bs.flatMap bT ++ (0 :: rest)))) := by rw [hb]; simp [bT]
    have h3 := head_at K q ((left : Nat) : Int) hb1 hl hn hm (k := k) (by omega)
    have hb2 : b = (pre ++ hd q) ++ (body q.2 ++ (bs.flatMap bT ++ (0 :: rest))) := by rw [hb1]; simp
    obtain ⟨z, z1, z2, z3⟩ := count_loop K b k0 hk0 (((q.2.length : Nat) : Int), szI q, 0, (((pre ++ hd q).length : Nat) : Int), 0) a6 a7 q.2 (pre ++ hd q) _ 0 left L k hb2 hi (by simp) (by omega) hL (by omega)
    have z1 : f452_l63 (((q.2.length : Nat) : Int), szI q, 0, (((pre ++ hd q).length : Nat) : Int), 0) (f451 k0) (ndl K) b nA a6 a7 2 k 0 ((left : Nat) : Int) L [] (((pre ++ hd q).length : Nat) : Int) 0 = some z := z1
    rw [f452_l10, h3, Option.bind_some]
    show ∃ z, cond (decide ((0 : Int) ≠ 0)) _ (cond (decide (((q.2.length : Nat) : Int) = 0)) _ (Option.bind (f452_l63 (((q.2.length : Nat) : Int), szI q, 0, (((pre ++ hd q).length : Nat) : Int), 0) (f451 k0) (ndl K) b nA a6 a7 2 k 0 ((left : Nat) : Int) L [] (((pre ++ hd q).length : Nat) : Int) 0) _)) = some z ∧ _
    rw [cdn (by decide), cdn (by omega), z1, Option.bind_some]
    have ho : outc (q :: bs) left = if left < q.2.length then 5 else if szOk q = false then 4 else outc bs (left - q.2.length) := rfl
    by_cases h5 : left < q.2.length
    · obtain ⟨r, hr, hr5⟩ := z3 h5
      rw [hr, ho, if_pos h5]
      exact ⟨.r r, rfl, fun h => absurd h (by decide), fun _ => ⟨r, rfl, hr5⟩⟩
    · rw [z2 (by omega), ho, if_neg h5]
      obtain ⟨z', y1, y2, y3⟩ := ih (pre ++ bT q) rest (left - q.2.length) (L ++ q.2.map fun x => vI K x.2) k (by rw [hb]; simp) (fun p hp => hx p (List.mem_cons_of_mem _ hp)) (by rw [List.length_append, List.length_map]; omega) (by omega)
      have eb : pre ++ bT q = pre ++ hd q ++ body q.2 := by simp [bT]
      rw [eb] at y1
      obtain ⟨n1, hn1⟩ : ∃ n, n = (pre ++ hd q).length := ⟨_, rfl⟩
      obtain ⟨n2, hn2⟩ : ∃ n, n = (body q.2).length := ⟨_, rfl⟩
      obtain ⟨n3, hn3⟩ : ∃ n, n = (pre ++ hd q ++ body q.2).length := ⟨_, rfl⟩
      have e3 : n3 = n1 + n2 := by rw [hn1, hn2, hn3]; exact List.length_append
      have hlb : n3 ≤ b.length := by rw [hn3, hb2]; simp
      have hz := szOk_iff q hm ((n3 : Int) - (n1 : Int)) (by rw [← hn2]; omega)
      show ∃ z, f452_j101 (f452_l10 (ndl K) b (f451 k0) nA a6 a7 2 k) k (((q.2.length : Nat) : Int), szI q, 0, (((pre ++ hd q).length : Nat) : Int), 0) b ((left - q.2.length : Nat) : Int) (L ++ q.2.map fun x => vI K x.2) [] (((pre ++ hd q ++ body q.2).length : Nat) : Int) 0 = some z ∧ _
      rw [← hn3, ← hn1, j101_eq _ _ _ _ _ _ _ _ _ _ _ (by omega) hl]
      rw [← hn3] at y1
      cases hs : szOk q with
      | true =>
        rw [if_neg (show ¬ (true = false) by simp), if_neg (show ¬ (0 ≤ szI q ∧ szI q ≠ (n3 : Int) - (n1 : Int)) from fun h => by have := hz.2 h; rw [hs] at this; cases this)]
        refine ⟨z', y1, fun h => ?_, y3⟩
        rw [y2 h, ht]
        have a1 : left - q.2.length - tot bs = left - (q.2.length + tot bs) := by omega
        have a2 : pre ++ bT q ++ bs.flatMap bT = pre ++ (q :: bs).flatMap bT := by simp
        have a3 : (L ++ q.2.map fun x => vI K x.2) ++ vals K bs = L ++ vals K (q :: bs) := by simp [vals]
        rw [a1, a2, a3]
      | false =>
        rw [if_pos (show false = false from rfl), if_pos (hz.1 hs)]
        exact ⟨_, rfl, fun h => absurd h (by decide), fun _ => ⟨_, rfl, rfl⟩⟩
/-- the whole is read -/
theorem decode_at (K : Int) (bs : List Bl) (b : List UInt8) (hb : b = bs.flatMap bT ++ [0]) (hl : b.length ≤ 100000000) (hx : ∀ q ∈ bs, (∀ x ∈ q.2, Item K b x) ∧ (1 ≤ q.2.length ∧ q.2.length ≤ 1000000) ∧ ∀ m, q.1 = some m → 0 ≤ m ∧ m ≤ 1000000000) (k : Nat) (hk : bs.length + tot bs + 40 ≤ k) :
    f449 k (TSchema.mk (ndl K)) b = some (if outc bs 9999 = 0 then (0, 11, 0, [], vals K bs, []) else (outc bs 9999, 0, 0, [], [], [])) := by
  obtain ⟨k, rfl⟩ : ∃ j, k = j + 1 := ⟨k - 1, by omega⟩
  obtain ⟨z, z1, z2, z3⟩ := blocks_loop K b hl k (by omega) 11 0 bs [] [] 9999 [] k (by rw [hb]; rfl) hx (by simp) (by omega)
  have z1 : f452_l10 (ndl K) b (f451 k) nA 11 0 2 k 9999 [] [] 0 0 = some z := z1
  have top : f451 (k + 1) (ndl K) b 0 0 10000 0 1 = (f452 (f451 k) k (ndl K) b 0 0 9999 nA 11 0 2).bind fun r112 => f451_j245 k r112.1 11 (0 : Int) ([] : List UInt8) r112.2.2.2.2.1 r112.2.2.2.2.2 r112.2.1 r112.2.2.1 r112.2.2.2.1 := by
    rw [f451]
    rfl
  have h30 : f30 (k + 1) b = some () := by unfold f30; rw [gdp (by omega)]
  have hbl : b.length = (bs.flatMap bT).length + 1 := by rw [hb]; simp
  by_cases ho : outc bs 9999 = 0
  · have h2 := z2 ho
    rw [List.nil_append, List.nil_append, ← hbl] at h2
    have t2 : f451 (k + 1) (ndl K) b 0 0 10000 0 1 = some (0, 11, 0, [], vals K bs, [], ((9999 - tot bs : Nat) : Int), ((b.length : Nat) : Int), 0) := by
      rw [top]
      unfold f452
      rw [z1, h2]
      rfl
    have hw : IntKind.i64.wrap (((b.length : Nat) : Int) - IntKind.i64.wrap (((b.length : Nat) : Int) - ((b.length : Nat) : Int))) = ((b.length : Nat) : Int) := by
      rw [i64w (n := ((b.length : Nat) : Int) - ((b.length : Nat) : Int)) (by omega), i64w (by omega)]
      omega
    have t3 : f450 (k + 1) (TSchema.mk (ndl K)) b = some (((b.length : Nat) : Int), 0, 11, 0, [], vals K bs, []) := by
      unfold f450
      rw [h30, Option.bind_some, t2, Option.bind_some]
      dsimp only
      rw [cdn (by decide)]
      unfold f32
      rw [Option.bind_some, hw]
    unfold f449
    rw [t3, Option.bind_some]
    dsimp only
    rw [cdn (by decide), cdn (by omega), if_pos ho]
  · obtain ⟨r, hr, hr1⟩ := z3 ho
    have t2 : ∃ x y w, f451 (k + 1) (ndl K) b 0 0 10000 0 1 = some (outc bs 9999, 0, 0, [], [], [], x, y, w) := by
      rw [top]
      unfold f452
      rw [z1, hr]
      refine ⟨r.2.1, r.2.2.1, r.2.2.2.1, ?_⟩
      show f451_j245 k r.1 11 (0 : Int) ([] : List UInt8) r.2.2.2.2.1 r.2.2.2.2.2 r.2.1 r.2.2.1 r.2.2.2.1 = _
      unfold f451_j245
      rw [hr1, cdp ho]
    obtain ⟨x, y, w, t2⟩ := t2
    have t3 : f450 (k + 1) (TSchema.mk (ndl K)) b = some (0, outc bs 9999, 0, 0, [], [], []) := by
      unfold f450
      rw [h30, Option.bind_some, t2, Option.bind_some]
      dsimp only
      rw [cdp ho]
    unfold f449
    rw [t3, Option.bind_some]
    dsimp only
    rw [cdp ho, if_neg ho]
end Go.Proofs.Abs
