/- CodecBlocks: an array's items in whatever blocks are the same array. -/
import Derived.Test.YtlpffigmcnahcaaDoorPC4
set_option linter.unusedSimpArgs false
namespace Go.Proofs.Abs
open Go
set_option linter.unusedVariables false
set_option maxRecDepth 100000
def inI (a : Int) : Prop := -9223372036854775808 ≤ a ∧ a ≤ 9223372036854775807
def zi (a : Int) : Ix := (zc a, a)
theorem zc_len {a : Int} (h : inI a) : (zc a).length ≤ 10 := nb_len10 (zg_lt h)
theorem body_len : ∀ l : List Int, (∀ a ∈ l, inI a) → (body (l.map zi)).length ≤ 10 * l.length
  | [], _ => Nat.le_refl _
  | a :: l, h => by
    have := body_len l fun x hx => h x (List.mem_cons_of_mem _ hx)
    have := zc_len (h a (List.mem_cons_self ..))
    have e : body ((a :: l).map zi) = zc a ++ body (l.map zi) := rfl
    rw [e, List.length_append, List.length_cons]
    omega
theorem zig_r {a : Int} (h : inI a) {k : Nat} (hk : 10 ≤ k) : f26 k a = some (zc a) := zig_ref h hk
theorem block_loop (a0 : List Int) (h0 : ∀ a ∈ a0, inI a) (hl : a0.length ≤ 300) (s j E : Int) (hE : s + j = E) : ∀ (rest P tl : List Int) (y : List UInt8) (K : Nat), a0 = P ++ (rest ++ tl) → E = ((P.length + rest.length : Nat) : Int) → y.length + 10 * rest.length ≤ 100000 → rest.length + 20 ≤ K →
    f458_l100 s j a0 K y ((P.length : Nat) : Int) = some (.b0 (y ++ body (rest.map zi))) := by
  intro rest
  induction rest with
  | nil =>
    intro P tl y K e hEE hy hK
    obtain ⟨K, rfl⟩ : ∃ i, K = i + 1 := ⟨K - 1, by omega⟩
    have : P.length ≤ 300 := by have := congrArg List.length e; simp at this; omega
    rw [List.length_nil] at hEE
    rw [f458_l100, hE, i64w (by omega), cdn (by omega)]
    simp [body]
  | cons a r ih =>
    intro P tl y K e hEE hy hK
    rw [List.length_cons] at hEE hy hK
    obtain ⟨K, rfl⟩ : ∃ i, K = i + 1 := ⟨K - 1, by omega⟩
    have hlen : a0.length = P.length + (r.length + 1 + tl.length) := by rw [e]; simp; omega
    have hrd : rd a0 ((P.length : Nat) : Int) = a := by rw [e]; exact rd_mid
    have ha : inI a := h0 a (by rw [e]; simp)
    have := zc_len ha
    rw [f458_l100, hE, i64w (n := E) (by omega), cdp (by omega), gdp (by omega), hrd, zig_r ha (by omega), Option.bind_some, gdp (by omega), i64w (by omega)]
    have := ih (P ++ [a]) tl (y ++ zc a) K (by rw [e]; simp) (by rw [hEE, List.length_append, List.length_cons, List.length_nil]; omega) (by rw [List.length_append]; omega) (by omega)
    rw [List.length_append] at this
    refine this.trans ?_
    simp [body, zi]
structure Inv (bs : List Bl) (dn : List Int) (sp : Bool) : Prop where
  its : bs.flatMap (·.2) = dn.map zi
  ok : ∀ q ∈ bs, (1 ≤ q.2.length ∧ q.2.length ≤ 1000000) ∧ ∀ m, q.1 = some m → 0 ≤ m ∧ m ≤ 1000000000
  sp : sp = bs.any fun q => !szOk q
  len : (bs.flatMap bT).length ≤ 30 * dn.length
theorem Inv.add {bs : List Bl} {dn l : List Int} {sp : Bool} (h : Inv bs dn sp) (hl : 1 ≤ l.length ∧ l.length ≤ 300) (hi : ∀ a ∈ l, inI a) (s : Option Int) (hs : ∀ m, s = some m → 0 ≤ m ∧ m ≤ 1000000) : Inv (bs ++ [(s, l.map zi)]) (dn ++ l) (sp || !szOk (s, l.map zi)) := by
  refine ⟨by rw [List.flatMap_append, h.its]; simp, fun q hq => ?_, by rw [List.any_append, ← h.sp]; simp, ?_⟩
  · rcases List.mem_append.1 hq with hq | hq
    · exact h.ok q hq
    · rw [List.mem_singleton.1 hq]
      exact ⟨by rw [List.length_map]; omega, fun m hm => by have := hs m hm; omega⟩
  · have hb := body_len l hi
    have hh : (hd (s, l.map zi)).length ≤ 20 := by
      unfold hd
      cases s with
      | none => exact Nat.le_trans (zc_len (by rw [List.length_map]; unfold inI; omega)) (by decide)
      | some m =>
        have := hs m rfl
        have h1 := zc_len (a := -(((l.map zi).length : Nat) : Int)) (by rw [List.length_map]; unfold inI; omega)
        have h2 := zc_len (a := m) (by unfold inI; omega)
        simp only [List.length_append]
        omega
    have := h.len
    rw [List.flatMap_append, List.length_append, List.length_append]
    have e : (List.flatMap bT [(s, l.map zi)]).length = (hd (s, l.map zi)).length + (body (l.map zi)).length := by simp [bT]
    omega
theorem outer_loop (a0 a1 : List Int) (a2 : List Bool) (a3 : Int) (h0 : ∀ a ∈ a0, inI a) (hl : a0.length ≤ 300) : ∀ (N : Nat) (todo dn : List Int) (bs : List Bl) (sp : Bool) (j K : Nat), todo.length ≤ N → a0 = dn ++ todo → Inv bs dn sp → j ≤ dn.length → todo.length + 400 ≤ K →
    ∃ bs' sp', f458_l44 a0 a1 a2 a3 K (bs.flatMap bT) sp ((dn.length : Nat) : Int) ((j : Nat) : Int) = some (.b0 (bs'.flatMap bT, sp')) ∧ Inv bs' a0 sp' := by
  intro N
  induction N with
  | zero =>
    intro todo dn bs sp j K hN e hI hj hK
    obtain ⟨K, rfl⟩ : ∃ i, K = i + 1 := ⟨K - 1, by omega⟩
    have ht : todo = [] := List.length_eq_zero_iff.1 (by omega)
    have e' : a0 = dn := by rw [e, ht, List.append_nil]
    refine ⟨bs, sp, ?_, by rw [e']; exact hI⟩
    rw [f458_l44, cdn (by rw [e']; omega)]
  | succ N ihN =>
    intro todo dn bs sp j K hN e hI hj hK
    obtain ⟨K, rfl⟩ : ∃ i, K = i + 1 := ⟨K - 1, by omega⟩
    have hlen : a0.length = dn.length + todo.length := by rw [e]; simp
    by_cases ht : todo.length = 0
    · have ht : todo = [] := List.length_eq_zero_iff.1 ht
      have e' : a0 = dn := by rw [e, ht, List.append_nil]
      refine ⟨bs, sp, ?_, by rw [e']; exact hI⟩
      rw [f458_l44, cdn (by rw [e']; omega)]
    · -- with a block of n
      have go : ∀ n : Nat, 1 ≤ n → n ≤ todo.length → ∃ bs' sp', f458_j90 (f458_l44 a0 a1 a2 a3 K) K ((dn.length : Nat) : Int) a0 ((j : Nat) : Int) a2 a3 (bs.flatMap bT) sp ((n : Nat) : Int) = some (.b0 (bs'.flatMap bT, sp')) ∧ Inv bs' a0 sp' := by
        intro n n1 n2
        obtain ⟨l, hl0⟩ : ∃ l, l = todo.take n := ⟨_, rfl⟩
        have hll : l.length = n := by rw [hl0, List.length_take]; omega
        have et : todo = l ++ todo.drop n := by rw [hl0, List.take_append_drop]
        have hil : ∀ a ∈ l, inI a := fun a ha => h0 a (by rw [e, et]; simp [ha])
        have hin : ∀ a ∈ a0, inI a := h0
        have hbl := block_loop a0 h0 hl ((dn.length : Nat) : Int) ((n : Nat) : Int) _ rfl l dn (todo.drop n) [] K (by rw [e]; exact congrArg _ et) (by rw [hll]; omega) (by rw [List.length_nil]; omega) (by omega)
        rw [List.nil_append] at hbl
        have hb := body_len l hil
        have hbt := hI.len
        -- behind the block's bytes
        have nxt : ∀ (s : Option Int) (hs : ∀ m, s = some m → 0 ≤ m ∧ m ≤ 1000000) (sp' : Bool), sp' = (sp || !szOk (s, l.map zi)) →
            ∃ bs' sp'', f458_j189 (f458_l44 a0 a1 a2 a3 K) K (body (l.map zi)) ((dn.length : Nat) : Int) ((n : Nat) : Int) ((j : Nat) : Int) (bs.flatMap bT ++ hd (s, l.map zi)) sp' = some (.b0 (bs'.flatMap bT, sp'')) ∧ Inv bs' a0 sp'' := by
          intro s hs sp' hsp
          have hI' := hI.add (l := l) (by omega) hil s hs
          rw [← hsp] at hI'
          have hl' := hI'.len
          have e1 : (bs ++ [(s, l.map zi)]).flatMap bT = bs.flatMap bT ++ hd (s, l.map zi) ++ body (l.map zi) := by simp [bT]
          obtain ⟨bs', sp'', q1, q2⟩ := ihN (todo.drop n) (dn ++ l) (bs ++ [(s, l.map zi)]) sp' (j + 1) K (by rw [List.length_drop]; omega) (by rw [e, List.append_assoc, ← et]) hI' (by rw [List.length_append]; omega) (by rw [List.length_drop]; omega)
          refine ⟨bs', sp'', ?_, q2⟩
          unfold f458_j189
          rw [e1] at q1 hl'
          rw [List.length_append] at q1
          rw [List.length_append (bs := body (l.map zi)), List.length_append (bs := l)] at hl'
          rw [gdp (by omega), i64w (n := ((dn.length : Nat) : Int) + ((n : Nat) : Int)) (by omega), i64w (n := ((j : Nat) : Int) + 1) (by omega), show ((dn.length : Nat) : Int) + ((n : Nat) : Int) = ((dn.length + l.length : Nat) : Int) by omega]
          exact q1
        have none_case : ∃ bs' sp', Option.bind (f26 K ((n : Nat) : Int)) (fun r186 => gd (((bs.flatMap bT).length + r186.length) * 2 * 1 ≤ 281474976710656) (f458_j189 (f458_l44 a0 a1 a2 a3 K) K (body (l.map zi)) ((dn.length : Nat) : Int) ((n : Nat) : Int) ((j : Nat) : Int) (bs.flatMap bT ++ r186) sp)) = some (.b0 (bs'.flatMap bT, sp')) ∧ Inv bs' a0 sp' := by
          have hz := zc_len (a := ((n : Nat) : Int)) (by unfold inI; omega)
          obtain ⟨bs', sp', q1, q2⟩ := nxt none (fun m h => by cases h) sp (by simp [szOk])
          refine ⟨bs', sp', ?_, q2⟩
          rw [zig_r (a := ((n : Nat) : Int)) (by unfold inI; omega) (by omega), Option.bind_some, gdp (by omega)]
          have e2 : hd (none, l.map zi) = zc ((n : Nat) : Int) := by unfold hd; rw [List.length_map, hll]
          rw [e2] at q1
          exact q1
        have some_case : ∀ (off : Nat), off ≤ 1 → ∀ sp' : Bool, sp' = (sp || decide (off = 1)) → ∃ bs' sp'', f458_j163 (f458_l44 a0 a1 a2 a3 K) K ((n : Nat) : Int) (bs.flatMap bT) (body (l.map zi)) ((dn.length : Nat) : Int) ((j : Nat) : Int) ((off : Nat) : Int) sp' = some (.b0 (bs'.flatMap bT, sp'')) ∧ Inv bs' a0 sp'' := by
          intro off ho sp' hsp
          obtain ⟨bs', sp'', q1, q2⟩ := nxt (some (((body (l.map zi)).length : Nat) + ((off : Nat) : Int))) (fun m h => by cases h; omega) sp' (by
            rw [hsp]
            congr 1
            have h2 : szOk (some (((body (l.map zi)).length : Nat) + ((off : Nat) : Int)), l.map zi) = decide ((((body (l.map zi)).length : Nat) : Int) + ((off : Nat) : Int) = (((body (l.map zi)).length : Nat) : Int)) := rfl
            rw [h2]
            by_cases h1 : off = 1
            · rw [decide_eq_true h1, decide_eq_false (by omega)]; rfl
            · rw [decide_eq_false h1, decide_eq_true (by omega)]; rfl)
          refine ⟨bs', sp'', ?_, q2⟩
          have hz1 := zc_len (a := -((n : Nat) : Int)) (by unfold inI; omega)
          have hz2 := zc_len (a := (((body (l.map zi)).length : Nat) : Int) + ((off : Nat) : Int)) (by unfold inI; omega)
          unfold f458_j163
          rw [i64w (n := 0 - ((n : Nat) : Int)) (by omega), show (0 : Int) - ((n : Nat) : Int) = -((n : Nat) : Int) by omega, zig_r (a := -((n : Nat) : Int)) (by unfold inI; omega) (by omega), Option.bind_some, gdp (by omega), i64w (n := (((body (l.map zi)).length : Nat) : Int) + ((off : Nat) : Int)) (by omega), zig_r (a := (((body (l.map zi)).length : Nat) : Int) + ((off : Nat) : Int)) (by unfold inI; omega) (by omega), Option.bind_some, gdp (by rw [List.length_append]; omega)]
          have e2 : bs.flatMap bT ++ hd (some (((body (l.map zi)).length : Nat) + ((off : Nat) : Int)), l.map zi) = bs.flatMap bT ++ zc (-((n : Nat) : Int)) ++ zc ((((body (l.map zi)).length : Nat) : Int) + ((off : Nat) : Int)) := by unfold hd; simp only; rw [List.length_map, hll, List.append_assoc]
          rw [e2] at q1
          exact q1
        have j145 : ∀ q : Bool, ∃ bs' sp', f458_j145 (f458_l44 a0 a1 a2 a3 K) K a3 ((n : Nat) : Int) (bs.flatMap bT) (body (l.map zi)) ((dn.length : Nat) : Int) ((j : Nat) : Int) sp q = some (.b0 (bs'.flatMap bT, sp')) ∧ Inv bs' a0 sp' := by
          intro q
          unfold f458_j145
          cases q with
          | false => rw [cond_false]; exact none_case
          | true =>
            rw [cond_true]
            by_cases h9 : Int.tmod a3 9 = 1
            · rw [cdp h9]; exact some_case 1 (Nat.le_refl _) true (by simp)
            · rw [cdn h9]; exact some_case 0 (by omega) sp (by simp)
        unfold f458_j90
        rw [hbl, Option.bind_some]
        show ∃ bs' sp', f458_j131 (f458_l44 a0 a1 a2 a3 K) K ((j : Nat) : Int) a2 a3 ((n : Nat) : Int) (bs.flatMap bT) ((dn.length : Nat) : Int) sp (body (l.map zi)) = _ ∧ _
        unfold f458_j131
        by_cases hj2 : ((j : Nat) : Int) < ((a2.length : Nat) : Int)
        · rw [cdp hj2, gdp (by omega)]; exact j145 _
        · rw [cdn hj2]; exact j145 _
      rw [f458_l44, cdp (by omega)]
      have hT : IntKind.i64.wrap (((a0.length : Nat) : Int) - ((dn.length : Nat) : Int)) = ((todo.length : Nat) : Int) := by
        rw [i64w (by omega)]; omega
      rw [hT]
      by_cases hj1 : ((j : Nat) : Int) < ((a1.length : Nat) : Int)
      · have hu : IntKind.u64.wrap ((todo.length : Nat) : Int) = ((todo.length : Nat) : Int) := u64w (by omega)
        rw [cdp hj1, gdp (by omega), hu, gdp (by omega)]
        have hw : 0 ≤ IntKind.u64.wrap (rd a1 ((j : Nat) : Int)) := by
          simp only [IntKind.wrap, IntKind.signed, IntKind.bits]
          simp
          omega
        obtain ⟨x, hx, hxl⟩ : ∃ x : Nat, Int.tmod (IntKind.u64.wrap (rd a1 ((j : Nat) : Int))) ((todo.length : Nat) : Int) = (x : Int) ∧ x < todo.length := by
          have h1 := Int.tmod_eq_emod_of_nonneg (b := ((todo.length : Nat) : Int)) hw
          have h2 := Int.emod_nonneg (IntKind.u64.wrap (rd a1 ((j : Nat) : Int))) (b := ((todo.length : Nat) : Int)) (by omega)
          have h3 := Int.emod_lt_of_pos (IntKind.u64.wrap (rd a1 ((j : Nat) : Int))) (b := ((todo.length : Nat) : Int)) (by omega)
          exact ⟨(Int.emod (IntKind.u64.wrap (rd a1 ((j : Nat) : Int))) ((todo.length : Nat) : Int)).toNat, by rw [h1]; exact (Int.toNat_of_nonneg h2).symm, by have := Int.toNat_of_nonneg h2; show Int.toNat (IntKind.u64.wrap (rd a1 ((j : Nat) : Int)) % ((todo.length : Nat) : Int)) < _; omega⟩
        rw [hx, i64w (n := (x : Int)) (by omega), i64w (n := 1 + (x : Int)) (by omega), show 1 + (x : Int) = ((x + 1 : Nat) : Int) by omega]
        exact go (x + 1) (by omega) (by omega)
      · rw [cdn hj1]
        exact go todo.length (by omega) (Nat.le_refl _)
theorem outc_small : ∀ (bs : List Bl) (left : Nat), tot bs ≤ left → outc bs left = if (bs.any fun q => !szOk q) = true then 4 else 0
  | [], left, h => rfl
  | q :: bs, left, h => by
    have ht : tot (q :: bs) = q.2.length + tot bs := by simp [tot]
    rw [ht] at h
    have := outc_small bs (left - q.2.length) (by omega)
    unfold outc
    rw [if_neg (by omega), this, List.any_cons]
    cases szOk q <;> rfl
theorem tot_eq (bs : List Bl) : tot bs = (bs.flatMap (·.2)).length := by
  rw [List.length_flatMap]
  rfl
theorem vals_eq (K : Int) (bs : List Bl) : vals K bs = (bs.flatMap (·.2)).map fun x => vI K x.2 := by
  unfold vals
  rw [List.map_flatMap]
theorem last_l (a0 : List Int) (hl : a0.length ≤ 300) (r : Int × Int × Int × (List UInt8) × (List (RT 5)) × (List (List UInt8))) (hr : r.2.2.2.2.1 = a0.map (vI 4)) : ∀ (rest pre : List Int) (K : Nat), a0 = pre ++ rest → rest.length + 1 ≤ K → f458_l273 a0 r K ((pre.length : Nat) : Int) = some (.b0 ()) := by
  have hrl : r.2.2.2.2.1.length = a0.length := by rw [hr, List.length_map]
  intro rest
  induction rest with
  | nil =>
    intro pre K e hK
    obtain ⟨K, rfl⟩ : ∃ i, K = i + 1 := ⟨K - 1, by omega⟩
    rw [f458_l273, cdn (by rw [e]; simp)]
  | cons a t ih =>
    intro pre K e hK
    rw [List.length_cons] at hK
    obtain ⟨K, rfl⟩ : ∃ i, K = i + 1 := ⟨K - 1, by omega⟩
    have hlen : a0.length = pre.length + (t.length + 1) := by rw [e]; simp
    have h1 : rd a0 ((pre.length : Nat) : Int) = a := by rw [e]; exact rd_mid
    have h2 : rd r.2.2.2.2.1 ((pre.length : Nat) : Int) = vI 4 a := by
      rw [hr, e, List.map_append, List.map_cons]
      have := rd_mid (pre := pre.map (vI 4)) (x := vI 4 a) (rest := t.map (vI 4))
      rwa [List.length_map] at this
    rw [f458_l273, cdp (by omega), gdp (by omega), h2]
    unfold vI
    rw [TValue.dec_of, Option.bind_some, gdp (by omega), h1]
    show cond (decide (a ≠ a)) _ _ = _
    rw [cdn (fun h => h rfl), i64w (by omega)]
    have := ih (pre ++ [a]) K (by rw [e]; simp) (by omega)
    rw [List.length_append] at this
    exact this
theorem awake08 (k : Nat) : f459 (k + 40) = some true := by kernel_rfl
theorem law_CodecBlocks (a0 a1 : List Int) (a2 : List Bool) (a3 : Int) (w0 : ∀ e0 ∈ a0, (-9223372036854775808 ≤ e0 ∧ e0 ≤ 9223372036854775807)) (w1 : ∀ e0 ∈ a1, (-9223372036854775808 ≤ e0 ∧ e0 ≤ 9223372036854775807)) (w2 : ∀ e0 ∈ a2, True) (w3 : -9223372036854775808 ≤ a3 ∧ a3 ≤ 9223372036854775807)
    (hb : ((a0.map (fun _ => 1)).sum + 1) + ((a1.map (fun _ => 1)).sum + 1) + ((a2.map (fun _ => 1)).sum + 1) + 1 ≤ 1048576) : ∃ k, f458 k a0 a1 a2 a3 = some true := by
  refine ⟨1000, ?_⟩
  have ha : f459 1000 = some true := awake08 960
  unfold f458
  rw [ha]
  by_cases h : ((a0.length : Nat) : Int) > 300
  · rw [cdp h]
    rfl
  · rw [cdn h]
    have hl : a0.length ≤ 300 := by omega
    obtain ⟨bs, sp, q1, q2⟩ := outer_loop a0 a1 a2 a3 w0 hl a0.length a0 [] [] false 0 1000 (Nat.le_refl _) rfl ⟨rfl, by simp, rfl, by simp⟩ (by simp) (by omega)
    have q1 : f458_l44 a0 a1 a2 a3 1000 [] false 0 0 = some (.b0 (bs.flatMap bT, sp)) := q1
    rw [q1, Option.bind_some]
    show f458_j207 1000 a0 (bs.flatMap bT) sp = _
    have hlen := q2.len
    have htot : tot bs = a0.length := by rw [tot_eq, q2.its, List.length_map]
    have hbl : bs.length ≤ tot bs := by
      have : ∀ l : List Bl, (∀ q ∈ l, 1 ≤ q.2.length) → l.length ≤ tot l := by
        intro l
        induction l with
        | nil => intro _; exact Nat.zero_le _
        | cons q l ih =>
          intro h
          have := ih fun p hp => h p (List.mem_cons_of_mem _ hp)
          have := h q (List.mem_cons_self ..)
          have ht : tot (q :: l) = q.2.length + tot l := by simp [tot]
          rw [ht, List.length_cons]
          omega
      exact this bs fun q hq => (q2.ok q hq).1.1
    have hB : (bs.flatMap bT ++ [0]).length ≤ 100000000 := by rw [List.length_append, List.length_cons, List.length_nil]; omega
    have hd := decide_eq_true (p := True) trivial
    have dec := decode_at 4 bs (bs.flatMap bT ++ [0]) rfl hB (fun q hq => ⟨fun x hx => by
      have : x ∈ bs.flatMap (·.2) := List.mem_flatMap.2 ⟨q, hq, hx⟩
      rw [q2.its] at this
      obtain ⟨a, ha, rfl⟩ := List.mem_map.1 this
      exact item_long _ a hB (w0 a ha), q2.ok q hq⟩) 1000 (by omega)
    unfold f458_j207
    rw [gdp (by rw [List.length_cons, List.length_nil]; omega)]
    show Option.bind (f449 1000 (TSchema.mk (ndl 4)) (bs.flatMap bT ++ [0])) _ = _
    rw [dec, Option.bind_some, ha, outc_small bs 9999 (by omega), ← q2.sp]
    cases sp with
    | true =>
      have e4 : (if true = true then (4 : Int) else 0) = 4 := rfl
      rw [e4, if_neg (by decide)]
      rfl
    | false =>
      have e0 : (if false = true then (4 : Int) else 0) = 0 := rfl
      rw [e0, if_pos rfl]
      have hv : vals 4 bs = a0.map (vI 4) := by
        rw [vals_eq, q2.its, List.map_map]
        rfl
      show cond (decide ((0 : Int) ≠ 0)) _ (cond (decide ((((vals 4 bs).length : Nat) : Int) ≠ ((a0.length : Nat) : Int))) _ (Option.bind (f458_l273 a0 (0, 11, 0, [], vals 4 bs, []) 1000 0) _)) = _
      have hll := last_l a0 hl (0, 11, 0, [], vals 4 bs, []) hv a0 [] 1000 rfl (by omega)
      have hll : f458_l273 a0 (0, 11, 0, [], vals 4 bs, []) 1000 0 = some (.b0 ()) := hll
      rw [cdn (by decide), cdn (by rw [hv, List.length_map]; simp), hll]
      rfl
end Go.Proofs.Abs
