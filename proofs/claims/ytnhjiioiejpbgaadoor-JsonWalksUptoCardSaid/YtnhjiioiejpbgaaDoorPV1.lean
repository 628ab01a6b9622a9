/- JsonWalks: walked through, all values come, in order, with their depths; told to stop it stops; as often as one likes. -/
import Derived.Test.YtnhjiioiejpbgaaDoorPR1
import Derived.Test.YtnhjiioiejpbgaaDoorPU8j
set_option linter.unusedSimpArgs false
namespace Go.Proofs.Abs
open Go
set_option linter.unusedVariables false
set_option maxRecDepth 100000
theorem same_loop (a : List (List UInt8)) (hb : a.length ≤ 1000000) : ∀ (rest pre : List (List UInt8)) (K : Nat), a = pre ++ rest → rest.length + 1 ≤ K → f435_l26 a a K ((pre.length : Nat) : Int) = some (.b0 ()) := by
  intro rest
  induction rest with
  | nil =>
    intro pre K e hK
    obtain ⟨K, rfl⟩ : ∃ j, K = j + 1 := ⟨K - 1, by omega⟩
    rw [f435_l26, cdn (by rw [e]; simp)]
  | cons x t ih =>
    intro pre K e hK
    rw [List.length_cons] at hK
    obtain ⟨K, rfl⟩ : ∃ j, K = j + 1 := ⟨K - 1, by omega⟩
    have hl : a.length = pre.length + (t.length + 1) := by rw [e]; simp
    rw [f435_l26, cdp (by omega), gdp (by omega), gdp (by omega)]
    show Option.bind (some ()) _ = _
    rw [Option.bind_some, decide_eq_true rfl]
    show cond false _ _ = _
    rw [cond_false, i64w (by omega)]
    have := ih (pre ++ [x]) K (by rw [e]; simp) (by omega)
    simpa using this
theorem same_at (K : Nat) (a : List (List UInt8)) (hb : a.length ≤ 1000000) (hK : a.length + 1 ≤ K) : f434 K a a = some true := by
  unfold f434 f435
  rw [cdn (by simp)]
  have := same_loop a hb a [] K rfl hK
  show Option.bind (Option.bind (f435_l26 a a K (((([] : List (List UInt8)).length : Nat)) : Int)) _) _ = _
  rw [this]
  rfl
theorem own_v (v : TJson) (hw : TJson.Wf v) : ∀ K, jbk v + 10 ≤ K → jbk v ≤ 1048576 → f441 K v = some (v.fL, v.fKeys) := by
  induction hw with
  | mk v us hk hfl hw ih =>
    intro K hK hv
    obtain ⟨K, rfl⟩ : ∃ j, K = j + 1 := ⟨K - 1, by omega⟩
    have hb := jbk_eq v us hfl
    obtain ⟨s1, s2⟩ := sum_ge us
    obtain ⟨k1, k2⟩ := keys_ge v.fKeys
    have hl : v.fL.length = us.length := by rw [hfl, List.length_map]
    have loop : ∀ (rest pre : List TJson) (J : Nat), us = pre ++ rest → rest.length + 1 ≤ J → f441_l26 v (f441 K) J (pre.map (RT.of TJson.ok)) ((pre.length : Nat) : Int) = some (.b0 (us.map (RT.of TJson.ok))) := by
      intro rest
      induction rest with
      | nil =>
        intro pre J e hJ
        obtain ⟨J, rfl⟩ : ∃ j, J = j + 1 := ⟨J - 1, by omega⟩
        have e' : us = pre := by rw [e]; simp
        rw [f441_l26, cdn (by rw [hl, e']; omega), e']
      | cons u t iht =>
        intro pre J e hJ
        rw [List.length_cons] at hJ
        obtain ⟨J, rfl⟩ : ∃ j, J = j + 1 := ⟨J - 1, by omega⟩
        have hlen : us.length = pre.length + (t.length + 1) := by rw [e]; simp
        have hu : u ∈ us := by rw [e]; simp
        have hs := s2 u hu
        have hi := ih u hu K (by omega) (by omega)
        rw [f441_l26, cdp (by omega), gdp (by omega), part_at v pre t u (by rw [hfl, e]), Option.bind_some]
        show Option.bind (f441 K u) _ = _
        rw [hi, Option.bind_some, gdp (by simp; omega), i64w (by omega)]
        have := iht (pre ++ [u]) J (by rw [e]; simp) (by omega)
        rw [List.length_append, List.map_append] at this
        exact this
    have lp := loop us [] K rfl (by omega)
    have lp : f441_l26 v (f441 K) K [] 0 = some (.b0 (us.map (RT.of TJson.ok))) := lp
    have h42 : f442 K v.fKeys = some v.fKeys := by unfold f442; rw [gdp (by omega)]
    rw [f441]
    unfold f441_s
    rw [h42, Option.bind_some, lp, hfl]
    rfl
theorem rt_inj : ∀ a b : List TJson, a.map (RT.of TJson.ok) = b.map (RT.of TJson.ok) → a = b
  | [], [], _ => rfl
  | [], _ :: _, h => by cases h
  | _ :: _, [], h => by cases h
  | x :: a, y :: b, h => by
    rw [List.map_cons, List.map_cons] at h
    obtain ⟨h1, h2⟩ := List.cons.inj h
    have := congrArg (fun x => TJson.dec (rtE x)) h1
    simp only [TJson.dec_of, Option.some.injEq] at this
    rw [this, rt_inj a b h2]
def partsOf (v : TJson) : List TJson := v.fL.filterMap fun x => TJson.dec (rtE x)
theorem parts_eq (v : TJson) (us : List TJson) (h : v.fL = us.map (RT.of TJson.ok)) : partsOf v = us := by
  unfold partsOf
  rw [h]
  clear h
  induction us with
  | nil => rfl
  | cons u us ih =>
    rw [List.map_cons, List.filterMap_cons, TJson.dec_of, ih]
/-- a value, and all within, in order, with their depths -/
def fl : Nat → Int → TJson → List (Int × TJson)
  | 0, d, v => [(d, v)]
  | n + 1, d, v => (d, v) :: (partsOf v).flatMap (fl n (d + 1))
abbrev dsOf (l : List (Int × TJson)) : List Int := l.map (·.1)
abbrev vsOf (l : List (Int × TJson)) : List (RT 4) := l.map fun x => RT.of TJson.ok x.2
theorem fl_len (v : TJson) (hw : TJson.Wf v) : ∀ (n : Nat) (d : Int), jbk v ≤ n → 1 ≤ (fl n d v).length ∧ (fl n d v).length ≤ jbk v := by
  induction hw with
  | mk v us hk hfl hw ih =>
    intro n d hn
    have hb := jbk_eq v us hfl
    obtain ⟨n, rfl⟩ : ∃ j, n = j + 1 := ⟨n - 1, by omega⟩
    obtain ⟨s1, s2⟩ := sum_ge us
    have : ∀ l : List TJson, (∀ u ∈ l, u ∈ us) → (l.flatMap (fl n (d + 1))).length ≤ (l.map jbk).sum := by
      intro l
      induction l with
      | nil => intro _; exact Nat.zero_le _
      | cons u l ihl =>
        intro h
        have hu := h u (List.mem_cons_self ..)
        have h1 := ihl fun x hx => h x (List.mem_cons_of_mem _ hx)
        have h2 := (ih u hu n (d + 1) (by have := s2 u hu; omega)).2
        rw [List.flatMap_cons, List.length_append, List.map_cons, List.sum_cons]
        omega
    have := this us fun u hu => hu
    rw [fl, parts_eq v us hfl, List.length_cons]
    omega
theorem flat_all (v : TJson) (hw : TJson.Wf v) : ∀ (n K : Nat) (d : Int), jbk v ≤ n → jbk v + 10 ≤ K → jbk v ≤ 1048576 → 0 ≤ d → d + jbk v ≤ 3000000 → f445 K v d = some (dsOf (fl n d v), vsOf (fl n d v)) := by
  induction hw with
  | mk v us hk hfl hw ih =>
    intro n K d hn hK hv h0 hd
    have hb := jbk_eq v us hfl
    obtain ⟨n, rfl⟩ : ∃ j, n = j + 1 := ⟨n - 1, by omega⟩
    obtain ⟨K, rfl⟩ : ∃ j, K = j + 1 := ⟨K - 1, by omega⟩
    obtain ⟨s1, s2⟩ := sum_ge us
    have hl : v.fL.length = us.length := by rw [hfl, List.length_map]
    have loop : ∀ (rest pre : List TJson) (y1 : List Int) (y2 : List (RT 4)) (J : Nat), us = pre ++ rest → rest.length + 1 ≤ J → y1.length + (rest.map jbk).sum ≤ 3000000 → y2.length + (rest.map jbk).sum ≤ 3000000 →
        f445_l21 v (f445 K) d J y1 y2 ((pre.length : Nat) : Int) = some (.b0 (y1 ++ dsOf (rest.flatMap (fl n (d + 1))), y2 ++ vsOf (rest.flatMap (fl n (d + 1))))) := by
      intro rest
      induction rest with
      | nil =>
        intro pre y1 y2 J e hJ _ _
        obtain ⟨J, rfl⟩ : ∃ j, J = j + 1 := ⟨J - 1, by omega⟩
        have e' : us = pre := by rw [e]; simp
        rw [f445_l21, cdn (by rw [hl, e']; omega)]
        simp
      | cons u t iht =>
        intro pre y1 y2 J e hJ hy1 hy2
        rw [List.length_cons] at hJ
        rw [List.map_cons, List.sum_cons] at hy1 hy2
        obtain ⟨J, rfl⟩ : ∃ j, J = j + 1 := ⟨J - 1, by omega⟩
        have hlen : us.length = pre.length + (t.length + 1) := by rw [e]; simp
        have hu : u ∈ us := by rw [e]; simp
        have hs := s2 u hu
        have hi := ih u hu n K (d + 1) (by omega) (by omega) (by omega) (by omega) (by omega)
        have hfln := (fl_len u (hw u hu) n (d + 1) (by omega)).2
        rw [f445_l21, cdp (by omega), gdp (by omega), part_at v pre t u (by rw [hfl, e]), Option.bind_some, i64w (n := d + 1) (by omega), hi, Option.bind_some, gdp (by rw [List.length_map]; omega), gdp (by rw [List.length_map]; omega), i64w (n := ((pre.length : Nat) : Int) + 1) (by omega)]
        have := iht (pre ++ [u]) (y1 ++ dsOf (fl n (d + 1) u)) (y2 ++ vsOf (fl n (d + 1) u)) J (by rw [e]; simp) (by omega) (by rw [List.length_append, List.length_map]; omega) (by rw [List.length_append, List.length_map]; omega)
        rw [List.length_append] at this
        refine this.trans ?_
        simp
    have lp := loop us [] [d] [RT.of TJson.ok v] K rfl (by omega) (by rw [List.length_cons, List.length_nil]; omega) (by rw [List.length_cons, List.length_nil]; omega)
    have lp : f445_l21 v (f445 K) d K [d] [RT.of TJson.ok v] 0 = _ := lp
    rw [f445]
    unfold f445_s
    show Option.bind (f445_l21 v (f445 K) d K [d] [RT.of TJson.ok v] 0) _ = _
    rw [lp, fl, parts_eq v us hfl]
    rfl
/-- walked by one who keeps all -/
theorem walk_at (v : TJson) (hw : TJson.Wf v) : ∀ (n K : Nat) (d most : Int) (a : List Int) (b : List (RT 4)), jbk v ≤ n → jbk v + 20 ≤ K → jbk v ≤ 1048576 → 0 ≤ d → d + jbk v ≤ 3000000 → a.length ≤ 3000000 → b.length ≤ 3000000 → ((a.length : Nat) : Int) + (((fl n d v).length : Nat) : Int) ≤ most →
    a.length + jbk v ≤ 3000000 → b.length + jbk v ≤ 3000000 → f477v2 K v d most false a b = some (.inr (a ++ dsOf (fl n d v), b ++ vsOf (fl n d v))) := by
  induction hw with
  | mk v us hk hfl hw ih =>
    intro n K d most a b hn hK hv h0 hd ha hbb hm hab hbv
    have hb := jbk_eq v us hfl
    obtain ⟨n, rfl⟩ : ∃ j, n = j + 1 := ⟨n - 1, by omega⟩
    obtain ⟨K, rfl⟩ : ∃ j, K = j + 1 := ⟨K - 1, by omega⟩
    obtain ⟨s1, s2⟩ := sum_ge us
    have hl : v.fL.length = us.length := by rw [hfl, List.length_map]
    have hown := own_v v (.mk v us hk hfl hw) K (by omega) (by omega)
    have efl : fl (n + 1) d v = (d, v) :: us.flatMap (fl n (d + 1)) := by rw [fl, parts_eq v us hfl]
    rw [efl, List.length_cons] at hm
    have loop : ∀ (rest pre : List TJson) (y1 : List Int) (y2 : List (RT 4)) (J : Nat), us = pre ++ rest → rest.length + 1 ≤ J → y1.length + (rest.map jbk).sum ≤ 3000000 → y2.length + (rest.map jbk).sum ≤ 3000000 → ((y1.length : Nat) : Int) + (((rest.flatMap (fl n (d + 1))).length : Nat) : Int) ≤ most →
        f477v2_l31 v (f477v2 K) d most false J ((pre.length : Nat) : Int) y1 y2 = some (.b0 (y1 ++ dsOf (rest.flatMap (fl n (d + 1))), y2 ++ vsOf (rest.flatMap (fl n (d + 1))))) := by
      intro rest
      induction rest with
      | nil =>
        intro pre y1 y2 J e hJ _ _ _
        obtain ⟨J, rfl⟩ : ∃ j, J = j + 1 := ⟨J - 1, by omega⟩
        have e' : us = pre := by rw [e]; simp
        rw [f477v2_l31, cdn (by rw [hl, e']; omega)]
        simp
      | cons u t iht =>
        intro pre y1 y2 J e hJ hy1 hy2 hmm
        rw [List.length_cons] at hJ
        rw [List.map_cons, List.sum_cons] at hy1 hy2
        rw [List.flatMap_cons, List.length_append] at hmm
        obtain ⟨J, rfl⟩ : ∃ j, J = j + 1 := ⟨J - 1, by omega⟩
        have hlen : us.length = pre.length + (t.length + 1) := by rw [e]; simp
        have hu : u ∈ us := by rw [e]; simp
        have hs := s2 u hu
        have hi := ih u hu n K (d + 1) most y1 y2 (by omega) (by omega) (by omega) (by omega) (by omega) (by omega) (by omega) (by omega) (by omega) (by omega)
        have hfln := (fl_len u (hw u hu) n (d + 1) (by omega)).2
        rw [f477v2_l31, cdp (by omega), gdp (by omega), part_at v pre t u (by rw [hfl, e]), Option.bind_some, i64w (n := d + 1) (by omega)]
        show Option.bind (f477v2 K u (d + 1) most false y1 y2) _ = _
        rw [hi, Option.bind_some]
        show f477v2_l31 v (f477v2 K) d most false J (IntKind.i64.wrap (((pre.length : Nat) : Int) + 1)) (y1 ++ dsOf (fl n (d + 1) u)) (y2 ++ vsOf (fl n (d + 1) u)) = _
        rw [i64w (n := ((pre.length : Nat) : Int) + 1) (by omega)]
        have := iht (pre ++ [u]) (y1 ++ dsOf (fl n (d + 1) u)) (y2 ++ vsOf (fl n (d + 1) u)) J (by rw [e]; simp) (by omega) (by rw [List.length_append, List.length_map]; omega) (by rw [List.length_append, List.length_map]; omega) (by rw [List.length_append, List.length_map]; omega)
        rw [List.length_append] at this
        refine this.trans ?_
        simp
    have hyld : b476_37v2 K most false a b d v = some (.inr ()) := by
      unfold b476_37v2
      rw [gdp (by rw [List.length_cons, List.length_nil]; omega), gdp (by rw [List.length_cons, List.length_nil]; omega), cdn (by rw [List.length_append, List.length_cons, List.length_nil]; omega)]
    have lp := loop us [] (a ++ [d]) (b ++ [RT.of TJson.ok v]) K rfl (by omega) (by rw [List.length_append, List.length_cons, List.length_nil]; omega) (by rw [List.length_append, List.length_cons, List.length_nil]; omega) (by rw [List.length_append, List.length_cons, List.length_nil]; omega)
    have lp : f477v2_l31 v (f477v2 K) d most false K 0 (a ++ [d]) (b ++ [RT.of TJson.ok v]) = _ := lp
    rw [f477v2]
    unfold f477v2_s
    show Option.bind (f441 K v) _ = _
    rw [hown, Option.bind_some]
    show Option.bind (b476_37v2 K most false a b d v) _ = _
    rw [hyld, Option.bind_some]
    show Option.bind (f477v2_l31 v (f477v2 K) d most false K 0 (a ++ [d]) (b ++ [RT.of TJson.ok v])) _ = _
    rw [lp, efl]
    simp
theorem walk_first (v : TJson) (hw : TJson.Wf v) (n K : Nat) (most : Int) (hn : jbk v ≤ n) (hK : 3 * jbk v + 100 ≤ K) (hv : jbk v ≤ 1048576) (hm : (((fl n 0 v).length : Nat) : Int) ≤ most) : f477 K v 0 most false = some (.inr (dsOf (fl n 0 v), vsOf (fl n 0 v))) := by
  cases hw with
  | mk _ us hk hfl hww =>
    have hb := jbk_eq v us hfl
    obtain ⟨n, rfl⟩ : ∃ j, n = j + 1 := ⟨n - 1, by omega⟩
    obtain ⟨s1, s2⟩ := sum_ge us
    have hl : v.fL.length = us.length := by rw [hfl, List.length_map]
    have hown := own_v v (.mk v us hk hfl hww) K (by omega) (by omega)
    have efl : fl (n + 1) 0 v = (0, v) :: us.flatMap (fl n (0 + 1)) := by rw [fl, parts_eq v us hfl]
    rw [efl, List.length_cons] at hm
    have loop : ∀ (rest pre : List TJson) (y1 : List Int) (y2 : List (RT 4)) (J : Nat), us = pre ++ rest → rest.length + us.length + (us.map jbk).sum + 30 ≤ J + us.length → y1.length + (rest.map jbk).sum ≤ 3000000 → y2.length + (rest.map jbk).sum ≤ 3000000 → ((y1.length : Nat) : Int) + (((rest.flatMap (fl n (0 + 1))).length : Nat) : Int) ≤ most → (∀ u ∈ rest, jbk u + 25 + rest.length ≤ J) →
        f477_l31 v 0 most false J ((pre.length : Nat) : Int) y1 y2 = some (.b0 (y1 ++ dsOf (rest.flatMap (fl n (0 + 1))), y2 ++ vsOf (rest.flatMap (fl n (0 + 1))))) := by
      intro rest
      induction rest with
      | nil =>
        intro pre y1 y2 J e hJ _ _ _ _
        obtain ⟨J, rfl⟩ : ∃ j, J = j + 1 := ⟨J - 1, by omega⟩
        have e' : us = pre := by rw [e]; simp
        rw [f477_l31, cdn (by rw [hl, e']; omega)]
        simp
      | cons u t iht =>
        intro pre y1 y2 J e hJ hy1 hy2 hmm hjj
        rw [List.length_cons] at hJ
        rw [List.map_cons, List.sum_cons] at hy1 hy2
        rw [List.flatMap_cons, List.length_append] at hmm
        obtain ⟨J, rfl⟩ : ∃ j, J = j + 1 := ⟨J - 1, by omega⟩
        have hlen : us.length = pre.length + (t.length + 1) := by rw [e]; simp
        have hu : u ∈ us := by rw [e]; simp
        have hs := s2 u hu
        have hj := hjj u (List.mem_cons_self ..)
        rw [List.length_cons] at hj
        have hi := walk_at u (hww u hu) n J (0 + 1) most y1 y2 (by omega) (by omega) (by omega) (by omega) (by omega) (by omega) (by omega) (by omega) (by omega) (by omega)
        have hfln := (fl_len u (hww u hu) n (0 + 1) (by omega)).2
        rw [f477_l31, cdp (by omega), gdp (by omega), part_at v pre t u (by rw [hfl, e]), Option.bind_some, i64w (n := 0 + 1) (by omega)]
        show Option.bind (f477v2 J u (0 + 1) most false y1 y2) _ = _
        rw [hi, Option.bind_some]
        show f477_l31 v 0 most false J (IntKind.i64.wrap (((pre.length : Nat) : Int) + 1)) (y1 ++ dsOf (fl n (0 + 1) u)) (y2 ++ vsOf (fl n (0 + 1) u)) = _
        rw [i64w (n := ((pre.length : Nat) : Int) + 1) (by omega)]
        have := iht (pre ++ [u]) (y1 ++ dsOf (fl n (0 + 1) u)) (y2 ++ vsOf (fl n (0 + 1) u)) J (by rw [e]; simp) (by omega) (by rw [List.length_append, List.length_map]; omega) (by rw [List.length_append, List.length_map]; omega) (by rw [List.length_append, List.length_map]; omega) (fun w hw => by have := hjj w (List.mem_cons_of_mem _ hw); rw [List.length_cons] at this; omega)
        rw [List.length_append] at this
        refine this.trans ?_
        simp
    have hyld : b476_37 K most false 0 v = some (.inr ()) := by
      unfold b476_37
      rw [gdp (by decide), gdp (by simp), cdn (by simp only [List.length_cons, List.length_nil]; omega)]
    have lp := loop us [] [0] [RT.of TJson.ok v] K rfl (by omega) (by rw [List.length_cons, List.length_nil]; omega) (by rw [List.length_cons, List.length_nil]; omega) (by rw [List.length_cons, List.length_nil]; omega) (fun u hu => by have := s2 u hu; omega)
    have lp : f477_l31 v 0 most false K 0 [0] [RT.of TJson.ok v] = _ := lp
    unfold f477
    show Option.bind (f441 K v) _ = _
    rw [hown, Option.bind_some]
    show Option.bind (b476_37 K most false 0 v) _ = _
    rw [hyld, Option.bind_some]
    show Option.bind (f477_l31 v 0 most false K 0 [0] [RT.of TJson.ok v]) _ = _
    rw [lp, efl]
    simp
end Go.Proofs.Abs
