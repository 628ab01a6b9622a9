/- JsonWhite: arrays and objects are read, with their white. -/
import Derived.Test.YtnhjiioiejpbgaaDoorPJw6
set_option linter.unusedSimpArgs false
namespace Go.Proofs.Abs
open Go
set_option linter.unusedVariables false
set_option maxRecDepth 100000
section
variable {g : List UInt8}
/-- what stands behind an item, up to the end -/
def restT (g : List UInt8) (e : UInt8) (r : List IW) (R : List UInt8) : List UInt8 := r.flatMap (fun y => 44 :: itW g y) ++ (g ++ e :: (g ++ R))
theorem restT_hd (hg : whG g) (e : UInt8) (he : e = 93 ∨ e = 125) (r : List IW) (R : List UInt8) : ∀ d u, restT g e r R = d :: u → ¬ isD d := by
  intro d u h
  cases r with
  | nil =>
    unfold restT at h
    rw [List.flatMap_nil, List.nil_append] at h
    cases g with
    | nil =>
      have : e = d := (List.cons.inj h).1
      rw [← this]
      rcases he with rfl | rfl <;> decide
    | cons x g' =>
      have hx := hg x (List.mem_cons_self ..)
      have : x = d := (List.cons.inj h).1
      rw [← this]
      unfold isW at hx
      unfold isD
      omega
  | cons y r =>
    have : (44 : UInt8) = d := (List.cons.inj h).1
    rw [← this]
    decide
theorem flat_ge (g : List UInt8) : ∀ r : List IW, r.length ≤ (r.flatMap fun y => 44 :: itW g y).length
  | [] => Nat.zero_le _
  | y :: r => by
    have := flat_ge g r
    rw [List.flatMap_cons, List.length_append, List.length_cons, List.length_cons]
    omega
theorem items_loop (hg : whG g) (h : Nat) (hh : h + 1 ≤ 64) (q : Bool) (s : List UInt8) (hb : s.length ≤ 20000) (J : Nat) (hJ : h + 2 * s.length + 500 ≤ J) (R : List UInt8) :
    ∀ (r : List IW) (p : IW) (c : UInt8) (b w : List UInt8) (n : Int) (K : Nat) (L : List (RT 4)) (ks : List (List UInt8)),
      (∀ p ∈ r, ∃ c b, itW g p = g ++ (c :: (b ++ g)) ∧ ItemS g h q p c b) → ItemS g h q p c b → whG w → At s n (w ++ (c :: (b ++ (g ++ restT g (cond q 125 93) r R)))) →
      (L.length : Int) ≤ n → (ks ++ ((p :: r).map (·.1.toList)).flatten).Nodup → ks.length + ((p :: r).map (·.1.toList)).flatten.length ≤ 300 → (q = true → ∀ x ∈ p :: r, ∃ k, x.1 = some k) → r.length + s.length + 402 ≤ K →
      ∃ m, f403_l60 (f397 J) s (cond q 7 6) (64 - ((h + 1 : Nat) : Int)) (cond q 125 93) K n L ks = some (.r (0, cond q 7 6, L ++ (p :: r).map (fun p => RT.of TJson.ok p.2.1), ks ++ ((p :: r).map (·.1.toList)).flatten, m)) ∧ At s m (g ++ R) := by
  intro r
  induction r with
  | nil =>
    intro p c b w n K L ks hr hp hw hA hL hnd hkl hq hK
    obtain ⟨K, rfl⟩ : ∃ j, K = j + 1 := ⟨K - 1, by omega⟩
    simp only [List.map_cons, List.map_nil, List.flatten_cons, List.flatten_nil, List.append_nil, List.length_nil] at hnd hkl hK ⊢
    have hl := hA.len
    obtain ⟨hW, h93, h125, hi⟩ := hp
    obtain ⟨m, m1, m2⟩ := hi w s _ n J K L ks hw hA (restT_hd hg _ (by cases q; exact .inl rfl; exact .inr rfl) [] R) hb hh hJ (by omega) (by omega) (by omega) (fun k hk hin => by
      rw [hk] at hnd
      exact (List.nodup_append.1 hnd).2.2 k hin k (by simp) rfl) (fun hq' => by
      obtain ⟨k, hk⟩ := hq hq' p (List.mem_cons_self ..)
      rw [hk] at hkl
      simpa using hkl)
    have m3 : At s m ((g ++ g) ++ cond q 125 93 :: (g ++ R)) := by
      have : g ++ restT g (cond q 125 93) [] R = (g ++ g) ++ cond q 125 93 :: (g ++ R) := by simp [restT]
      rwa [this] at m2
    have m4 := m3.skip
    refine ⟨m + (((g ++ g).length : Nat) : Int) + 1, ?_, m4.next⟩
    have hgl := m3.len
    simp only [List.length_append] at hgl
    rw [f403_l60, m1, Option.bind_some]
    show cond (decide ((0 : Int) ≠ 0)) _ _ = _
    rw [cdn (by decide)]
    show (f398 K s m).bind _ = _
    rw [white_gap (g ++ g) _ m K (whG_app hg hg) m3 (fun d u e => by
      have : cond q (125 : UInt8) 93 = d := (List.cons.inj e).1
      rw [← this]
      cases q <;> decide) hb (by rw [List.length_append]; omega), Option.bind_some, is_yes _ m4 hb, Option.bind_some]
    rfl
  | cons y r ih =>
    intro p c b w n K L ks hr hp hw hA hL hnd hkl hq hK
    obtain ⟨K, rfl⟩ : ∃ j, K = j + 1 := ⟨K - 1, by omega⟩
    rw [List.length_cons] at hK
    have hl := hA.len
    obtain ⟨hW, h93, h125, hi⟩ := hp
    have hnd' : (ks ++ (p.1.toList ++ ((y :: r).map (·.1.toList)).flatten)).Nodup := hnd
    have hkl' : ks.length + (p.1.toList ++ ((y :: r).map (·.1.toList)).flatten).length ≤ 300 := hkl
    obtain ⟨m, m1, m2⟩ := hi w s _ n J K L ks hw hA (restT_hd hg _ (by cases q; exact .inl rfl; exact .inr rfl) (y :: r) R) hb hh hJ (by omega) (by omega) (by omega) (fun k hk hin => by
      rw [hk] at hnd'
      exact (List.nodup_append.1 hnd').2.2 k hin k (by simp) rfl) (fun hq' => by
      obtain ⟨k, hk⟩ := hq hq' p (List.mem_cons_self ..)
      rw [hk] at hkl'
      simp only [List.length_append, Option.toList_some, List.length_cons, List.length_nil] at hkl'
      omega)
    obtain ⟨c', b', ey, hy⟩ := hr y (List.mem_cons_self ..)
    have m3 : At s m (g ++ 44 :: (g ++ (c' :: (b' ++ (g ++ restT g (cond q 125 93) r R))))) := by
      have : g ++ restT g (cond q 125 93) (y :: r) R = g ++ 44 :: (g ++ (c' :: (b' ++ (g ++ restT g (cond q 125 93) r R)))) := by simp [restT, ey]
      rwa [this] at m2
    have m4 := m3.skip
    have hgl := m3.len
    simp only [List.length_append, List.length_cons] at hgl
    have hl2 := hA.len
    have hmn : n ≤ m := by
      have a1 := hA.len.2
      have a2 := m2.len.2
      simp only [List.length_append, List.length_cons] at a1 a2
      omega
    obtain ⟨m', q1, q2⟩ := ih y c' b' g (m + ((g.length : Nat) : Int) + 1) K (L ++ [RT.of TJson.ok p.2.1]) (ks ++ p.1.toList) (fun z hz => hr z (List.mem_cons_of_mem _ hz)) hy hg m4.next (by rw [List.length_append, List.length_cons, List.length_nil]; omega) (by rw [List.append_assoc]; exact hnd') (by rw [List.length_append] at hkl' ⊢; omega) (fun hq' x hx => hq hq' x (List.mem_cons_of_mem _ hx)) (by omega)
    refine ⟨m', ?_, q2⟩
    rw [f403_l60, m1, Option.bind_some]
    show cond (decide ((0 : Int) ≠ 0)) _ _ = _
    rw [cdn (by decide)]
    show (f398 K s m).bind _ = _
    rw [white_gap g _ m K hg m3 (fun d u e => by rw [← (List.cons.inj e).1]; decide) hb (by omega), Option.bind_some, is_no _ m4 (by cases q <;> decide), Option.bind_some]
    show cond false _ _ = _
    rw [cond_false]
    show (f401 K s (m + ((g.length : Nat) : Int)) 44).bind _ = _
    rw [is_yes _ m4 hb, Option.bind_some]
    show cond false _ _ = _
    rw [cond_false]
    show f403_l60 (f397 J) s (cond q 7 6) (64 - ((h + 1 : Nat) : Int)) (cond q 125 93) K (m + ((g.length : Nat) : Int) + 1) (L ++ [RT.of TJson.ok p.2.1]) (ks ++ p.1.toList) = _
    rw [q1]
    simp
theorem many_rd (hg : whG g) (h : Nat) (q : Bool) (ps : List IW) (ks : List (List UInt8)) (hr : ∀ p ∈ ps, Reads g h p.2.1 p.2.2) (h1 : q = true → ps.map (·.1) = ks.map some) (h0 : q = false → ks = [] ∧ ∀ p ∈ ps, p.1 = none) (hk3 : ks.length ≤ 300) (hn : ks.Nodup) (hv : ∀ k ∈ ks, Lib.validD k = true)
    (s R : List UInt8) (n : Int) (K : Nat) (hA : At s n (cond q 123 91 :: (itsW g ps ++ (g ++ cond q 125 93 :: (g ++ R))))) (hb : s.length ≤ 20000) (hh : h + 1 ≤ 64) (hK : h + 2 * s.length + 500 ≤ K) :
    ∃ m, f403 (f397 K) K s n (cond q 7 6) (cond q 125 93) (64 - ((h + 1 : Nat) : Int)) = some (0, cond q 7 6, ps.map (fun p => RT.of TJson.ok p.2.1), ks, m) ∧ At s m (g ++ R) := by
  have hl := hA.len
  rw [List.length_cons] at hl
  have hfl : (ps.map (·.1.toList)).flatten = ks := by
    cases q with
    | false =>
      obtain ⟨e, hno⟩ := h0 rfl
      rw [e]
      apply List.flatten_eq_nil_iff.2
      intro l hl
      obtain ⟨p, hp, rfl⟩ := List.mem_map.1 hl
      rw [hno p hp]
      rfl
    | true =>
      have e := h1 rfl
      have : ps.map (·.1.toList) = (ps.map (·.1)).map Option.toList := by rw [List.map_map]; rfl
      rw [this, e, List.map_map]
      have : ∀ l : List (List UInt8), (l.map (Option.toList ∘ some)).flatten = l := by
        intro l
        induction l with
        | nil => rfl
        | cons a t ih => rw [List.map_cons, List.flatten_cons, ih]; rfl
      exact this ks
  have key : ∀ p ∈ ps, q = true → ∃ k, p.1 = some k ∧ Lib.validD k = true := by
    intro p hp hq
    have h2 : p.1 ∈ ps.map (·.1) := List.mem_map_of_mem hp
    rw [h1 hq] at h2
    obtain ⟨k, k1, k2⟩ := List.mem_map.1 h2
    exact ⟨k, k2.symm, hv k k1⟩
  have its : ∀ p ∈ ps, ∃ c b, itW g p = g ++ (c :: (b ++ g)) ∧ ItemS g h q p c b := fun p hp => item_sp hg h q p (hr p hp) (key p hp) (fun hq => (h0 hq).2 p hp)
  have hge : ps.length ≤ (itsW g ps).length := by
    cases ps with
    | nil => exact Nat.zero_le _
    | cons p r =>
      obtain ⟨c, b, ep, _⟩ := its p (List.mem_cons_self ..)
      have := flat_ge g r
      rw [itsW, ep]
      simp only [List.length_append, List.length_cons]
      omega
  rw [List.length_append] at hl
  unfold f403
  rw [cdn (by omega), i64w (by omega)]
  cases ps with
  | nil =>
    have hks : ks = [] := by rw [← hfl]; rfl
    have hA1 : At s (n + 1) (g ++ cond q 125 93 :: (g ++ R)) := hA.next
    have hA2 := hA1.skip
    have hl2 := hA1.len
    simp only [List.length_append] at hl2
    refine ⟨n + 1 + ((g.length : Nat) : Int) + 1, ?_, hA2.next⟩
    rw [white_gap g _ _ K hg hA1 (fun d u e => by
      have : cond q (125 : UInt8) 93 = d := (List.cons.inj e).1
      rw [← this]
      cases q <;> decide) hb (by omega), Option.bind_some, is_yes _ hA2 hb, Option.bind_some, hks]
    rfl
  | cons p r =>
    obtain ⟨c, b, ep, hp⟩ := its p (List.mem_cons_self ..)
    have hA1 : At s (n + 1) (g ++ (c :: (b ++ (g ++ restT g (cond q 125 93) r R)))) := by
      have e : itsW g (p :: r) ++ (g ++ cond q 125 93 :: (g ++ R)) = g ++ (c :: (b ++ (g ++ restT g (cond q 125 93) r R))) := by simp [itsW, ep, restT]
      have := hA.next
      rwa [e] at this
    have hA2 := hA1.skip
    have hl2 := hA1.len
    simp only [List.length_append] at hl2
    rw [List.length_cons] at hge
    obtain ⟨m, m1, m2⟩ := items_loop hg h hh q s hb K hK R r p c b [] (n + 1 + ((g.length : Nat) : Int)) K [] [] (fun z hz => its z (List.mem_cons_of_mem _ hz)) hp whG_nil hA2 (by rw [List.length_nil]; omega) (by rw [List.nil_append, hfl]; exact hn) (by rw [hfl, List.length_nil]; omega) (fun hq x hx => by
      obtain ⟨k, hk, _⟩ := key x hx hq
      exact ⟨k, hk⟩) (by omega)
    refine ⟨m, ?_, m2⟩
    have hne : ¬ ((c.toNat : Nat) : Int) = (((cond q (125 : UInt8) 93).toNat : Nat) : Int) := by
      intro e
      have : c = cond q 125 93 := UInt8.toNat.inj (by omega)
      cases q with
      | false => exact hp.2.1 this
      | true => exact hp.2.2.1 this
    rw [white_gap g _ _ K hg hA1 (fun d u e => by rw [← (List.cons.inj e).1]; exact hp.1) hb (by omega), Option.bind_some, is_no _ hA2 hne, Option.bind_some]
    show cond false _ _ = _
    rw [cond_false]
    show Option.bind (f403_l60 (f397 K) s (cond q 7 6) (64 - ((h + 1 : Nat) : Int)) (cond q 125 93) K (n + 1 + ((g.length : Nat) : Int)) [] []) _ = _
    rw [m1, hfl]
    rfl
theorem sp_reads (hg : whG g) (h : Nat) (v : TJson) (t : List UInt8) (hs : Sp g h v t) : Reads g h v t := by
  induction hs with
  | lit h k hk => exact reads_lit h k hk
  | num h t ht => exact reads_num hg h t ht
  | str h t ht => exact reads_str h t ht
  | arr h ps hn hu ih =>
    refine ⟨91, itsW g ps ++ (g ++ [93]), by simp, by decide, by decide, by decide, fun w s R n K hw hA hR hb hh hK => ?_⟩
    obtain ⟨K, rfl⟩ : ∃ j, K = j + 1 := ⟨K - 1, by omega⟩
    obtain ⟨p, _, hp, e⟩ := go_at w 91 _ n (64 - ((h + 1 : Nat) : Int)) K hw hA (by decide) hb (by omega)
    have hp' : At s p (91 :: (itsW g ps ++ (g ++ 93 :: (g ++ R)))) := by
      have : itsW g ps ++ (g ++ [93]) ++ (g ++ R) = itsW g ps ++ (g ++ 93 :: (g ++ R)) := by simp
      rwa [this] at hp
    obtain ⟨m, m1, m2⟩ := many_rd hg h false ps [] ih (fun h => by cases h) (fun _ => ⟨rfl, hn⟩) (by simp) (by simp) (by simp) s R p K hp' hb hh (by omega)
    refine ⟨m, ?_, m2⟩
    rw [e, cdn (by decide), cdn (by decide), cdn (by decide), cdn (by decide), cdp (by decide)]
    have m1 : f403 (f397 K) K s p 6 93 (64 - ((h + 1 : Nat) : Int)) = some (0, 6, ps.map (fun p => RT.of TJson.ok p.2.1), [], m) := m1
    rw [m1]
    rfl
  | obj h ks ps hk h3 hn hv hu ih =>
    refine ⟨123, itsW g ps ++ (g ++ [125]), by simp, by decide, by decide, by decide, fun w s R n K hw hA hR hb hh hK => ?_⟩
    obtain ⟨K, rfl⟩ : ∃ j, K = j + 1 := ⟨K - 1, by omega⟩
    obtain ⟨p, _, hp, e⟩ := go_at w 123 _ n (64 - ((h + 1 : Nat) : Int)) K hw hA (by decide) hb (by omega)
    have hp' : At s p (123 :: (itsW g ps ++ (g ++ 125 :: (g ++ R)))) := by
      have : itsW g ps ++ (g ++ [125]) ++ (g ++ R) = itsW g ps ++ (g ++ 125 :: (g ++ R)) := by simp
      rwa [this] at hp
    obtain ⟨m, m1, m2⟩ := many_rd hg h true ps ks ih (fun _ => hk) (fun h => by cases h) h3 hn hv s R p K hp' hb hh (by omega)
    refine ⟨m, ?_, m2⟩
    rw [e, cdn (by decide), cdn (by decide), cdn (by decide), cdn (by decide), cdn (by decide), cdp (by decide)]
    have m1 : f403 (f397 K) K s p 7 125 (64 - ((h + 1 : Nat) : Int)) = some (0, 7, ps.map (fun p => RT.of TJson.ok p.2.1), ks, m) := m1
    rw [m1]
    rfl
end
end Go.Proofs.Abs
