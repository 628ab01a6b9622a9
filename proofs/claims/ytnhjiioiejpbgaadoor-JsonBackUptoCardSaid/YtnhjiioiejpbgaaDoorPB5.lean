/- JsonBack: the text of a right value is read (PJw6, PJw7 with wider bounds). -/
import Derived.Test.YtnhjiioiejpbgaaDoorPB4
set_option linter.unusedSimpArgs false
namespace Go.Proofs.Abs
open Go
set_option linter.unusedVariables false
set_option maxRecDepth 100000
/-- white -/
def isW (c : UInt8) : Prop := c.toNat = 32 ∨ c.toNat = 9 ∨ c.toNat = 10 ∨ c.toNat = 13
instance (c : UInt8) : Decidable (isW c) := by unfold isW; infer_instance
instance (c : UInt8) : Decidable (isD c) := by unfold isD; infer_instance
def whG (w : List UInt8) : Prop := ∀ c ∈ w, isW c
theorem whG_nil : whG [] := fun c h => (List.not_mem_nil h).elim
theorem whG_app {a b : List UInt8} (ha : whG a) (hb : whG b) : whG (a ++ b) := fun c h => by
  rcases List.mem_append.1 h with h | h
  · exact ha c h
  · exact hb c h
theorem esc_ge : ∀ l : List UInt8, l.length ≤ (escT l).length
  | [] => Nat.le_refl _
  | c :: t => by
    have := esc_ge t
    have h1 : 1 ≤ (escB c).length := by
      unfold escB
      split
      · exact (by decide : 1 ≤ 2)
      · split
        · exact (by decide : 1 ≤ 6)
        · exact (by decide : 1 ≤ 1)
    rw [escT_cons, List.length_append, List.length_cons]
    omega
section
variable {s g : List UInt8}
theorem white_gap : ∀ (w : List UInt8) (R : List UInt8) (n : Int) (K : Nat), whG w → At s n (w ++ R) → (∀ c t, R = c :: t → ¬ isW c) → s.length ≤ 20000 → w.length + 1 ≤ K → f398 K s n = some (n + ((w.length : Nat) : Int)) := by
  intro w
  induction w with
  | nil =>
    intro R n K hw h hR hb hK
    obtain ⟨K, rfl⟩ : ∃ j, K = j + 1 := ⟨K - 1, by omega⟩
    cases R with
    | nil => rw [white_end K h]; simp
    | cons c t =>
      have := hR c t rfl
      unfold isW at this
      have h : At s n (c :: t) := h
      rw [white_at K h (by omega) (by omega) (by omega) (by omega)]
      simp
  | cons d w ih =>
    intro R n K hw h hR hb hK
    rw [List.length_cons] at hK
    obtain ⟨K, rfl⟩ : ∃ j, K = j + 1 := ⟨K - 1, by omega⟩
    have hl := h.len
    simp only [List.cons_append, List.length_cons] at hl
    have hd := hw d (List.mem_cons_self ..)
    unfold isW at hd
    have h' : At s n (d :: (w ++ R)) := h
    have i := ih R (n + 1) K (fun c hc => hw c (List.mem_cons_of_mem _ hc)) h'.next hR hb (by omega)
    unfold f398 at i ⊢
    have st : f398_l4 s (K + 1) n = f398_l4 s K (n + 1) := by
      rw [f398_l4, cdp (by omega), gdp (by omega), h'.get]
      have J : f398_j69 (f398_l4 s K) K n = f398_l4 s K (n + 1) := by unfold f398_j69; rw [i64w (by omega)]
      rw [J]
      rcases hd with e | e | e | e
      · rw [cdp (by omega), cdp (by omega)]
      · rw [cdn (by omega), cdp (by omega), cdp (by omega)]
      · rw [cdn (by omega), cdn (by omega), cdp (by omega), cdp (by omega)]
      · rw [cdn (by omega), cdn (by omega), cdn (by omega), cdp (by omega)]
    rw [st, i, List.length_cons]
    congr 1
    omega
/-- what a value's text is read as, wherever it stands: white, its first sign c, more, and the white g behind -/
def ReadS (g : List UInt8) (h : Nat) (v : TJson) (c : UInt8) (b : List UInt8) : Prop :=
  ¬ isW c ∧ c ≠ 93 ∧ c ≠ 125 ∧ ∀ (w s R : List UInt8) (n : Int) (K : Nat) , whG w → At s n (w ++ (c :: (b ++ (g ++ R)))) → (∀ d u, R = d :: u → ¬ isD d) → s.length ≤ 20000 → h ≤ 64 → h + 2 * s.length + 60500 ≤ K →
    ∃ m, f397 K s n (64 - (h : Int)) = some (0, v.fKind, v.fText, v.fL, v.fKeys, m) ∧ At s m (g ++ R)
def Reads (g : List UInt8) (h : Nat) (v : TJson) (t : List UInt8) : Prop := ∃ c b, t = g ++ (c :: (b ++ g)) ∧ ReadS g h v c b
/-- behind the white: the sign, and what is chosen by it -/
theorem go_at (w : List UInt8) (c : UInt8) (X : List UInt8) (n d : Int) (K : Nat) (hw : whG w) (h : At s n (w ++ c :: X)) (hc : ¬ isW c) (hb : s.length ≤ 20000) (hK : s.length + 1 ≤ K) :
    ∃ p, p = n + ((w.length : Nat) : Int) ∧ At s p (c :: X) ∧ f397 (K + 1) s n d = (cond (decide (((c.toNat : Nat) : Int) = (110 : Int))) ((f399 K s p ([110, 117, 108, 108] : List UInt8) (1 : Int)).bind fun r58 => some (r58.1, r58.2.1, ([] : List UInt8), ([] : List (RT 4)), ([] : List (List UInt8)), r58.2.2)) (cond (decide (((c.toNat : Nat) : Int) = (102 : Int))) ((f399 K s p ([102, 97, 108, 115, 101] : List UInt8) (2 : Int)).bind fun r74 => some (r74.1, r74.2.1, ([] : List UInt8), ([] : List (RT 4)), ([] : List (List UInt8)), r74.2.2)) (cond (decide (((c.toNat : Nat) : Int) = (116 : Int))) ((f399 K s p ([116, 114, 117, 101] : List UInt8) (3 : Int)).bind fun r90 => some (r90.1, r90.2.1, ([] : List UInt8), ([] : List (RT 4)), ([] : List (List UInt8)), r90.2.2)) (cond (decide (((c.toNat : Nat) : Int) = (34 : Int))) ((f400 K s p).bind fun r106 => cond (decide (r106.2.1 ≠ (0 : Int))) (some (r106.2.1, (0 : Int), ([] : List UInt8), ([] : List (RT 4)), ([] : List (List UInt8)), r106.2.2)) (some ((0 : Int), (5 : Int), r106.1, ([] : List (RT 4)), ([] : List (List UInt8)), r106.2.2))) (cond (decide (((c.toNat : Nat) : Int) = (91 : Int))) ((f403 (f397 K) K s p (6 : Int) (93 : UInt8) d).bind fun r147 => some (r147.1, r147.2.1, ([] : List UInt8), r147.2.2.1, r147.2.2.2.1, r147.2.2.2.2)) (cond (decide (((c.toNat : Nat) : Int) = (123 : Int))) ((f403 (f397 K) K s p (7 : Int) (125 : UInt8) d).bind fun r164 => some (r164.1, r164.2.1, ([] : List UInt8), r164.2.2.1, r164.2.2.2.1, r164.2.2.2.2)) ((f405 K s p).bind fun r175 => some (r175.1, r175.2.1, r175.2.2.1, ([] : List (RT 4)), ([] : List (List UInt8)), r175.2.2.2))))))) : Option (Int × Int × (List UInt8) × (List (RT 4)) × (List (List UInt8)) × Int)) := by
  have hl := h.len
  simp only [List.length_append, List.length_cons] at hl
  have h1 : At s (n + ((w.length : Nat) : Int)) (c :: X) := h.skip
  refine ⟨_, rfl, h1, ?_⟩
  have hl1 := h1.len
  rw [List.length_cons] at hl1
  rw [f397]
  unfold f397_s
  rw [white_gap w (c :: X) n K hw h (fun c' t e => by cases e; exact hc) hb (by omega), Option.bind_some, cdn (by omega), gdp (by omega), h1.get]
theorem word_at {n k : Int} (K : Nat) (a R : List UInt8) (h : At s n (a ++ R)) (hb : s.length ≤ 20000) : f399 K s n a k = some (0, k, n + ((a.length : Nat) : Int)) := by
  have hl := h.len
  simp only [List.length_append] at hl
  unfold f399
  rw [i64w (by omega), cdn (by omega), i64w (n := n + ((a.length : Nat) : Int)) (by omega), gdp (by omega), h.slk a.length (by simp), List.take_left, decide_eq_false (fun q => q rfl)]
  unfold f399_j43
  rw [cond_false, i64w (by omega)]
theorem reads_lit (h : Nat) (k : Int) (hk : k = 1 ∨ k = 2 ∨ k = 3) : Reads g h ⟨k, [], [], []⟩ ((g ++ wd k) ++ g) := by
  rcases hk with rfl | rfl | rfl
  · refine ⟨110, [117, 108, 108], by simp [wd], by decide, by decide, by decide, fun w s R n K hw hA hR hb hh hK => ?_⟩
    obtain ⟨K, rfl⟩ : ∃ j, K = j + 1 := ⟨K - 1, by omega⟩
    obtain ⟨p, _, hp, e⟩ := go_at w 110 _ n (64 - (h : Int)) K hw hA (by decide) hb (by omega)
    have hp' : At s p ([110, 117, 108, 108] ++ (g ++ R)) := hp
    rw [e, cdp (by decide), word_at K _ _ hp' hb]
    exact ⟨_, rfl, hp'.skip⟩
  · refine ⟨102, [97, 108, 115, 101], by simp [wd], by decide, by decide, by decide, fun w s R n K hw hA hR hb hh hK => ?_⟩
    obtain ⟨K, rfl⟩ : ∃ j, K = j + 1 := ⟨K - 1, by omega⟩
    obtain ⟨p, _, hp, e⟩ := go_at w 102 _ n (64 - (h : Int)) K hw hA (by decide) hb (by omega)
    have hp' : At s p ([102, 97, 108, 115, 101] ++ (g ++ R)) := hp
    rw [e, cdn (by decide), cdp (by decide), word_at K _ _ hp' hb]
    exact ⟨_, rfl, hp'.skip⟩
  · refine ⟨116, [114, 117, 101], by simp [wd], by decide, by decide, by decide, fun w s R n K hw hA hR hb hh hK => ?_⟩
    obtain ⟨K, rfl⟩ : ∃ j, K = j + 1 := ⟨K - 1, by omega⟩
    obtain ⟨p, _, hp, e⟩ := go_at w 116 _ n (64 - (h : Int)) K hw hA (by decide) hb (by omega)
    have hp' : At s p ([116, 114, 117, 101] ++ (g ++ R)) := hp
    rw [e, cdn (by decide), cdn (by decide), cdp (by decide), word_at K _ _ hp' hb]
    exact ⟨_, rfl, hp'.skip⟩
theorem reads_str (h : Nat) (t : List UInt8) (ht : Lib.validD t = true) : Reads g h ⟨5, t, [], []⟩ ((g ++ quo t) ++ g) := by
  refine ⟨34, escT t ++ [34], by simp [quo], by decide, by decide, by decide, fun w s R n K hw hA hR hb hh hK => ?_⟩
  obtain ⟨K, rfl⟩ : ∃ j, K = j + 1 := ⟨K - 1, by omega⟩
  obtain ⟨p, _, hp, e⟩ := go_at w 34 _ n (64 - (h : Int)) K hw hA (by decide) hb (by omega)
  have hp' : At s p (quo t ++ (g ++ R)) := by
    have : quo t ++ (g ++ R) = 34 :: ((escT t ++ [34]) ++ (g ++ R)) := by simp [quo]
    rw [this]; exact hp
  have hl := hp'.len
  have hq := esc_ge t
  have e1 : (quo t).length = (escT t).length + 2 := by simp [quo]
  simp only [List.length_append] at hl
  have ht2 := text_at (K - t.length - 7) t ht hb (by omega) hp'
  rw [show K - t.length - 7 + t.length + 7 = K by omega] at ht2
  rw [e, cdn (by decide), cdn (by decide), cdn (by decide), cdp (by decide), ht2]
  exact ⟨_, rfl, hp'.skip⟩
theorem reads_num (hg : whG g) (h : Nat) (t : List UInt8) (ht : NumT t) : Reads g h ⟨4, t, [], []⟩ ((g ++ t) ++ g) := by
  have ht' := ht
  obtain ⟨neg, D, e, hd, hgd, h48⟩ := ht
  obtain ⟨c, b, eb⟩ : ∃ c b, t = c :: b := by
    cases t with
    | nil =>
      have := hgd.1
      cases neg with
      | true => cases e
      | false => rw [show D = [] from e.symm] at this; simp at this
    | cons c b => exact ⟨c, b, rfl⟩
  have hc : c.toNat = 45 ∨ isD c := by
    rw [eb] at e
    cases neg with
    | true => left; rw [(List.cons.inj e).1]; rfl
    | false => right; exact hd c (by rw [show D = c :: b from e.symm]; exact List.mem_cons_self ..)
  unfold isD at hc
  have hW : ¬ isW c := by unfold isW; omega
  have hn3 : ∀ k : UInt8, k.toNat = 93 ∨ k.toNat = 125 → c ≠ k := fun k hk e => by rw [e] at hc; omega
  refine ⟨c, b, by rw [eb]; simp, hW, hn3 93 (by decide), hn3 125 (by decide), fun w s R n K hw hA hR hb hh hK => ?_⟩
  obtain ⟨K, rfl⟩ : ∃ j, K = j + 1 := ⟨K - 1, by omega⟩
  obtain ⟨p, _, hp, e⟩ := go_at w c _ n (64 - (h : Int)) K hw hA hW hb (by omega)
  have hp' : At s p (t ++ (g ++ R)) := by rw [eb]; exact hp
  have hl := hp'.len
  have hx : ∀ c u, g ++ R = c :: u → ¬ isD c := by
    intro c u e
    cases g with
    | nil => exact hR c u e
    | cons d g' =>
      have hd := hg d (List.mem_cons_self ..)
      have : d = c := (List.cons.inj e).1
      rw [← this]
      unfold isW at hd
      unfold isD
      omega
  rw [e, cdn (by omega), cdn (by omega), cdn (by omega), cdn (by omega), cdn (by omega), cdn (by omega), (num_place (by omega) K ht' hp' hx (by omega)).1]
  exact ⟨_, rfl, hp'.skip⟩
/-- an item of an array or an object, read -/
def ItemS (g : List UInt8) (h : Nat) (q : Bool) (p : IW) (c : UInt8) (b : List UInt8) : Prop :=
  ¬ isW c ∧ c ≠ 93 ∧ c ≠ 125 ∧ ∀ (w s R : List UInt8) (n : Int) (J K : Nat) (L : List (RT 4)) (ks : List (List UInt8)), whG w → At s n (w ++ (c :: (b ++ (g ++ R)))) → (∀ d u, R = d :: u → ¬ isD d) → s.length ≤ 20000 → h + 1 ≤ 64 → h + 2 * s.length + 60500 ≤ J → s.length + 30100 ≤ K →
    L.length ≤ 20000 → ks.length ≤ 30000 → (∀ k, p.1 = some k → k ∉ ks) → (q = true → ks.length + 1 ≤ 30000) →
    ∃ m, f404v2 (f397 J) K s n (cond q 7 6) [] L ks (64 - ((h + 1 : Nat) : Int)) = some (0, m, L ++ [RT.of TJson.ok p.2.1], ks ++ p.1.toList) ∧ At s m (g ++ R)
theorem item_sp (hg : whG g) (h : Nat) (q : Bool) (p : IW) (hr : Reads g h p.2.1 p.2.2) (h1 : q = true → ∃ k, p.1 = some k ∧ Lib.validD k = true) (h0 : q = false → p.1 = none) : ∃ c b, itW g p = g ++ (c :: (b ++ g)) ∧ ItemS g h q p c b := by
  obtain ⟨c, b, et, hW, h93, h125, hrd⟩ := hr
  have j94 : ∀ (w s R : List UInt8) (n : Int) (J K : Nat) (L : List (RT 4)) (ks : List (List UInt8)), whG w → At s n (w ++ (c :: (b ++ (g ++ R)))) → (∀ d u, R = d :: u → ¬ isD d) → s.length ≤ 20000 → h + 1 ≤ 64 → h + 2 * s.length + 60500 ≤ J → L.length ≤ 20000 →
      ∃ m, f404v2_j94 K (f397 J) s (64 - ((h + 1 : Nat) : Int)) L n ks = some (0, m, L ++ [RT.of TJson.ok p.2.1], ks) ∧ At s m (g ++ R) := by
    intro w s R n J K L ks hw hA hR hb hh hJ hL
    obtain ⟨m, m1, m2⟩ := hrd w s R n J hw hA hR hb (by omega) hJ
    refine ⟨m, ?_, m2⟩
    unfold f404v2_j94
    rw [i64w (by omega), show (64 - ((h + 1 : Nat) : Int)) + 1 = 64 - (h : Int) by omega, m1, Option.bind_some]
    show cond (decide ((0 : Int) = 0)) _ _ = _
    rw [cdp rfl, gdp (by omega)]
  cases q with
  | false =>
    have hp := h0 rfl
    refine ⟨c, b, by unfold itW; rw [hp]; exact et, hW, h93, h125, fun w s R n J K L ks hw hA hR hb hh hJ hK hL hks hin hk1 => ?_⟩
    obtain ⟨m, m1, m2⟩ := j94 w s R n J K L ks hw hA hR hb hh hJ hL
    refine ⟨m, ?_, m2⟩
    unfold f404v2
    rw [cdn (by decide), m1, hp, Option.toList_none, List.append_nil]
  | true =>
    obtain ⟨k, hp, hv⟩ := h1 rfl
    refine ⟨34, escT k ++ [34] ++ (g ++ 58 :: (g ++ (c :: b))), by unfold itW; rw [hp, et]; simp [quo], by decide, by decide, by decide, fun w s R n J K L ks hw hA hR hb hh hJ hK hL hks hin hk1 => ?_⟩
    have hA1 : At s n (w ++ (quo k ++ (g ++ 58 :: (g ++ (c :: (b ++ (g ++ R))))))) := by
      have : quo k ++ (g ++ 58 :: (g ++ (c :: (b ++ (g ++ R))))) = 34 :: (escT k ++ [34] ++ (g ++ 58 :: (g ++ (c :: b))) ++ (g ++ R)) := by simp [quo]
      rw [this]; exact hA
    have hA2 := hA1.skip
    have hA3 := hA2.skip
    have hA4 := hA3.skip
    have hl := hA1.len
    have hq := esc_ge k
    have e1 : (quo k).length = (escT k).length + 2 := by simp [quo]
    simp only [List.length_append] at hl
    obtain ⟨m, m1, m2⟩ := j94 g s R _ J K L (ks ++ [k]) hg hA4.next hR hb hh hJ hL
    refine ⟨m, ?_, m2⟩
    have ht := text_at (K - k.length - 7) k hv hb (by omega) hA2
    rw [show K - k.length - 7 + k.length + 7 = K by omega] at ht
    have hq1 : ∀ c' t, quo k ++ (g ++ 58 :: (g ++ (c :: (b ++ (g ++ R))))) = c' :: t → ¬ isW c' := by
      intro c' t e
      have : quo k ++ (g ++ 58 :: (g ++ (c :: (b ++ (g ++ R))))) = 34 :: (escT k ++ [34] ++ (g ++ 58 :: (g ++ (c :: (b ++ (g ++ R)))))) := by simp [quo]
      rw [this] at e
      rw [← (List.cons.inj e).1]
      decide
    unfold f404v2
    rw [cdp (show cond true (7 : Int) 6 = 7 from rfl), white_gap w _ n K hw hA1 hq1 hb (by omega), Option.bind_some, ht, Option.bind_some]
    show cond (decide ((0 : Int) ≠ 0)) _ _ = _
    rw [cdn (by decide)]
    show (f239 K ks k).bind _ = _
    rw [has_no K ks k (by omega) (by omega) (hin k hp), Option.bind_some, cond_false]
    show gd ((ks.length + 1) * 2 * 16 ≤ 281474976710656) _ = _
    rw [gdp (by omega)]
    show (f398 K s (n + ((w.length : Nat) : Int) + (((quo k).length : Nat) : Int))).bind _ = _
    rw [white_gap g _ _ K hg hA3 (fun c' t e => by rw [← (List.cons.inj e).1]; decide) hb (by omega), Option.bind_some, is_yes _ hA4 hb, Option.bind_some]
    show cond false _ (f404v2_j94 K (f397 J) s (64 - ((h + 1 : Nat) : Int)) L _ (ks ++ [k])) = _
    rw [cond_false, m1, hp]
    rfl
end
section
variable {g : List UInt8}
/-- what stands behind an item, up to the end -/
def restT (g : List UInt8) (e : UInt8) (r : List IW) (R : List UInt8) : List UInt8 := r.flatMap (fun y => 44 :: itW g y) ++ (g ++ e :: (g ++ R))
theorem restT_hd (hg : whG g) (e : UInt8) (he : e = 93 ∨ e = 125) (r : List IW) (R : List UInt8) : ∀ d u, restT g e r R = d :: u → ¬ isD d := by
  intro d u h
  cases r with
  | nil =>
    unfold restT at h
    rw [List.flatMap_nil, List.nil_append] at h
    cases g with
    | nil =>
      have : e = d := (List.cons.inj h).1
      rw [← this]
      rcases he with rfl | rfl <;> decide
    | cons x g' =>
      have hx := hg x (List.mem_cons_self ..)
      have : x = d := (List.cons.inj h).1
      rw [← this]
      unfold isW at hx
      unfold isD
      omega
  | cons y r =>
    have : (44 : UInt8) = d := (List.cons.inj h).1
    rw [← this]
    decide
theorem flat_ge (g : List UInt8) : ∀ r : List IW, r.length ≤ (r.flatMap fun y => 44 :: itW g y).length
  | [] => Nat.zero_le _
  | y :: r => by
    have := flat_ge g r
    rw [List.flatMap_cons, List.length_append, List.length_cons, List.length_cons]
    omega
theorem items_loop (hg : whG g) (h : Nat) (hh : h + 1 ≤ 64) (q : Bool) (s : List UInt8) (hb : s.length ≤ 20000) (J : Nat) (hJ : h + 2 * s.length + 60500 ≤ J) (R : List UInt8) :
    ∀ (r : List IW) (p : IW) (c : UInt8) (b w : List UInt8) (n : Int) (K : Nat) (L : List (RT 4)) (ks : List (List UInt8)),
      (∀ p ∈ r, ∃ c b, itW g p = g ++ (c :: (b ++ g)) ∧ ItemS g h q p c b) → ItemS g h q p c b → whG w → At s n (w ++ (c :: (b ++ (g ++ restT g (cond q 125 93) r R)))) →
      (L.length : Int) ≤ n → (ks ++ ((p :: r).map (·.1.toList)).flatten).Nodup → ks.length + ((p :: r).map (·.1.toList)).flatten.length ≤ 30000 → (q = true → ∀ x ∈ p :: r, ∃ k, x.1 = some k) → r.length + s.length + 30102 ≤ K →
      ∃ m, f403_l60 (f397 J) s (cond q 7 6) (64 - ((h + 1 : Nat) : Int)) (cond q 125 93) K n L ks = some (.r (0, cond q 7 6, L ++ (p :: r).map (fun p => RT.of TJson.ok p.2.1), ks ++ ((p :: r).map (·.1.toList)).flatten, m)) ∧ At s m (g ++ R) := by
  intro r
  induction r with
  | nil =>
    intro p c b w n K L ks hr hp hw hA hL hnd hkl hq hK
    obtain ⟨K, rfl⟩ : ∃ j, K = j + 1 := ⟨K - 1, by omega⟩
    simp only [List.map_cons, List.map_nil, List.flatten_cons, List.flatten_nil, List.append_nil, List.length_nil] at hnd hkl hK ⊢
    have hl := hA.len
    obtain ⟨hW, h93, h125, hi⟩ := hp
    obtain ⟨m, m1, m2⟩ := hi w s _ n J K L ks hw hA (restT_hd hg _ (by cases q; exact .inl rfl; exact .inr rfl) [] R) hb hh hJ (by omega) (by omega) (by omega) (fun k hk hin => by
      rw [hk] at hnd
      exact (List.nodup_append.1 hnd).2.2 k hin k (by simp) rfl) (fun hq' => by
      obtain ⟨k, hk⟩ := hq hq' p (List.mem_cons_self ..)
      rw [hk] at hkl
      simpa using hkl)
    have m3 : At s m ((g ++ g) ++ cond q 125 93 :: (g ++ R)) := by
      have : g ++ restT g (cond q 125 93) [] R = (g ++ g) ++ cond q 125 93 :: (g ++ R) := by simp [restT]
      rwa [this] at m2
    have m4 := m3.skip
    refine ⟨m + (((g ++ g).length : Nat) : Int) + 1, ?_, m4.next⟩
    have hgl := m3.len
    simp only [List.length_append] at hgl
    rw [f403_l60, m1, Option.bind_some]
    show cond (decide ((0 : Int) ≠ 0)) _ _ = _
    rw [cdn (by decide)]
    show (f398 K s m).bind _ = _
    rw [white_gap (g ++ g) _ m K (whG_app hg hg) m3 (fun d u e => by
      have : cond q (125 : UInt8) 93 = d := (List.cons.inj e).1
      rw [← this]
      cases q <;> decide) hb (by rw [List.length_append]; omega), Option.bind_some, is_yes _ m4 hb, Option.bind_some]
    rfl
  | cons y r ih =>
    intro p c b w n K L ks hr hp hw hA hL hnd hkl hq hK
    obtain ⟨K, rfl⟩ : ∃ j, K = j + 1 := ⟨K - 1, by omega⟩
    rw [List.length_cons] at hK
    have hl := hA.len
    obtain ⟨hW, h93, h125, hi⟩ := hp
    have hnd' : (ks ++ (p.1.toList ++ ((y :: r).map (·.1.toList)).flatten)).Nodup := hnd
    have hkl' : ks.length + (p.1.toList ++ ((y :: r).map (·.1.toList)).flatten).length ≤ 30000 := hkl
    obtain ⟨m, m1, m2⟩ := hi w s _ n J K L ks hw hA (restT_hd hg _ (by cases q; exact .inl rfl; exact .inr rfl) (y :: r) R) hb hh hJ (by omega) (by omega) (by omega) (fun k hk hin => by
      rw [hk] at hnd'
      exact (List.nodup_append.1 hnd').2.2 k hin k (by simp) rfl) (fun hq' => by
      obtain ⟨k, hk⟩ := hq hq' p (List.mem_cons_self ..)
      rw [hk] at hkl'
      simp only [List.length_append, Option.toList_some, List.length_cons, List.length_nil] at hkl'
      omega)
    obtain ⟨c', b', ey, hy⟩ := hr y (List.mem_cons_self ..)
    have m3 : At s m (g ++ 44 :: (g ++ (c' :: (b' ++ (g ++ restT g (cond q 125 93) r R))))) := by
      have : g ++ restT g (cond q 125 93) (y :: r) R = g ++ 44 :: (g ++ (c' :: (b' ++ (g ++ restT g (cond q 125 93) r R)))) := by simp [restT, ey]
      rwa [this] at m2
    have m4 := m3.skip
    have hgl := m3.len
    simp only [List.length_append, List.length_cons] at hgl
    have hl2 := hA.len
    have hmn : n ≤ m := by
      have a1 := hA.len.2
      have a2 := m2.len.2
      simp only [List.length_append, List.length_cons] at a1 a2
      omega
    obtain ⟨m', q1, q2⟩ := ih y c' b' g (m + ((g.length : Nat) : Int) + 1) K (L ++ [RT.of TJson.ok p.2.1]) (ks ++ p.1.toList) (fun z hz => hr z (List.mem_cons_of_mem _ hz)) hy hg m4.next (by rw [List.length_append, List.length_cons, List.length_nil]; omega) (by rw [List.append_assoc]; exact hnd') (by rw [List.length_append] at hkl' ⊢; omega) (fun hq' x hx => hq hq' x (List.mem_cons_of_mem _ hx)) (by omega)
    refine ⟨m', ?_, q2⟩
    rw [f403_l60, m1, Option.bind_some]
    show cond (decide ((0 : Int) ≠ 0)) _ _ = _
    rw [cdn (by decide)]
    show (f398 K s m).bind _ = _
    rw [white_gap g _ m K hg m3 (fun d u e => by rw [← (List.cons.inj e).1]; decide) hb (by omega), Option.bind_some, is_no _ m4 (by cases q <;> decide), Option.bind_some]
    show cond false _ _ = _
    rw [cond_false]
    show (f401 K s (m + ((g.length : Nat) : Int)) 44).bind _ = _
    rw [is_yes _ m4 hb, Option.bind_some]
    show cond false _ _ = _
    rw [cond_false]
    show f403_l60 (f397 J) s (cond q 7 6) (64 - ((h + 1 : Nat) : Int)) (cond q 125 93) K (m + ((g.length : Nat) : Int) + 1) (L ++ [RT.of TJson.ok p.2.1]) (ks ++ p.1.toList) = _
    rw [q1]
    simp
theorem many_rd (hg : whG g) (h : Nat) (q : Bool) (ps : List IW) (ks : List (List UInt8)) (hr : ∀ p ∈ ps, Reads g h p.2.1 p.2.2) (h1 : q = true → ps.map (·.1) = ks.map some) (h0 : q = false → ks = [] ∧ ∀ p ∈ ps, p.1 = none) (hk3 : ks.length ≤ 30000) (hn : ks.Nodup) (hv : ∀ k ∈ ks, Lib.validD k = true)
    (s R : List UInt8) (n : Int) (K : Nat) (hA : At s n (cond q 123 91 :: (itsW g ps ++ (g ++ cond q 125 93 :: (g ++ R))))) (hb : s.length ≤ 20000) (hh : h + 1 ≤ 64) (hK : h + 2 * s.length + 60500 ≤ K) :
    ∃ m, f403 (f397 K) K s n (cond q 7 6) (cond q 125 93) (64 - ((h + 1 : Nat) : Int)) = some (0, cond q 7 6, ps.map (fun p => RT.of TJson.ok p.2.1), ks, m) ∧ At s m (g ++ R) := by
  have hl := hA.len
  rw [List.length_cons] at hl
  have hfl : (ps.map (·.1.toList)).flatten = ks := by
    cases q with
    | false =>
      obtain ⟨e, hno⟩ := h0 rfl
      rw [e]
      apply List.flatten_eq_nil_iff.2
      intro l hl
      obtain ⟨p, hp, rfl⟩ := List.mem_map.1 hl
      rw [hno p hp]
      rfl
    | true =>
      have e := h1 rfl
      have : ps.map (·.1.toList) = (ps.map (·.1)).map Option.toList := by rw [List.map_map]; rfl
      rw [this, e, List.map_map]
      have : ∀ l : List (List UInt8), (l.map (Option.toList ∘ some)).flatten = l := by
        intro l
        induction l with
        | nil => rfl
        | cons a t ih => rw [List.map_cons, List.flatten_cons, ih]; rfl
      exact this ks
  have key : ∀ p ∈ ps, q = true → ∃ k, p.1 = some k ∧ Lib.validD k = true := by
    intro p hp hq
    have h2 : p.1 ∈ ps.map (·.1) := List.mem_map_of_mem hp
    rw [h1 hq] at h2
    obtain ⟨k, k1, k2⟩ := List.mem_map.1 h2
    exact ⟨k, k2.symm, hv k k1⟩
  have its : ∀ p ∈ ps, ∃ c b, itW g p = g ++ (c :: (b ++ g)) ∧ ItemS g h q p c b := fun p hp => item_sp hg h q p (hr p hp) (key p hp) (fun hq => (h0 hq).2 p hp)
  have hge : ps.length ≤ (itsW g ps).length := by
    cases ps with
    | nil => exact Nat.zero_le _
    | cons p r =>
      obtain ⟨c, b, ep, _⟩ := its p (List.mem_cons_self ..)
      have := flat_ge g r
      rw [itsW, ep]
      simp only [List.length_append, List.length_cons]
      omega
  rw [List.length_append] at hl
  unfold f403
  rw [cdn (by omega), i64w (by omega)]
  cases ps with
  | nil =>
    have hks : ks = [] := by rw [← hfl]; rfl
    have hA1 : At s (n + 1) (g ++ cond q 125 93 :: (g ++ R)) := hA.next
    have hA2 := hA1.skip
    have hl2 := hA1.len
    simp only [List.length_append] at hl2
    refine ⟨n + 1 + ((g.length : Nat) : Int) + 1, ?_, hA2.next⟩
    rw [white_gap g _ _ K hg hA1 (fun d u e => by
      have : cond q (125 : UInt8) 93 = d := (List.cons.inj e).1
      rw [← this]
      cases q <;> decide) hb (by omega), Option.bind_some, is_yes _ hA2 hb, Option.bind_some, hks]
    rfl
  | cons p r =>
    obtain ⟨c, b, ep, hp⟩ := its p (List.mem_cons_self ..)
    have hA1 : At s (n + 1) (g ++ (c :: (b ++ (g ++ restT g (cond q 125 93) r R)))) := by
      have e : itsW g (p :: r) ++ (g ++ cond q 125 93 :: (g ++ R)) = g ++ (c :: (b ++ (g ++ restT g (cond q 125 93) r R))) := by simp [itsW, ep, restT]
      have := hA.next
      rwa [e] at this
    have hA2 := hA1.skip
    have hl2 := hA1.len
    simp only [List.length_append] at hl2
    rw [List.length_cons] at hge
    obtain ⟨m, m1, m2⟩ := items_loop hg h hh q s hb K hK R r p c b [] (n + 1 + ((g.length : Nat) : Int)) K [] [] (fun z hz => its z (List.mem_cons_of_mem _ hz)) hp whG_nil hA2 (by rw [List.length_nil]; omega) (by rw [List.nil_append, hfl]; exact hn) (by rw [hfl, List.length_nil]; omega) (fun hq x hx => by
      obtain ⟨k, hk, _⟩ := key x hx hq
      exact ⟨k, hk⟩) (by omega)
    refine ⟨m, ?_, m2⟩
    have hne : ¬ ((c.toNat : Nat) : Int) = (((cond q (125 : UInt8) 93).toNat : Nat) : Int) := by
      intro e
      have : c = cond q 125 93 := UInt8.toNat.inj (by omega)
      cases q with
      | false => exact hp.2.1 this
      | true => exact hp.2.2.1 this
    rw [white_gap g _ _ K hg hA1 (fun d u e => by rw [← (List.cons.inj e).1]; exact hp.1) hb (by omega), Option.bind_some, is_no _ hA2 hne, Option.bind_some]
    show cond false _ _ = _
    rw [cond_false]
    show Option.bind (f403_l60 (f397 K) s (cond q 7 6) (64 - ((h + 1 : Nat) : Int)) (cond q 125 93) K (n + 1 + ((g.length : Nat) : Int)) [] []) _ = _
    rw [m1, hfl]
    rfl
theorem sp_reads (hg : whG g) (h : Nat) (v : TJson) (t : List UInt8) (hs : Sp g h v t) : Reads g h v t := by
  induction hs with
  | lit h k hk => exact reads_lit h k hk
  | num h t ht => exact reads_num hg h t ht
  | str h t ht => exact reads_str h t ht
  | arr h ps hn hu ih =>
    refine ⟨91, itsW g ps ++ (g ++ [93]), by simp, by decide, by decide, by decide, fun w s R n K hw hA hR hb hh hK => ?_⟩
    obtain ⟨K, rfl⟩ : ∃ j, K = j + 1 := ⟨K - 1, by omega⟩
    obtain ⟨p, _, hp, e⟩ := go_at w 91 _ n (64 - ((h + 1 : Nat) : Int)) K hw hA (by decide) hb (by omega)
    have hp' : At s p (91 :: (itsW g ps ++ (g ++ 93 :: (g ++ R)))) := by
      have : itsW g ps ++ (g ++ [93]) ++ (g ++ R) = itsW g ps ++ (g ++ 93 :: (g ++ R)) := by simp
      rwa [this] at hp
    obtain ⟨m, m1, m2⟩ := many_rd hg h false ps [] ih (fun h => by cases h) (fun _ => ⟨rfl, hn⟩) (by simp) (by simp) (by simp) s R p K hp' hb hh (by omega)
    refine ⟨m, ?_, m2⟩
    rw [e, cdn (by decide), cdn (by decide), cdn (by decide), cdn (by decide), cdp (by decide)]
    have m1 : f403 (f397 K) K s p 6 93 (64 - ((h + 1 : Nat) : Int)) = some (0, 6, ps.map (fun p => RT.of TJson.ok p.2.1), [], m) := m1
    rw [m1]
    rfl
  | obj h ks ps hk h3 hn hv hu ih =>
    refine ⟨123, itsW g ps ++ (g ++ [125]), by simp, by decide, by decide, by decide, fun w s R n K hw hA hR hb hh hK => ?_⟩
    obtain ⟨K, rfl⟩ : ∃ j, K = j + 1 := ⟨K - 1, by omega⟩
    obtain ⟨p, _, hp, e⟩ := go_at w 123 _ n (64 - ((h + 1 : Nat) : Int)) K hw hA (by decide) hb (by omega)
    have hp' : At s p (123 :: (itsW g ps ++ (g ++ 125 :: (g ++ R)))) := by
      have : itsW g ps ++ (g ++ [125]) ++ (g ++ R) = itsW g ps ++ (g ++ 125 :: (g ++ R)) := by simp
      rwa [this] at hp
    obtain ⟨m, m1, m2⟩ := many_rd hg h true ps ks ih (fun _ => hk) (fun h => by cases h) h3 hn hv s R p K hp' hb hh (by omega)
    refine ⟨m, ?_, m2⟩
    rw [e, cdn (by decide), cdn (by decide), cdn (by decide), cdn (by decide), cdn (by decide), cdp (by decide)]
    have m1 : f403 (f397 K) K s p 7 125 (64 - ((h + 1 : Nat) : Int)) = some (0, 7, ps.map (fun p => RT.of TJson.ok p.2.1), ks, m) := m1
    rw [m1]
    rfl
end
theorem parse_sp (g : List UInt8) (hg : whG g) (v : TJson) (t : List UInt8) (K : Nat) (hs : Sp g 64 v t) (hb : t.length ≤ 20000) (hK : 200000 ≤ K) : f396 K t = some (0, v.fKind, v.fText, v.fL, v.fKeys) := by
  obtain ⟨c, b, e, hW, _, _, hr⟩ := sp_reads hg 64 v t hs
  have hA : At t 0 (g ++ (c :: (b ++ (g ++ [])))) := by rw [List.append_nil, ← e]; exact At.start t
  obtain ⟨m, m1, m2⟩ := hr g t [] 0 K hg hA (fun d u e => by cases e) hb (by omega) (by omega)
  have m1 : f397 K t 0 0 = some (0, v.fKind, v.fText, v.fL, v.fKeys, m) := m1
  have m3 := m2.skip
  have hl := m3.len
  have hl2 := m2.len
  simp only [List.length_append, List.length_nil] at hl hl2
  unfold f396
  rw [cdn (by omega), m1, Option.bind_some]
  show cond (decide ((0 : Int) ≠ 0)) _ (Option.bind (f398 K t m) _) = _
  rw [cdn (by decide), white_gap g [] m K hg m2 (fun d u e => by cases e) hb (by omega), Option.bind_some, cdn (by omega)]
end Go.Proofs.Abs
