/- JsonWhite: the text of a right value is read, with its white. -/
import Derived.Test.YtnhjiioiejpbgaaDoorPJw5
set_option linter.unusedSimpArgs false
namespace Go.Proofs.Abs
open Go
set_option linter.unusedVariables false
set_option maxRecDepth 100000
/-- white -/
def isW (c : UInt8) : Prop := c.toNat = 32 ∨ c.toNat = 9 ∨ c.toNat = 10 ∨ c.toNat = 13
instance (c : UInt8) : Decidable (isW c) := by unfold isW; infer_instance
instance (c : UInt8) : Decidable (isD c) := by unfold isD; infer_instance
def whG (w : List UInt8) : Prop := ∀ c ∈ w, isW c
theorem whG_nil : whG [] := fun c h => (List.not_mem_nil h).elim
theorem whG_app {a b : List UInt8} (ha : whG a) (hb : whG b) : whG (a ++ b) := fun c h => by
  rcases List.mem_append.1 h with h | h
  · exact ha c h
  · exact hb c h
theorem esc_ge : ∀ l : List UInt8, l.length ≤ (escT l).length
  | [] => Nat.le_refl _
  | c :: t => by
    have := esc_ge t
    have h1 : 1 ≤ (escB c).length := by
      unfold escB
      split
      · exact (by decide : 1 ≤ 2)
      · split
        · exact (by decide : 1 ≤ 6)
        · exact (by decide : 1 ≤ 1)
    rw [escT_cons, List.length_append, List.length_cons]
    omega
section
variable {s g : List UInt8}
theorem white_gap : ∀ (w : List UInt8) (R : List UInt8) (n : Int) (K : Nat), whG w → At s n (w ++ R) → (∀ c t, R = c :: t → ¬ isW c) → s.length ≤ 20000 → w.length + 1 ≤ K → f398 K s n = some (n + ((w.length : Nat) : Int)) := by
  intro w
  induction w with
  | nil =>
    intro R n K hw h hR hb hK
    obtain ⟨K, rfl⟩ : ∃ j, K = j + 1 := ⟨K - 1, by omega⟩
    cases R with
    | nil => rw [white_end K h]; simp
    | cons c t =>
      have := hR c t rfl
      unfold isW at this
      have h : At s n (c :: t) := h
      rw [white_at K h (by omega) (by omega) (by omega) (by omega)]
      simp
  | cons d w ih =>
    intro R n K hw h hR hb hK
    rw [List.length_cons] at hK
    obtain ⟨K, rfl⟩ : ∃ j, K = j + 1 := ⟨K - 1, by omega⟩
    have hl := h.len
    simp only [List.cons_append, List.length_cons] at hl
    have hd := hw d (List.mem_cons_self ..)
    unfold isW at hd
    have h' : At s n (d :: (w ++ R)) := h
    have i := ih R (n + 1) K (fun c hc => hw c (List.mem_cons_of_mem _ hc)) h'.next hR hb (by omega)
    unfold f398 at i ⊢
    have st : f398_l4 s (K + 1) n = f398_l4 s K (n + 1) := by
      rw [f398_l4, cdp (by omega), gdp (by omega), h'.get]
      have J : f398_j69 (f398_l4 s K) K n = f398_l4 s K (n + 1) := by unfold f398_j69; rw [i64w (by omega)]
      rw [J]
      rcases hd with e | e | e | e
      · rw [cdp (by omega), cdp (by omega)]
      · rw [cdn (by omega), cdp (by omega), cdp (by omega)]
      · rw [cdn (by omega), cdn (by omega), cdp (by omega), cdp (by omega)]
      · rw [cdn (by omega), cdn (by omega), cdn (by omega), cdp (by omega)]
    rw [st, i, List.length_cons]
    congr 1
    omega
/-- what a value's text is read as, wherever it stands: white, its first sign c, more, and the white g behind -/
def ReadS (g : List UInt8) (h : Nat) (v : TJson) (c : UInt8) (b : List UInt8) : Prop :=
  ¬ isW c ∧ c ≠ 93 ∧ c ≠ 125 ∧ ∀ (w s R : List UInt8) (n : Int) (K : Nat) , whG w → At s n (w ++ (c :: (b ++ (g ++ R)))) → (∀ d u, R = d :: u → ¬ isD d) → s.length ≤ 20000 → h ≤ 64 → h + 2 * s.length + 500 ≤ K →
    ∃ m, f397 K s n (64 - (h : Int)) = some (0, v.fKind, v.fText, v.fL, v.fKeys, m) ∧ At s m (g ++ R)
def Reads (g : List UInt8) (h : Nat) (v : TJson) (t : List UInt8) : Prop := ∃ c b, t = g ++ (c :: (b ++ g)) ∧ ReadS g h v c b
theorem at_skip {n : Int} {w R : List UInt8} (h : At s n (w ++ R)) : At s (n + ((w.length : Nat) : Int)) R := h.skip
/-- behind the white: the sign, and what is chosen by it -/
theorem go_at (w : List UInt8) (c : UInt8) (X : List UInt8) (n d : Int) (K : Nat) (hw : whG w) (h : At s n (w ++ c :: X)) (hc : ¬ isW c) (hb : s.length ≤ 20000) (hK : s.length + 1 ≤ K) :
    ∃ p, p = n + ((w.length : Nat) : Int) ∧ At s p (c :: X) ∧ f397 (K + 1) s n d = (cond (decide (((c.toNat : Nat) : Int) = (110 : Int))) ((f399 K s p ([110, 117, 108, 108] : List UInt8) (1 : Int)).bind fun r58 => some (r58.1, r58.2.1, ([] : List UInt8), ([] : List (RT 4)), ([] : List (List UInt8)), r58.2.2)) (cond (decide (((c.toNat : Nat) : Int) = (102 : Int))) ((f399 K s p ([102, 97, 108, 115, 101] : List UInt8) (2 : Int)).bind fun r74 => some (r74.1, r74.2.1, ([] : List UInt8), ([] : List (RT 4)), ([] : List (List UInt8)), r74.2.2)) (cond (decide (((c.toNat : Nat) : Int) = (116 : Int))) ((f399 K s p ([116, 114, 117, 101] : List UInt8) (3 : Int)).bind fun r90 => some (r90.1, r90.2.1, ([] : List UInt8), ([] : List (RT 4)), ([] : List (List UInt8)), r90.2.2)) (cond (decide (((c.toNat : Nat) : Int) = (34 : Int))) ((f400 K s p).bind fun r106 => cond (decide (r106.2.1 ≠ (0 : Int))) (some (r106.2.1, (0 : Int), ([] : List UInt8), ([] : List (RT 4)), ([] : List (List UInt8)), r106.2.2)) (some ((0 : Int), (5 : Int), r106.1, ([] : List (RT 4)), ([] : List (List UInt8)), r106.2.2))) (cond (decide (((c.toNat : Nat) : Int) = (91 : Int))) ((f403 (f397 K) K s p (6 : Int) (93 : UInt8) d).bind fun r147 => some (r147.1, r147.2.1, ([] : List UInt8), r147.2.2.1, r147.2.2.2.1, r147.2.2.2.2)) (cond (decide (((c.toNat : Nat) : Int) = (123 : Int))) ((f403 (f397 K) K s p (7 : Int) (125 : UInt8) d).bind fun r164 => some (r164.1, r164.2.1, ([] : List UInt8), r164.2.2.1, r164.2.2.2.1, r164.2.2.2.2)) ((f405 K s p).bind fun r175 => some (r175.1, r175.2.1, r175.2.2.1, ([] : List (RT 4)), ([] : List (List UInt8)), r175.2.2.2))))))) : Option (Int × Int × (List UInt8) × (List (RT 4)) × (List (List UInt8)) × Int)) := by
  have hl := h.len
  simp only [List.length_append, List.length_cons] at hl
  have h1 : At s (n + ((w.length : Nat) : Int)) (c :: X) := h.skip
  refine ⟨_, rfl, h1, ?_⟩
  have hl1 := h1.len
  rw [List.length_cons] at hl1
  rw [f397]
  unfold f397_s
  rw [white_gap w (c :: X) n K hw h (fun c' t e => by cases e; exact hc) hb (by omega), Option.bind_some, cdn (by omega), gdp (by omega), h1.get]
theorem word_at {n k : Int} (K : Nat) (a R : List UInt8) (h : At s n (a ++ R)) (hb : s.length ≤ 20000) : f399 K s n a k = some (0, k, n + ((a.length : Nat) : Int)) := by
  have hl := h.len
  simp only [List.length_append] at hl
  unfold f399
  rw [i64w (by omega), cdn (by omega), i64w (n := n + ((a.length : Nat) : Int)) (by omega), gdp (by omega), h.slk a.length (by simp), List.take_left, decide_eq_false (fun q => q rfl)]
  unfold f399_j43
  rw [cond_false, i64w (by omega)]
theorem reads_lit (h : Nat) (k : Int) (hk : k = 1 ∨ k = 2 ∨ k = 3) : Reads g h ⟨k, [], [], []⟩ ((g ++ wd k) ++ g) := by
  rcases hk with rfl | rfl | rfl
  · refine ⟨110, [117, 108, 108], by simp [wd], by decide, by decide, by decide, fun w s R n K hw hA hR hb hh hK => ?_⟩
    obtain ⟨K, rfl⟩ : ∃ j, K = j + 1 := ⟨K - 1, by omega⟩
    obtain ⟨p, _, hp, e⟩ := go_at w 110 _ n (64 - (h : Int)) K hw hA (by decide) hb (by omega)
    have hp' : At s p ([110, 117, 108, 108] ++ (g ++ R)) := hp
    rw [e, cdp (by decide), word_at K _ _ hp' hb]
    exact ⟨_, rfl, hp'.skip⟩
  · refine ⟨102, [97, 108, 115, 101], by simp [wd], by decide, by decide, by decide, fun w s R n K hw hA hR hb hh hK => ?_⟩
    obtain ⟨K, rfl⟩ : ∃ j, K = j + 1 := ⟨K - 1, by omega⟩
    obtain ⟨p, _, hp, e⟩ := go_at w 102 _ n (64 - (h : Int)) K hw hA (by decide) hb (by omega)
    have hp' : At s p ([102, 97, 108, 115, 101] ++ (g ++ R)) := hp
    rw [e, cdn (by decide), cdp (by decide), word_at K _ _ hp' hb]
    exact ⟨_, rfl, hp'.skip⟩
  · refine ⟨116, [114, 117, 101], by simp [wd], by decide, by decide, by decide, fun w s R n K hw hA hR hb hh hK => ?_⟩
    obtain ⟨K, rfl⟩ : ∃ j, K = j + 1 := ⟨K - 1, by omega⟩
    obtain ⟨p, _, hp, e⟩ := go_at w 116 _ n (64 - (h : Int)) K hw hA (by decide) hb (by omega)
    have hp' : At s p ([116, 114, 117, 101] ++ (g ++ R)) := hp
    rw [e, cdn (by decide), cdn (by decide), cdp (by decide), word_at K _ _ hp' hb]
    exact ⟨_, rfl, hp'.skip⟩
theorem reads_str (h : Nat) (t : List UInt8) (ht : Lib.validD t = true) : Reads g h ⟨5, t, [], []⟩ ((g ++ quo t) ++ g) := by
  refine ⟨34, escT t ++ [34], by simp [quo], by decide, by decide, by decide, fun w s R n K hw hA hR hb hh hK => ?_⟩
  obtain ⟨K, rfl⟩ : ∃ j, K = j + 1 := ⟨K - 1, by omega⟩
  obtain ⟨p, _, hp, e⟩ := go_at w 34 _ n (64 - (h : Int)) K hw hA (by decide) hb (by omega)
  have hp' : At s p (quo t ++ (g ++ R)) := by
    have : quo t ++ (g ++ R) = 34 :: ((escT t ++ [34]) ++ (g ++ R)) := by simp [quo]
    rw [this]; exact hp
  have hl := hp'.len
  have hq := esc_ge t
  have e1 : (quo t).length = (escT t).length + 2 := by simp [quo]
  simp only [List.length_append] at hl
  have ht2 := text_at (K - t.length - 7) t ht hb (by omega) hp'
  rw [show K - t.length - 7 + t.length + 7 = K by omega] at ht2
  rw [e, cdn (by decide), cdn (by decide), cdn (by decide), cdp (by decide), ht2]
  exact ⟨_, rfl, hp'.skip⟩
theorem reads_num (hg : whG g) (h : Nat) (t : List UInt8) (ht : NumT t) : Reads g h ⟨4, t, [], []⟩ ((g ++ t) ++ g) := by
  have ht' := ht
  obtain ⟨neg, D, e, hd, hgd, h48⟩ := ht
  obtain ⟨c, b, eb⟩ : ∃ c b, t = c :: b := by
    cases t with
    | nil =>
      have := hgd.1
      cases neg with
      | true => cases e
      | false => rw [show D = [] from e.symm] at this; simp at this
    | cons c b => exact ⟨c, b, rfl⟩
  have hc : c.toNat = 45 ∨ isD c := by
    rw [eb] at e
    cases neg with
    | true => left; rw [(List.cons.inj e).1]; rfl
    | false => right; exact hd c (by rw [show D = c :: b from e.symm]; exact List.mem_cons_self ..)
  unfold isD at hc
  have hW : ¬ isW c := by unfold isW; omega
  have hn3 : ∀ k : UInt8, k.toNat = 93 ∨ k.toNat = 125 → c ≠ k := fun k hk e => by rw [e] at hc; omega
  refine ⟨c, b, by rw [eb]; simp, hW, hn3 93 (by decide), hn3 125 (by decide), fun w s R n K hw hA hR hb hh hK => ?_⟩
  obtain ⟨K, rfl⟩ : ∃ j, K = j + 1 := ⟨K - 1, by omega⟩
  obtain ⟨p, _, hp, e⟩ := go_at w c _ n (64 - (h : Int)) K hw hA hW hb (by omega)
  have hp' : At s p (t ++ (g ++ R)) := by rw [eb]; exact hp
  have hl := hp'.len
  have hx : ∀ c u, g ++ R = c :: u → ¬ isD c := by
    intro c u e
    cases g with
    | nil => exact hR c u e
    | cons d g' =>
      have hd := hg d (List.mem_cons_self ..)
      have : d = c := (List.cons.inj e).1
      rw [← this]
      unfold isW at hd
      unfold isD
      omega
  rw [e, cdn (by omega), cdn (by omega), cdn (by omega), cdn (by omega), cdn (by omega), cdn (by omega), (num_place hb K ht' hp' hx (by omega)).1]
  exact ⟨_, rfl, hp'.skip⟩
/-- an item of an array or an object, read -/
def ItemS (g : List UInt8) (h : Nat) (q : Bool) (p : IW) (c : UInt8) (b : List UInt8) : Prop :=
  ¬ isW c ∧ c ≠ 93 ∧ c ≠ 125 ∧ ∀ (w s R : List UInt8) (n : Int) (J K : Nat) (L : List (RT 4)) (ks : List (List UInt8)), whG w → At s n (w ++ (c :: (b ++ (g ++ R)))) → (∀ d u, R = d :: u → ¬ isD d) → s.length ≤ 20000 → h + 1 ≤ 64 → h + 2 * s.length + 500 ≤ J → s.length + 400 ≤ K →
    L.length ≤ 20000 → ks.length ≤ 300 → (∀ k, p.1 = some k → k ∉ ks) → (q = true → ks.length + 1 ≤ 300) →
    ∃ m, f404v2 (f397 J) K s n (cond q 7 6) [] L ks (64 - ((h + 1 : Nat) : Int)) = some (0, m, L ++ [RT.of TJson.ok p.2.1], ks ++ p.1.toList) ∧ At s m (g ++ R)
theorem item_sp (hg : whG g) (h : Nat) (q : Bool) (p : IW) (hr : Reads g h p.2.1 p.2.2) (h1 : q = true → ∃ k, p.1 = some k ∧ Lib.validD k = true) (h0 : q = false → p.1 = none) : ∃ c b, itW g p = g ++ (c :: (b ++ g)) ∧ ItemS g h q p c b := by
  obtain ⟨c, b, et, hW, h93, h125, hrd⟩ := hr
  have j94 : ∀ (w s R : List UInt8) (n : Int) (J K : Nat) (L : List (RT 4)) (ks : List (List UInt8)), whG w → At s n (w ++ (c :: (b ++ (g ++ R)))) → (∀ d u, R = d :: u → ¬ isD d) → s.length ≤ 20000 → h + 1 ≤ 64 → h + 2 * s.length + 500 ≤ J → L.length ≤ 20000 →
      ∃ m, f404v2_j94 K (f397 J) s (64 - ((h + 1 : Nat) : Int)) L n ks = some (0, m, L ++ [RT.of TJson.ok p.2.1], ks) ∧ At s m (g ++ R) := by
    intro w s R n J K L ks hw hA hR hb hh hJ hL
    obtain ⟨m, m1, m2⟩ := hrd w s R n J hw hA hR hb (by omega) hJ
    refine ⟨m, ?_, m2⟩
    unfold f404v2_j94
    rw [i64w (by omega), show (64 - ((h + 1 : Nat) : Int)) + 1 = 64 - (h : Int) by omega, m1, Option.bind_some]
    show cond (decide ((0 : Int) = 0)) _ _ = _
    rw [cdp rfl, gdp (by omega)]
  cases q with
  | false =>
    have hp := h0 rfl
    refine ⟨c, b, by unfold itW; rw [hp]; exact et, hW, h93, h125, fun w s R n J K L ks hw hA hR hb hh hJ hK hL hks hin hk1 => ?_⟩
    obtain ⟨m, m1, m2⟩ := j94 w s R n J K L ks hw hA hR hb hh hJ hL
    refine ⟨m, ?_, m2⟩
    unfold f404v2
    rw [cdn (by decide), m1, hp, Option.toList_none, List.append_nil]
  | true =>
    obtain ⟨k, hp, hv⟩ := h1 rfl
    refine ⟨34, escT k ++ [34] ++ (g ++ 58 :: (g ++ (c :: b))), by unfold itW; rw [hp, et]; simp [quo], by decide, by decide, by decide, fun w s R n J K L ks hw hA hR hb hh hJ hK hL hks hin hk1 => ?_⟩
    have hA1 : At s n (w ++ (quo k ++ (g ++ 58 :: (g ++ (c :: (b ++ (g ++ R))))))) := by
      have : quo k ++ (g ++ 58 :: (g ++ (c :: (b ++ (g ++ R))))) = 34 :: (escT k ++ [34] ++ (g ++ 58 :: (g ++ (c :: b))) ++ (g ++ R)) := by simp [quo]
      rw [this]; exact hA
    have hA2 := hA1.skip
    have hA3 := hA2.skip
    have hA4 := hA3.skip
    have hl := hA1.len
    have hq := esc_ge k
    have e1 : (quo k).length = (escT k).length + 2 := by simp [quo]
    simp only [List.length_append] at hl
    obtain ⟨m, m1, m2⟩ := j94 g s R _ J K L (ks ++ [k]) hg hA4.next hR hb hh hJ hL
    refine ⟨m, ?_, m2⟩
    have ht := text_at (K - k.length - 7) k hv hb (by omega) hA2
    rw [show K - k.length - 7 + k.length + 7 = K by omega] at ht
    have hq1 : ∀ c' t, quo k ++ (g ++ 58 :: (g ++ (c :: (b ++ (g ++ R))))) = c' :: t → ¬ isW c' := by
      intro c' t e
      have : quo k ++ (g ++ 58 :: (g ++ (c :: (b ++ (g ++ R))))) = 34 :: (escT k ++ [34] ++ (g ++ 58 :: (g ++ (c :: (b ++ (g ++ R)))))) := by simp [quo]
      rw [this] at e
      rw [← (List.cons.inj e).1]
      decide
    unfold f404v2
    rw [cdp (show cond true (7 : Int) 6 = 7 from rfl), white_gap w _ n K hw hA1 hq1 hb (by omega), Option.bind_some, ht, Option.bind_some]
    show cond (decide ((0 : Int) ≠ 0)) _ _ = _
    rw [cdn (by decide)]
    show (f239 K ks k).bind _ = _
    rw [has_no K ks k (by omega) (by omega) (hin k hp), Option.bind_some, cond_false]
    show gd ((ks.length + 1) * 2 * 16 ≤ 281474976710656) _ = _
    rw [gdp (by omega)]
    show (f398 K s (n + ((w.length : Nat) : Int) + (((quo k).length : Nat) : Int))).bind _ = _
    rw [white_gap g _ _ K hg hA3 (fun c' t e => by rw [← (List.cons.inj e).1]; decide) hb (by omega), Option.bind_some, is_yes _ hA4 hb, Option.bind_some]
    show cond false _ (f404v2_j94 K (f397 J) s (64 - ((h + 1 : Nat) : Int)) L _ (ks ++ [k])) = _
    rw [cond_false, m1, hp]
    rfl
end
end Go.Proofs.Abs
