/- JsonKeys: an object's keys, each once, are found with their values; one that is there twice is refused. -/
import Derived.Test.YtnhjiioiejpbgaaDoorPJqu
set_option linter.unusedSimpArgs false
namespace Go.Proofs.Abs
open Go
set_option linter.unusedVariables false
set_option maxRecDepth 100000
variable {s R : List UInt8} {n : Int} {c : UInt8} {ks : List (List UInt8)}
abbrev It := List UInt8 × Nat
def itT : List It → List UInt8
  | [] => []
  | x :: t => 44 :: (quo x.1 ++ 58 :: (dig x.2 ++ itT t))
def itV (x : It) : RT 4 := RT.of TJson.ok ⟨4, dig x.2, [], []⟩
def itG (x : It) : Prop := x.1.length ≤ 100 ∧ Lib.validD x.1 = true ∧ x.2 < 20
abbrev RcT := (List UInt8) → Int → Int → Option (Int × Int × (List UInt8) × (List (RT 4)) × (List (List UInt8)) × Int)
theorem value_dig (J i : Nat) (hi : i < 20) (hJ : 10 ≤ J) {d : Int} (h : At s n (dig i ++ R)) (hb : s.length ≤ 20000) (hR : Nd R) :
    f397 J s n d = some (0, 4, dig i, [], [], n + (((dig i).length : Nat) : Int)) := by
  obtain ⟨J, rfl⟩ : ∃ j, J = j + 2 := ⟨J - 2, by omega⟩
  obtain ⟨hd, l1, l2, _, ne⟩ := dig_good ⟨i, hi⟩
  simp only at hd l1 l2 ne
  obtain ⟨c, t, e⟩ : ∃ c t, dig i = c :: t := by cases h : dig i with | nil => rw [h] at l1; simp at l1 | cons a b => exact ⟨a, b, rfl⟩
  have hc := hd c (by rw [e]; exact List.mem_cons_self ..)
  have h' : At s n (c :: (t ++ R)) := by rw [e] at h; exact h
  have hl := h'.len
  rw [List.length_cons] at hl
  rw [f397]
  unfold f397_s
  rw [white_at J h' (by omega) (by omega) (by omega) (by omega), Option.bind_some, cdn (by omega), gdp (by omega), h'.get, cdn (by omega), cdn (by omega), cdn (by omega), cdn (by omega), cdn (by omega), cdn (by omega), num_dig (J + 1) i hi (by omega) h hb hR (num_ok _ i hi (by omega))]
  rfl
theorem key_at (rc : RcT) (K : Nat) (q X : List UInt8) (L : List (RT 4)) (ks : List (List UInt8)) (hq : q.length ≤ 100) (hv : Lib.validD q = true) (hK : 200 ≤ K) (hks : ks.length ≤ 100) (hL : L.length ≤ 100) (hb : s.length ≤ 20000) (h : At s n (quo q ++ 58 :: X)) :
    f404v2 rc K s n 7 [] L ks 0 = cond (decide (q ∈ ks)) (some (7, n + (((quo q).length : Nat) : Int), L, ks)) (f404v2_j94 K rc s 0 L (n + (((quo q).length : Nat) : Int) + 1) (ks ++ [q])) := by
  obtain ⟨K, rfl⟩ : ∃ j, K = j + 2 := ⟨K - 2, by omega⟩
  have h1 : At s n (34 :: ((escT q ++ [34]) ++ 58 :: X)) := by
    have : quo q ++ 58 :: X = 34 :: ((escT q ++ [34]) ++ 58 :: X) := by simp [quo]
    rwa [this] at h
  have h2 := h.skip
  have ht := text_at (K + 2 - q.length - 7) q hv hb (by omega) h
  rw [show K + 2 - q.length - 7 + q.length + 7 = K + 2 by omega] at ht
  unfold f404v2
  rw [cdp rfl, white_at (K + 1) h1 (by decide) (by decide) (by decide) (by decide), Option.bind_some, ht, Option.bind_some]
  show cond (decide ((0 : Int) ≠ 0)) _ _ = _
  rw [cdn (by decide)]
  show (f239 (K + 2) ks q).bind _ = _
  by_cases hm : q ∈ ks
  · rw [has_yes (K + 2) ks q (by omega) (by omega) hm, cdp hm, Option.bind_some]
    rfl
  · rw [has_no (K + 2) ks q (by omega) (by omega) hm, cdn hm, Option.bind_some, cond_false]
    show gd ((ks.length + 1) * 2 * 16 ≤ 281474976710656) _ = _
    rw [gdp (by omega)]
    show (f398 (K + 2) s (n + (((quo q).length : Nat) : Int))).bind _ = _
    rw [white_at (K + 1) h2 (by decide) (by decide) (by decide) (by decide), Option.bind_some, is_yes _ h2 hb, Option.bind_some]
    rfl
theorem item_ok (J K : Nat) (x : It) (hx : itG x) (L : List (RT 4)) (ks : List (List UInt8)) (hJ : 10 ≤ J) (hK : 200 ≤ K) (hks : ks.length ≤ 100) (hL : L.length ≤ 100) (hb : s.length ≤ 20000) (hR : Nd R) (hm : x.1 ∉ ks) (h : At s n (quo x.1 ++ 58 :: (dig x.2 ++ R))) :
    f404v2 (f397 J) K s n 7 [] L ks 0 = some (0, n + (((quo x.1).length : Nat) : Int) + 1 + (((dig x.2).length : Nat) : Int), L ++ [itV x], ks ++ [x.1]) := by
  rw [key_at (f397 J) K x.1 _ L ks hx.1 hx.2.1 hK hks hL hb h, cdn hm]
  unfold f404v2_j94
  rw [i64w (by omega), show (0 : Int) + 1 = 1 from rfl, value_dig J x.2 hx.2.2 hJ h.skip.next hb hR, Option.bind_some]
  show cond (decide ((0 : Int) = 0)) _ _ = _
  rw [cdp rfl, gdp (by omega)]
  rfl
theorem itT_hd (items : List It) (Z : List UInt8) (hz : ∃ d Y, Z = d :: Y ∧ (d = 44 ∨ d = 125)) : ∃ d Y, itT items ++ Z = d :: Y ∧ (d = 44 ∨ d = 125) := by
  cases items with
  | nil => exact hz
  | cons x t => exact ⟨44, _, rfl, .inl rfl⟩
theorem nd_of {Z : List UInt8} (hz : ∃ d Y, Z = d :: Y ∧ (d = 44 ∨ d = 125)) : Nd Z := by
  obtain ⟨d, Y, e, h⟩ := hz
  intro d' R' e'
  rw [e] at e'
  cases e'
  rcases h with rfl | rfl <;> decide
/-- behind the last item -/
def endZ (Z : List UInt8) (keys : List (List UInt8)) (vals : List (RT 4)) (r : Int × Int × (List (RT 4)) × (List (List UInt8))) : Prop :=
  (∃ Y, Z = 125 :: Y ∧ r = (0, 7, vals, keys)) ∨ (∃ q X, Z = 44 :: (quo q ++ 58 :: X) ∧ q.length ≤ 100 ∧ Lib.validD q = true ∧ q ∈ keys ∧ r = (7, 0, [], []))
theorem endZ_hd {Z : List UInt8} {keys : List (List UInt8)} {vals : List (RT 4)} {r} (h : endZ Z keys vals r) : ∃ d Y, Z = d :: Y ∧ (d = 44 ∨ d = 125) := by
  rcases h with ⟨Y, e, _⟩ | ⟨q, X, e, _⟩
  · exact ⟨125, Y, e, .inr rfl⟩
  · exact ⟨44, _, e, .inl rfl⟩
theorem keys_loop (J : Nat) (hJ : 10 ≤ J) (hb : s.length ≤ 20000) (Z : List UInt8) (r : Int × Int × (List (RT 4)) × (List (List UInt8))) : ∀ (items : List It) (x : It) (K : Nat) (n : Int) (L : List (RT 4)) (ks : List (List UInt8)),
    (∀ y ∈ x :: items, itG y) → (ks ++ (x :: items).map (·.1)).Nodup → ks.length + items.length ≤ 90 → L.length + items.length ≤ 90 → items.length + 210 ≤ K → At s n (quo x.1 ++ 58 :: (dig x.2 ++ (itT items ++ Z))) →
    endZ Z (ks ++ (x :: items).map (·.1)) (L ++ (x :: items).map itV) r →
    ∃ n', f403_l60 (f397 J) s 7 0 125 K n L ks = some (.r (r.1, r.2.1, r.2.2.1, r.2.2.2, n')) ∧ (r.1 = 0 → ∀ Y, Z = 125 :: Y → At s n' Y) := by
  intro items
  induction items with
  | nil =>
    intro x K n L ks hg hnd h1 h2 hK h hz
    obtain ⟨K, rfl⟩ : ∃ j, K = j + 3 := ⟨K - 3, by omega⟩
    simp only [List.length_nil] at h1 h2 hK
    have hx := hg x (List.mem_cons_self ..)
    have hm : x.1 ∉ ks := by
      intro hin
      have := (List.nodup_append.1 hnd).2.2 _ hin x.1 (by simp)
      exact this rfl
    have hR : Nd (itT [] ++ Z) := nd_of (itT_hd [] Z (endZ_hd hz))
    have he := item_ok J (K + 2) x hx L ks hJ (by omega) (by omega) (by omega) hb hR hm h
    have h3 : At s (n + (((quo x.1).length : Nat) : Int) + 1 + (((dig x.2).length : Nat) : Int)) Z := h.skip.next.skip
    rw [f403_l60, he, Option.bind_some]
    show ∃ n', cond (decide ((0 : Int) ≠ 0)) _ _ = _ ∧ _
    rw [cdn (by decide)]
    rcases hz with ⟨Y, eZ, rfl⟩ | ⟨q, X, eZ, hq, hv, hin, rfl⟩
    · subst eZ
      refine ⟨n + (((quo x.1).length : Nat) : Int) + 1 + (((dig x.2).length : Nat) : Int) + 1, ?_, fun _ Y' e => by cases e; exact h3.next⟩
      show (f398 (K + 2) s (n + (((quo x.1).length : Nat) : Int) + 1 + (((dig x.2).length : Nat) : Int))).bind _ = _
      rw [white_at (K + 1) h3 (by decide) (by decide) (by decide) (by decide), Option.bind_some, is_yes _ h3 hb, Option.bind_some]
      rfl
    · subst eZ
      refine ⟨n + (((quo x.1).length : Nat) : Int) + 1 + (((dig x.2).length : Nat) : Int) + 1 + (((quo q).length : Nat) : Int), ?_, fun e => by cases e⟩
      show (f398 (K + 2) s (n + (((quo x.1).length : Nat) : Int) + 1 + (((dig x.2).length : Nat) : Int))).bind _ = _
      rw [white_at (K + 1) h3 (by decide) (by decide) (by decide) (by decide), Option.bind_some, is_no _ h3 (by decide), Option.bind_some]
      show cond false _ _ = _
      rw [cond_false]
      show (f401 (K + 2) s (n + (((quo x.1).length : Nat) : Int) + 1 + (((dig x.2).length : Nat) : Int)) 44).bind _ = _
      rw [is_yes _ h3 hb, Option.bind_some]
      show cond false _ _ = _
      rw [cond_false]
      show f403_l60 (f397 J) s 7 0 125 (K + 1 + 1) (n + (((quo x.1).length : Nat) : Int) + 1 + (((dig x.2).length : Nat) : Int) + 1) (L ++ [itV x]) (ks ++ [x.1]) = _
      rw [f403_l60, key_at (f397 J) (K + 1) q X (L ++ [itV x]) (ks ++ [x.1]) hq hv (by omega) (by simp; omega) (by simp; omega) hb h3.next, cdp (by simpa using hin), Option.bind_some]
      rfl
  | cons y t ih =>
    intro x K n L ks hg hnd h1 h2 hK h hz
    obtain ⟨K, rfl⟩ : ∃ j, K = j + 3 := ⟨K - 3, by omega⟩
    simp only [List.length_cons] at h1 h2 hK
    have hx := hg x (List.mem_cons_self ..)
    have hm : x.1 ∉ ks := by
      intro hin
      have := (List.nodup_append.1 hnd).2.2 _ hin x.1 (by simp)
      exact this rfl
    have hR : Nd (itT (y :: t) ++ Z) := nd_of (itT_hd (y :: t) Z (endZ_hd hz))
    have he := item_ok J (K + 2) x hx L ks hJ (by omega) (by omega) (by omega) hb hR hm h
    have h3 : At s (n + (((quo x.1).length : Nat) : Int) + 1 + (((dig x.2).length : Nat) : Int)) (44 :: (quo y.1 ++ 58 :: (dig y.2 ++ (itT t ++ Z)))) := by
      have := h.skip.next.skip
      have e : itT (y :: t) ++ Z = 44 :: (quo y.1 ++ 58 :: (dig y.2 ++ (itT t ++ Z))) := by simp [itT]
      rwa [e] at this
    obtain ⟨n', h4, h5⟩ := ih y (K + 2) (n + (((quo x.1).length : Nat) : Int) + 1 + (((dig x.2).length : Nat) : Int) + 1) (L ++ [itV x]) (ks ++ [x.1]) (fun z hz => hg z (List.mem_cons_of_mem _ hz)) (by simpa using hnd) (by simp; omega) (by simp; omega) (by omega) h3.next (by simpa using hz)
    refine ⟨n', ?_, h5⟩
    rw [f403_l60, he, Option.bind_some]
    show cond (decide ((0 : Int) ≠ 0)) _ _ = _
    rw [cdn (by decide)]
    show (f398 (K + 2) s (n + (((quo x.1).length : Nat) : Int) + 1 + (((dig x.2).length : Nat) : Int))).bind _ = _
    rw [white_at (K + 1) h3 (by decide) (by decide) (by decide) (by decide), Option.bind_some, is_no _ h3 (by decide), Option.bind_some]
    show cond false _ _ = _
    rw [cond_false]
    show (f401 (K + 2) s (n + (((quo x.1).length : Nat) : Int) + 1 + (((dig x.2).length : Nat) : Int)) 44).bind _ = _
    rw [is_yes _ h3 hb, Option.bind_some]
    show cond false _ _ = _
    rw [cond_false]
    exact h4
theorem obj_at (K : Nat) (hb : s.length ≤ 20000) (items : List It) (x : It) (Z : List UInt8) (r : Int × Int × (List (RT 4)) × (List (List UInt8))) (hg : ∀ y ∈ x :: items, itG y) (hnd : ((x :: items).map (·.1)).Nodup) (hi : items.length ≤ 20) (hK : 300 ≤ K)
    (hs : s = 123 :: (quo x.1 ++ 58 :: (dig x.2 ++ (itT items ++ Z)))) (hz : endZ Z ((x :: items).map (·.1)) ((x :: items).map itV) r) (hZ : r.1 = 0 → Z = [125]) (h7 : r.1 = 0 ∨ r = (7, 0, [], [])) :
    f396 K s = some (r.1, r.2.1, [], r.2.2.1, r.2.2.2) := by
  obtain ⟨K, rfl⟩ : ∃ j, K = j + 3 := ⟨K - 3, by omega⟩
  have h : At s 0 (123 :: (quo x.1 ++ 58 :: (dig x.2 ++ (itT items ++ Z)))) := by rw [← hs]; exact At.start s
  have hl := h.len
  rw [List.length_cons] at hl
  have h1 : At s 1 (34 :: ((escT x.1 ++ [34]) ++ 58 :: (dig x.2 ++ (itT items ++ Z)))) := h.next
  obtain ⟨n', h4, h5⟩ := keys_loop (K + 2) (by omega) hb Z r items x (K + 2) 1 [] [] hg (by simpa using hnd) (by simp; omega) (by simp; omega) (by omega) h.next (by simpa using hz)
  have hv : f397 (K + 3) s 0 0 = some (r.1, r.2.1, [], r.2.2.1, r.2.2.2, n') := by
    rw [f397]
    unfold f397_s
    rw [white_at (K + 1) h (by decide) (by decide) (by decide) (by decide), Option.bind_some, cdn (by omega), gdp (by omega), h.get, cdn (by decide), cdn (by decide), cdn (by decide), cdn (by decide), cdn (by decide), cdp (by decide)]
    have hm : f403 (f397 (K + 2)) (K + 2) s 0 7 125 0 = some (r.1, r.2.1, r.2.2.1, r.2.2.2, n') := by
      unfold f403
      rw [cdn (by decide), i64w (by omega), show (0 : Int) + 1 = 1 from rfl, white_at (K + 1) h1 (by decide) (by decide) (by decide) (by decide), Option.bind_some, is_no _ h1 (by decide), Option.bind_some]
      show cond false _ _ = _
      rw [cond_false, h4]
      rfl
    rw [hm]
    rfl
  rw [f396, cdn (by omega), hv, Option.bind_some]
  show cond (decide (r.1 ≠ 0)) _ _ = _
  rcases h7 with h0 | h0
  · rw [cdn (by omega)]
    have h6 : At s n' [] := h5 h0 [] (hZ h0)
    have hl2 := h6.len
    rw [List.length_nil] at hl2
    show (f398 (K + 2 + 1) s n').bind _ = _
    rw [white_end (K + 2) h6, Option.bind_some, cdn (by omega), h0]
  · subst h0
    rw [cdp (by decide)]
theorem same_loop (a : List (List UInt8)) (hb : a.length ≤ 1000) : ∀ (rest pre : List (List UInt8)) (K : Nat), a = pre ++ rest → rest.length + 1 ≤ K → f435_l26 a a K ((pre.length : Nat) : Int) = some (.b0 ()) := by
  intro rest
  induction rest with
  | nil =>
    intro pre K e hK
    obtain ⟨K, rfl⟩ : ∃ j, K = j + 1 := ⟨K - 1, by omega⟩
    rw [f435_l26, cdn (by rw [e]; simp)]
  | cons x t ih =>
    intro pre K e hK
    rw [List.length_cons] at hK
    obtain ⟨K, rfl⟩ : ∃ j, K = j + 1 := ⟨K - 1, by omega⟩
    have hl : a.length = pre.length + (t.length + 1) := by rw [e]; simp
    rw [f435_l26, cdp (by omega), gdp (by omega), gdp (by omega)]
    show Option.bind (some ()) _ = _
    rw [Option.bind_some, decide_eq_true rfl]
    show cond false _ _ = _
    rw [cond_false, i64w (by omega)]
    have := ih (pre ++ [x]) K (by rw [e]; simp) (by omega)
    simpa using this
theorem same_at (K : Nat) (a : List (List UInt8)) (hb : a.length ≤ 1000) (hK : a.length + 1 ≤ K) : f434 K a a = some true := by
  unfold f434 f435
  rw [cdn (by simp)]
  have := same_loop a hb a [] K rfl hK
  show Option.bind (Option.bind (f435_l26 a a K (((([] : List (List UInt8)).length : Nat)) : Int)) _) _ = _
  rw [this]
  rfl
theorem in_at (ks : List (List UInt8)) (q : List UInt8) (hb : ks.length ≤ 1000) : ∀ (rest pre : List (List UInt8)) (K : Nat), ks = pre ++ rest → rest.length + 1 ≤ K → q ∉ pre →
    (∃ z, f77_l10 ks q K ((pre.length : Nat) : Int) = some z ∧ ((q ∈ ks ∧ z = .r true) ∨ (q ∉ ks ∧ z = .b0 ()))) := by
  intro rest
  induction rest with
  | nil =>
    intro pre K e hK hq
    obtain ⟨K, rfl⟩ : ∃ j, K = j + 1 := ⟨K - 1, by omega⟩
    refine ⟨.b0 (), ?_, .inr ⟨by rw [e]; simpa using hq, rfl⟩⟩
    rw [f77_l10, cdn (by rw [e]; simp)]
  | cons x t ih =>
    intro pre K e hK hq
    rw [List.length_cons] at hK
    obtain ⟨K, rfl⟩ : ∃ j, K = j + 1 := ⟨K - 1, by omega⟩
    have hl : ks.length = pre.length + (t.length + 1) := by rw [e]; simp
    have hm : rd ks ((pre.length : Nat) : Int) = x := by rw [e]; exact rd_mid
    rw [f77_l10, cdp (by omega), gdp (by omega), hm]
    by_cases hx : x = q
    · rw [cdp hx]
      exact ⟨_, rfl, .inl ⟨by rw [e, hx]; simp, rfl⟩⟩
    · rw [cdn hx, i64w (by omega)]
      have := ih (pre ++ [x]) K (by rw [e]; simp) (by omega) (by
        intro hin
        rcases List.mem_append.1 hin with h | h
        · exact hq h
        · exact hx (List.mem_singleton.1 h).symm)
      simpa using this
theorem has_at (K : Nat) (ks : List (List UInt8)) (q : List UInt8) (hb : ks.length ≤ 1000) (hK : ks.length + 1 ≤ K) : f77 K ks q = some (decide (q ∈ ks)) := by
  obtain ⟨z, h1, h2⟩ := in_at ks q hb ks [] K rfl hK (by simp)
  unfold f77
  show Option.bind (f77_l10 ks q K (((([] : List (List UInt8)).length : Nat)) : Int)) _ = _
  rw [h1, Option.bind_some]
  rcases h2 with ⟨h, rfl⟩ | ⟨h, rfl⟩
  · rw [decide_eq_true h]
  · rw [decide_eq_false h]
theorem itT_app : ∀ (a b : List It), itT (a ++ b) = itT a ++ itT b
  | [], b => rfl
  | x :: t, b => by
    have := itT_app t b
    simp [itT, this]
theorem itT_len : ∀ (a : List It), (∀ y ∈ a, itG y) → (itT a).length ≤ 606 * a.length
  | [], _ => Nat.le_refl _
  | x :: t, h => by
    have := itT_len t fun y hy => h y (List.mem_cons_of_mem _ hy)
    have hx := h x (List.mem_cons_self ..)
    have := quo_len x.1
    have hd := (dig_good ⟨x.2, hx.2.2⟩).2.2.1
    simp only at hd
    have := hx.1
    simp only [itT, List.length_cons, List.length_append]
    omega
theorem awake_jk (k : Nat) : f395 (k + 20) = some true := by kernel_rfl
end Go.Proofs.Abs
