/- The law KeyedBack over the Lean functions. -/
import Derived.Test.YtojmpoboidomeaaGLkbab
import Derived.Test.YtojmpoboidomeaaPKor
import Derived.Test.YtojmpoboidomeaaPCod
import Derived.Test.YtojmpoboidomeaaPReb
set_option linter.unusedSimpArgs false
namespace Go.Proofs.Abs
open Go
set_option linter.unusedVariables false
set_option maxRecDepth 10000
def lenP (p : TPair) : Nat := p.fKey.length + p.fValue.length
theorem lenP_mem : ∀ (l : List TPair), ∀ p ∈ l, lenP p ≤ (l.map lenP).sum
  | [], p, h => by cases h
  | x :: l, p, h => by
    simp only [List.map_cons, List.sum_cons]
    rcases List.mem_cons.1 h with e | e
    · subst e; omega
    · have := lenP_mem l p e; omega
theorem few_loop {l : List TPair} (hn : l.length < 200) (hs : (l.map lenP).sum ≤ 1048576000) : ∀ (rest pre : List TPair) (s k : Nat), l = pre ++ rest → s = (pre.map lenP).sum → rest.length < k → f70_l14 l k (s : Int) ((pre.length : Nat) : Int) = some (.b0 (((l.map lenP).sum : Nat) : Int)) := by
  intro rest
  induction rest with
  | nil =>
    intro pre s k hl hs' hk
    obtain ⟨k, rfl, _⟩ := succ_of_pos (show 0 < k by omega)
    rw [List.append_nil] at hl
    rw [f70_l14, cdn (by rw [hl]; omega), hs', hl]
  | cons p rest ih =>
    intro pre s k hl hs' hk
    obtain ⟨k, rfl, _⟩ := succ_of_pos (show 0 < k by omega)
    have hrd : rd l ((pre.length : Nat) : Int) = p := by subst hl; exact rd_mid
    have hln : l.length = pre.length + rest.length + 1 := by rw [hl]; simp; omega
    have hsum : (l.map lenP).sum = s + lenP p + (rest.map lenP).sum := by rw [hl, hs']; simp; omega
    simp only [lenP] at hsum
    rw [f70_l14, cdp (by omega), cdp (by omega), gdp (by omega), gdp (by omega), hrd, i64w (n := (s : Int) + _) (by omega), i64w (by omega), i64w (n := ((pre.length : Nat) : Int) + 1) (by omega)]
    have h := ih (pre ++ [p]) (s + lenP p) k (by rw [hl]; simp) (by rw [hs']; simp) (by simp at hk; omega)
    rw [← h]
    congr 1
    · simp only [lenP]; omega
    · simp
theorem few_exact {l : List TPair} (hs : (l.map lenP).sum ≤ 1048576000) (hn : l.length ≤ 1048576) (hsz : ∀ p ∈ l, p.fKey.length + p.fValue.length ≤ 1048576) {k : Nat} (hk : l.length < k) : ∃ b, f70 k l = some b ∧ (b = true → l.length < 200 ∧ (l.map lenP).sum < 20000) := by
  by_cases c : l.length < 200
  · have h := few_loop c hs l [] 0 k rfl rfl hk
    have h' : f70_l14 l k (0 : Int) (0 : Int) = some (.b0 (((l.map lenP).sum : Nat) : Int)) := h
    rw [f70, h']
    show ∃ b, f70_j56 k l (((l.map lenP).sum : Nat) : Int) = some b ∧ _
    delta f70_j56
    rw [cdp (by omega)]
    refine ⟨_, rfl, fun hb => ⟨c, ?_⟩⟩
    have := of_decide_eq_true hb
    omega
  · obtain ⟨b, hb⟩ := few_some (B := 1048576) (by decide) hsz hn hk
    refine ⟨b, hb, fun e => ?_⟩
    exfalso
    subst e
    rw [f70] at hb
    cases ho : f70_l14 l k (0 : Int) (0 : Int) with
    | none => rw [ho] at hb; cases hb
    | some o =>
      rw [ho] at hb
      cases o with
      | b0 m =>
        have hb' : f70_j56 k l m = some true := hb
        revert hb'
        delta f70_j56
        rw [cdn (by omega)]
        intro hb'; cases hb'
      | b1 m => cases hb
      | r m => cases hb
/-- a pair's bytes -/
def pb (p : TPair) : List UInt8 := tb p.fKey ++ (if p.fGone = true then [1] ++ tb [] else [0] ++ tb p.fValue)
def pbs (l : List TPair) : List UInt8 := nb (zg ((l.length : Nat) : Int)) ++ (l.map pb).flatten
theorem pb_len {p : TPair} (h : lenP p ≤ 20000) : (pb p).length ≤ lenP p + 30 := by
  simp only [lenP] at h ⊢
  have h1 := tb_len (t := p.fKey) (by omega)
  have h2 := tb_len (t := p.fValue) (by omega)
  have h3 := tb_len (t := []) (by simp)
  simp only [List.length_nil] at h3
  simp only [pb, List.length_append]
  split <;> simp only [List.length_append, List.length_singleton] <;> omega
theorem pbs_len : ∀ (l : List TPair), (∀ p ∈ l, lenP p ≤ 20000) → ((l.map pb).flatten).length ≤ (l.map lenP).sum + 30 * l.length
  | [], _ => by simp
  | p :: l, h => by
    have h1 := pb_len (h p List.mem_cons_self)
    have h2 := pbs_len l fun q hq => h q (List.mem_cons_of_mem _ hq)
    simp only [List.map_cons, List.flatten_cons, List.length_append, List.sum_cons, List.length_cons]
    omega
theorem bytes_loop {l : List TPair} (hn : l.length ≤ 1000) (hp : ∀ p ∈ l, lenP p ≤ 20000) : ∀ (rest pre : List TPair) (acc : List UInt8) (k : Nat), l = pre ++ rest → acc.length + 20030 * rest.length ≤ 100000000 → rest.length + 10 < k →
    f80_l19 l k acc ((pre.length : Nat) : Int) = some (.b0 (acc ++ (rest.map pb).flatten)) := by
  intro rest
  induction rest with
  | nil =>
    intro pre acc k hl ha hk
    obtain ⟨k, rfl, _⟩ := succ_of_pos (show 0 < k by omega)
    rw [List.append_nil] at hl
    rw [f80_l19, cdn (by rw [hl]; omega)]
    simp
  | cons p rest ih =>
    intro pre acc k hl ha hk
    obtain ⟨k, rfl, _⟩ := succ_of_pos (show 0 < k by omega)
    have hrd : rd l ((pre.length : Nat) : Int) = p := by subst hl; exact rd_mid
    have hln : l.length = pre.length + rest.length + 1 := by rw [hl]; simp; omega
    have hpl := hp p (by rw [hl]; simp)
    have hpb := pb_len hpl
    simp only [lenP] at hpl hpb
    simp only [List.length_cons] at hk ha
    have hb' : (pb p).length ≤ 20030 := by omega
    simp only [pb, List.length_append] at hb'
    rw [f80_l19, cdp (by omega), gdp (by omega), hrd, text_code (by omega) (by omega)]
    simp only [Option.bind_some]
    rw [gdp (by omega)]
    have h := fun a h1 => ih (pre ++ [p]) a k (by rw [hl]; simp) h1 (by omega)
    have hw : IntKind.i64.wrap (((pre.length : Nat) : Int) + 1) = (((pre ++ [p]).length : Nat) : Int) := by rw [i64w (by omega)]; simp
    cases hg : p.fGone
    · simp only [hg, Bool.false_eq_true, if_false, List.length_append, List.length_singleton] at hb'
      rw [cond_false, gdp (by simp; omega), text_code (by omega) (by omega)]
      simp only [Option.bind_some]
      rw [gdp (by simp; omega), hw, h _ (by simp; omega)]
      simp [pb, hg]
    · simp only [hg, if_true, List.length_append, List.length_singleton] at hb'
      rw [cond_true, gdp (by simp; omega), text_code (by simp) (by omega)]
      simp only [Option.bind_some]
      rw [gdp (by simp; omega), hw, h _ (by simp; omega)]
      simp [pb, hg]
theorem bytes22 {l : List TPair} (hn : l.length ≤ 1000) (hp : ∀ p ∈ l, lenP p ≤ 20000) {k : Nat} (hk : l.length + 20 < k) : f80 k l = some (pbs l) := by
  have h1 := nb_len10 (zg_lt (a := ((l.length : Nat) : Int)) (by omega))
  rw [f80, zig_code (by omega) (by omega)]
  simp only [Option.bind_some]
  rw [show f80_l19 l k _ (0 : Int) = _ from bytes_loop hn hp l [] _ k rfl (by omega) (by omega)]
  rfl
theorem rRaw_put {b pre rest : List UInt8} {c : UInt8} (hb : b = pre ++ (c :: rest)) : rRaw b pre.length 0 1 = ([c], (pre ++ [c]).length, 0) := by
  subst hb
  simp only [rRaw, if_true]
  rw [if_neg (by decide), if_neg (by simp; omega)]
  simp
/-- what is taken of a pair that was written -/
def wantP (p : TPair) : TPair := if p.fGone = true then TPair.mk p.fKey [] p.fGone else p
theorem pair_put {b pre rest : List UInt8} {p : TPair} (hb : b = pre ++ (pb p ++ rest)) (hbl : b.length ≤ 100000000) (hp : lenP p ≤ 20000) {k : Nat} (hk : 10 ≤ k) :
    f107 k b ((pre.length : Nat) : Int) 0 = some (0, p.fKey, (wantP p).fValue, p.fGone, (((pre ++ pb p).length : Nat) : Int), 0) := by
  simp only [lenP] at hp
  have key : ∀ (c : UInt8) (t : List UInt8), pb p = tb p.fKey ++ ([c] ++ tb t) → t.length ≤ 20000 → (((c.toNat : Nat) : Int) = 1 ∧ t = [] ∨ c = 0) → (decide (((c.toNat : Nat) : Int) = 1)) = p.fGone → t = (wantP p).fValue →
      f107 k b ((pre.length : Nat) : Int) 0 = some (0, p.fKey, (wantP p).fValue, p.fGone, (((pre ++ pb p).length : Nat) : Int), 0) := by
    intro c t e ht hc hgo hw
    have hpl : (pre ++ pb p).length ≤ b.length := by rw [hb]; simp
    rw [e] at hpl
    simp only [List.length_append, List.length_singleton] at hpl
    have t1 := rText_put (b := b) (pre := pre) (rest := [c] ++ tb t ++ rest) (t := p.fKey) (m := 32768) (by rw [hb, e]; simp) (by omega) (by decide)
    have t2 := rRaw_put (b := b) (pre := pre ++ tb p.fKey) (rest := tb t ++ rest) (c := c) (by rw [hb, e]; simp)
    have t3 := rText_put (b := b) (pre := pre ++ tb p.fKey ++ [c]) (rest := rest) (t := t) (m := 32768) (by rw [hb, e]; simp) (by omega) (by decide)
    rw [f107, text_read hbl (by omega) hk, t1]
    simp only [Option.bind_some]
    rw [raw_read hbl (by simp; omega) (by decide), t2]
    simp only [Option.bind_some, f42]
    rw [cdp trivial, gdp (by simp)]
    have hr : rd [c] (0 : Int) = c := rfl
    simp only [hr]
    have hno : decide (((c.toNat : Nat) : Int) > 1) = false := by
      rcases hc with ⟨h, _⟩ | h
      · rw [h]; rfl
      · rw [h]; rfl
    rw [hno, f107_j34, cond_false, text_read hbl (by simp; omega) hk, t3]
    simp only [Option.bind_some, f42]
    rw [cdn (by simp), gdp (by simp)]
    simp only [hr, hgo, f107_j93]
    have hz : decide (((t.length : Nat) : Int) > 0) = false ∨ p.fGone = false := by
      rcases hc with ⟨_, h⟩ | h
      · left; rw [h]; rfl
      · right; rw [← hgo, h]; rfl
    have he : (pre ++ tb p.fKey ++ [c] ++ tb t) = pre ++ pb p := by rw [e]; simp
    rw [← hw, he]
    rcases hz with h | h
    · rw [h]
      cases p.fGone <;> rfl
    · rw [h]; rfl
  cases hg : p.fGone
  · rw [← hg]
    exact key 0 p.fValue (by simp [pb, hg]) (by omega) (.inr rfl) (by rw [hg]; rfl) (by simp [wantP, hg])
  · rw [← hg]
    exact key 1 [] (by simp [pb, hg]) (by simp) (.inl ⟨rfl, rfl⟩) (by rw [hg]; rfl) (by simp [wantP, hg])
theorem take_loop {b : List UInt8} {l : List TPair} {r16 : Int × Int × Int} (hr : r16.1 = ((l.length : Nat) : Int)) (hbl : b.length ≤ 100000000) (hn : l.length ≤ 1000) (hp : ∀ p ∈ l, lenP p ≤ 20000) : ∀ (rest pre : List TPair) (bp : List UInt8) (k : Nat), l = pre ++ rest → b = bp ++ (rest.map pb).flatten → rest.length + 12 < k →
    f78_l73 r16 b k (pre.map wantP) ((pre.length : Nat) : Int) ((bp.length : Nat) : Int) 0 = some (.b0 (l.map wantP, ((b.length : Nat) : Int), 0)) := by
  intro rest
  induction rest with
  | nil =>
    intro pre bp k hl hb hk
    obtain ⟨k, rfl, _⟩ := succ_of_pos (show 0 < k by omega)
    rw [List.append_nil] at hl
    rw [f78_l73, hr, cdn (by rw [hl]; omega), hl, hb]
    simp
  | cons p rest ih =>
    intro pre bp k hl hb hk
    obtain ⟨k, rfl, _⟩ := succ_of_pos (show 0 < k by omega)
    have hln : l.length = pre.length + rest.length + 1 := by rw [hl]; simp; omega
    simp only [List.length_cons] at hk
    rw [f78_l73, hr, cdp (by omega), pair_put (p := p) (rest := (rest.map pb).flatten) (by rw [hb]; simp) hbl (hp p (by rw [hl]; simp)) (by omega)]
    simp only [Option.bind_some]
    rw [cdn (by simp), gdp (by simp; omega), i64w (by omega)]
    have h := ih (pre ++ [p]) (bp ++ pb p) k (by rw [hl]; simp) (by rw [hb]; simp) (by omega)
    have e1 : TPair.mk p.fKey (wantP p).fValue p.fGone = wantP p := by
      unfold wantP; split <;> rfl
    rw [e1]
    rw [show ((((pre ++ [p]).length : Nat)) : Int) = ((pre.length : Nat) : Int) + 1 by simp, List.map_append] at h
    exact h
theorem take22 {l : List TPair} (hn : l.length ≤ 1000) (hp : ∀ p ∈ l, lenP p ≤ 20000) {k : Nat} (hk : l.length + 20 < k) : f78 k (pbs l) = some (l.map wantP, 0) := by
  have hz : -9223372036854775808 ≤ ((l.length : Nat) : Int) ∧ ((l.length : Nat) : Int) ≤ 9223372036854775807 := by omega
  have h1 := nb_len10 (zg_lt hz)
  have h2 := pbs_len l hp
  have h3 : (l.map lenP).sum ≤ 20000 * l.length := by
    have : ∀ l : List TPair, (∀ p ∈ l, lenP p ≤ 20000) → (l.map lenP).sum ≤ 20000 * l.length := by
      intro l
      induction l with
      | nil => intro _; simp
      | cons p l ih =>
        intro h
        have := h p List.mem_cons_self
        have := ih fun q hq => h q (List.mem_cons_of_mem _ hq)
        simp only [List.map_cons, List.sum_cons, List.length_cons]; omega
    exact this l hp
  have hbl : (pbs l).length ≤ 100000000 := by simp only [pbs, List.length_append]; omega
  have z := rZig_put (b := pbs l) (pre := []) (rest := (l.map pb).flatten) rfl hz
  rw [f78, new_read hbl, show f40 k (pbs l) (0 : Int) (0 : Int) = _ from zig_read (p := 0) hbl (Nat.zero_le _) (by omega)]
  simp only [Option.bind_some, f42]
  rw [show rZig (pbs l) 0 0 = _ from z]
  simp only [List.nil_append]
  rw [cdn (by simp), cdn (by omega), cdn (by omega)]
  have hl := take_loop (b := pbs l) (r16 := (((l.length : Nat) : Int), (((nb (zg ((l.length : Nat) : Int))).length : Nat) : Int), 0)) rfl hbl hn hp l [] (nb (zg ((l.length : Nat) : Int))) k rfl rfl (by omega)
  rw [show f78_l73 _ (pbs l) k [] (0 : Int) _ 0 = _ from hl]
  simp only [Option.bind_some, f78_j122]
  rw [end_read hbl (Nat.le_refl _)]
  have he : rEnd (pbs l) (pbs l).length 0 = 0 := by simp [rEnd]
  rw [he]
  rfl
theorem copies_loop {a : List TPair} (hv : ∀ p ∈ a, lenP p ≤ 20000) (hb : a.length ≤ 1000) : ∀ (d i k : Nat), i + d = a.length → d < k → f71_l14 a k i (i : Int) (a.take i) = some (.b0 (a.length, a)) := by
  intro d
  induction d with
  | zero =>
    intro i k hi hk
    obtain ⟨k, rfl, _⟩ := succ_of_pos (show 0 < k by omega)
    rw [f71_l14, cdn (by omega), List.take_of_length_le (by omega), show i = a.length by omega]
  | succ d ih =>
    intro i k hi hk
    obtain ⟨k, rfl, _⟩ := succ_of_pos (show 0 < k by omega)
    have hm : rd a (i : Int) ∈ a := rd_in (by omega)
    have h1 := hv _ hm
    simp only [lenP] at h1
    have eta : TPair.mk (rd a (i : Int)).fKey (rd a (i : Int)).fValue (rd a (i : Int)).fGone = rd a (i : Int) := rfl
    rw [f71_l14, cdp (by omega), gdp (by omega), gdp (by omega), f97, gdp (by omega)]
    simp only [Option.bind_some]
    rw [gdp (by omega), eta, gdp (by simp; omega), i64w (by omega), show ((i : Int) + 1) = ((i + 1 : Nat) : Int) by omega]
    have e1 : List.take i (List.take i a) ++ [rd a (i : Int)] = a.take (i + 1) := by
      rw [List.take_take, Nat.min_self, List.take_add_one, List.getElem?_eq_getElem (show i < a.length by omega)]
      simp [rd, List.getD, List.getElem?_eq_getElem (show i < a.length by omega)]
    rw [e1]
    exact ih (i + 1) k (by omega) (by omega)
theorem copies22 {a : List TPair} (hv : ∀ p ∈ a, lenP p ≤ 20000) (hb : a.length ≤ 1000) {k : Nat} (hk : a.length < k) : f71 k a = some (a.length, a) := by
  have h := copies_loop hv hb a.length 0 k (by omega) hk
  rw [List.take_zero] at h
  rw [f71, show f71_l14 a k 0 (0 : Int) [] = _ from h]
  rfl
theorem want_loop {l : List TPair} (hn : l.length ≤ 1000) : ∀ (rest pre : List TPair) (k : Nat), l = pre ++ rest → rest.length < k → f19_l49 (l.length, l) k ((pre.length : Nat) : Int) (pre.map wantP ++ rest) = some (.b0 (l.map wantP)) := by
  intro rest
  induction rest with
  | nil =>
    intro pre k hl hk
    obtain ⟨k, rfl, _⟩ := succ_of_pos (show 0 < k by omega)
    rw [List.append_nil] at hl
    rw [f19_l49, cdn (by rw [hl]; simp), hl, List.append_nil]
  | cons p rest ih =>
    intro pre k hl hk
    obtain ⟨k, rfl, _⟩ := succ_of_pos (show 0 < k by omega)
    have hln : l.length = pre.length + rest.length + 1 := by rw [hl]; simp; omega
    have hml : (pre.map wantP).length = pre.length := by simp
    have hg : List.getD (pre.map wantP ++ p :: rest) ((pre.length : Nat) : Int).toNat default = p := by
      rw [Int.toNat_natCast, List.getD_eq_getElem?_getD, List.getElem?_append_right (by omega), hml]
      simp
    have hset : ∀ q : TPair, List.set (pre.map wantP ++ p :: rest) ((pre.length : Nat) : Int).toNat q = (pre ++ [p]).map wantP ++ rest ∨ ¬ q = wantP p := by
      intro q
      by_cases c : q = wantP p
      · left
        rw [c, Int.toNat_natCast, List.set_append_right _ _ (by omega), hml]
        simp
      · exact .inr c
    simp only [List.length_cons] at hk
    have h := ih (pre ++ [p]) k (by rw [hl]; simp) (by omega)
    have e0 : (((pre ++ [p]).length : Nat) : Int) = ((pre.length : Nat) : Int) + 1 := by simp
    rw [e0] at h
    have hlen : (pre.map wantP ++ p :: rest).length = l.length := by rw [List.length_append, hml, List.length_cons]; omega
    rw [f19_l49, cdp (by show ((pre.length : Nat) : Int) < ((l.length : Nat) : Int); omega), gdp (by show _ ∧ ((pre.length : Nat) : Int) < ((l.length : Nat) : Int); omega), gdp (by omega), hg]
    cases hgo : p.fGone
    · have hw : wantP p = p := by simp [wantP, hgo]
      rw [cond_false, i64w (by omega)]
      have : (pre ++ [p]).map wantP ++ rest = pre.map wantP ++ p :: rest := by simp [hw]
      rw [this] at h
      exact h
    · rw [cond_true, gdp (by show _ ∧ ((pre.length : Nat) : Int) < ((l.length : Nat) : Int); omega), gdp (by omega), i64w (by omega)]
      have hw : TPair.mk p.fKey [] true = wantP p := by simp [wantP, hgo]
      rw [hw]
      rcases hset (wantP p) with e | e
      · rw [e]; exact h
      · exact absurd rfl e
/-- whatever is put: in order, and none dropped -/
theorem put_ok {p : TPair} {l : List TPair} (hs : srt l) (hg : ∀ q ∈ l, q.fGone = false) : srt (putOne p l) ∧ ∀ q ∈ putOne p l, q.fGone = false ∧ (q = p ∨ q ∈ l) := by
  cases h : p.fGone
  · obtain ⟨h1, h2⟩ := put_mem h hs
    refine ⟨h1, fun q hq => ?_⟩
    rcases (h2 q).1 hq with e | ⟨e, _⟩
    · subst e; exact ⟨h, .inl rfl⟩
    · exact ⟨hg q e, .inr e⟩
  · obtain ⟨h1, h2, _⟩ := drop_mem h hs
    refine ⟨h1, fun q hq => ?_⟩
    obtain ⟨e, _⟩ := (h2 q).1 hq
    exact ⟨hg q e, .inr e⟩
theorem putAll_ok : ∀ (m l : List TPair), srt l → (∀ q ∈ l, q.fGone = false) → srt (putAll l m) ∧ ∀ q ∈ putAll l m, q.fGone = false ∧ (q ∈ m ∨ q ∈ l)
  | [], l, hs, hg => ⟨hs, fun q hq => ⟨hg q hq, .inr hq⟩⟩
  | p :: m, l, hs, hg => by
    obtain ⟨h1, h2⟩ := put_ok (p := p) hs hg
    obtain ⟨i1, i2⟩ := putAll_ok m (putOne p l) h1 fun q hq => (h2 q hq).1
    refine ⟨i1, fun q hq => ?_⟩
    obtain ⟨e1, e2⟩ := i2 q hq
    refine ⟨e1, ?_⟩
    rcases e2 with e | e
    · exact .inl (List.mem_cons_of_mem _ e)
    · rcases (h2 q e).2 with e' | e'
      · exact .inl (by rw [e']; exact List.mem_cons_self)
      · exact .inr e'
theorem put_len_le (p : TPair) : ∀ l : List TPair, (putOne p l).length ≤ l.length + 1
  | [] => by simp only [putOne]; split <;> simp
  | q :: l => by
    have := put_len_le p l
    simp only [putOne]
    split
    · simp; omega
    · split <;> split <;> simp <;> omega
theorem putAll_len_le : ∀ (m l : List TPair), (putAll l m).length ≤ l.length + m.length
  | [], l => Nat.le_refl _
  | p :: m, l => by
    have h1 := putAll_len_le m (putOne p l)
    have h2 := put_len_le p l
    rw [show putAll l (p :: m) = putAll (putOne p l) m from rfl, List.length_cons]; omega
theorem put_same {p : TPair} (hg : p.fGone = false) : ∀ {l : List TPair}, srt l → p ∈ l → putOne p l = l
  | [], _, h => by cases h
  | x :: l, hs, h => by
    obtain ⟨h1, h2⟩ := List.pairwise_cons.1 hs
    rcases List.mem_cons.1 h with e | e
    · subst e
      simp [putOne, kl_irr, hg]
    · have hlt := h1 p e
      have hx : Op.bytesLess x.fKey p.fKey = true := hlt
      simp only [putOne, if_pos hx, put_same hg h2 e]
theorem putAll_same : ∀ (m l : List TPair), srt l → (∀ q ∈ l, q.fGone = false) → (∀ p ∈ m, p ∈ l) → putAll l m = l
  | [], l, _, _, _ => rfl
  | p :: m, l, hs, hg, h => by
    have hp := h p List.mem_cons_self
    rw [show putAll l (p :: m) = putAll (putOne p l) m from rfl, put_same (hg p hp) hs hp]
    exact putAll_same m l hs hg fun q hq => h q (List.mem_cons_of_mem _ hq)
theorem getO_put {p : TPair} (hg : p.fGone = false) : ∀ l : List TPair, getO p.fKey (putOne p l) = (p.fValue, true)
  | [] => by simp [putOne, hg, getO, kl_irr]
  | q :: l => by
    simp only [putOne]
    split
    · rename_i h
      simp only [getO, if_pos h]
      exact getO_put hg l
    · split <;> simp [hg, getO, kl_irr]
theorem one_loop {a1 : List TPair} (hb : a1.length ≤ 200) (hv : ∀ p ∈ a1, lenP p ≤ 20000) : ∀ (rest pre x : List TPair) (k : Nat), a1 = pre ++ rest → (∀ p ∈ x, lenP p ≤ 20000) → x.length + rest.length ≤ 500 → rest.length + 600 < k →
    srt x → (∀ q ∈ x, q.fGone = false) → f19_l128 a1 k x ((pre.length : Nat) : Int) = some (.b0 (putAll x rest)) := by
  intro rest
  induction rest with
  | nil =>
    intro pre x k hl hx hn hk hs hg
    obtain ⟨k, rfl, _⟩ := succ_of_pos (show 0 < k by omega)
    rw [List.append_nil] at hl
    rw [f19_l128, cdn (by rw [hl]; omega)]
    rfl
  | cons p rest ih =>
    intro pre x k hl hx hn hk hs hg
    obtain ⟨k, rfl, _⟩ := succ_of_pos (show 0 < k by omega)
    have hrd : rd a1 ((pre.length : Nat) : Int) = p := by subst hl; exact rd_mid
    have hln : a1.length = pre.length + rest.length + 1 := by rw [hl]; simp; omega
    have hp := hv p (by rw [hl]; simp)
    simp only [List.length_cons] at hk hn
    have hvx : ∀ q ∈ x, q.fValue.length ≤ 1048576000 := fun q hq => by have := hx q hq; simp only [lenP] at this; omega
    have hvp : ∀ q ∈ [p], q.fValue.length ≤ 1048576000 := fun q hq => by rw [List.mem_singleton.1 hq]; simp only [lenP] at hp; omega
    rw [f19_l128, cdp (by omega), gdp (by omega), hrd, put22 hvx hvp (by omega) (by simp) (by simp; omega)]
    simp only [Option.bind_some]
    obtain ⟨h1, h2⟩ := put_ok (p := p) hs hg
    have hle := put_len_le p x
    have h := ih (pre ++ [p]) (putOne p x) k (by rw [hl]; simp) (fun q hq => by
      rcases (h2 q hq).2 with e | e
      · rw [e]; exact hp
      · exact hx q e) (by omega) (by omega) h1 fun q hq => (h2 q hq).1
    rw [i64w (by omega), show ((pre.length : Nat) : Int) + 1 = (((pre ++ [p]).length : Nat) : Int) by simp]
    exact h
theorem law_KeyedBack (a0 : (List TPair)) (a1 : (List TPair)) (w0 : (∀ e0 ∈ a0, TPair.wf e0)) (w1 : (∀ e0 ∈ a1, TPair.wf e0)) (hb : ((a0.map TPair.sz).sum + 1) + ((a1.map TPair.sz).sum + 1) ≤ 1048576) : ∃ k, f19 k a0 a1 = some true := by
  have hsz : ∀ p : TPair, lenP p ≤ TPair.sz p := fun p => by
    have h2 := len_sum (sz := fun _ : UInt8 => 1) (fun _ => Nat.le_refl _) p.fValue
    simp only [TPair.sz, lenP]; omega
  have hsum : ∀ l : List TPair, (l.map lenP).sum ≤ (l.map TPair.sz).sum := by
    intro l
    induction l with
    | nil => simp
    | cons p l ih => have := hsz p; simp only [List.map_cons, List.sum_cons]; omega
  have hn0 := len_sum (sz := TPair.sz) (fun a => by simp only [TPair.sz]; omega) a0
  have hn1 := len_sum (sz := TPair.sz) (fun a => by simp only [TPair.sz]; omega) a1
  have s0 := hsum a0
  have s1 := hsum a1
  refine ⟨3 * a0.length + 3 * a1.length + 5000, ?_⟩
  generalize hk : 3 * a0.length + 3 * a1.length + 5000 = k
  have haw := awake22 (show 20 < k by omega)
  have hz : ∀ (l : List TPair), (l.map TPair.sz).sum ≤ 1048576 → ∀ p ∈ l, p.fKey.length + p.fValue.length ≤ 1048576 := fun l hl p hp => by
    have h1 := sz_mem l p hp
    have h2 := hsz p
    simp only [lenP] at h2; omega
  obtain ⟨b0, f0, q0⟩ := few_exact (l := a0) (by omega) (by omega) (hz a0 (by omega)) (show a0.length < k by omega)
  obtain ⟨b1, f1, q1⟩ := few_exact (l := a1) (by omega) (by omega) (hz a1 (by omega)) (show a1.length < k by omega)
  rw [f19, f0]
  simp only [Option.bind_some]
  cases b0
  · rw [Bool.not_false, cond_true, haw]; rfl
  rw [Bool.not_true, cond_false, f1]
  simp only [Option.bind_some]
  cases b1
  · rw [Bool.not_false, cond_true, haw]; rfl
  rw [Bool.not_true, cond_false]
  obtain ⟨n0, t0⟩ := q0 rfl
  obtain ⟨n1, t1⟩ := q1 rfl
  have v0 : ∀ p ∈ a0, lenP p ≤ 20000 := fun p hp => by have := lenP_mem a0 p hp; omega
  have v1 : ∀ p ∈ a1, lenP p ≤ 20000 := fun p hp => by have := lenP_mem a1 p hp; omega
  have big : ∀ (l : List TPair), (∀ p ∈ l, lenP p ≤ 20000) → ∀ p ∈ l, p.fValue.length ≤ 1048576000 := fun l h p hp => by have := h p hp; simp only [lenP] at this; omega
  rw [bytes22 (by omega) v1 (by omega)]
  simp only [Option.bind_some]
  rw [take22 (by omega) v1 (by omega)]
  simp only [Option.bind_some]
  rw [copies22 v1 (by omega) (by omega)]
  simp only [Option.bind_some]
  rw [show f19_l49 (a1.length, a1) k (0 : Int) a1 = _ from want_loop (by omega) a1 [] k rfl (by omega)]
  simp only [Option.bind_some, f19_j87, haw, Bool.not_true, cond_false]
  rw [cdn (by simp), gdp (by simp), List.take_of_length_le (by simp), same22 (by simp; omega) (by simp; omega)]
  simp only [Option.bind_some, Bool.not_true, cond_false]
  obtain ⟨s2, g2⟩ := putAll_ok a0 [] List.Pairwise.nil (by simp)
  have l2 := putAll_len_le a0 []
  have v2 : ∀ p ∈ putAll [] a0, lenP p ≤ 20000 := fun p hp => ((g2 p hp).2).elim (v0 p) (fun h => by cases h)
  obtain ⟨s3, g3⟩ := putAll_ok a1 (putAll [] a0) s2 fun q hq => (g2 q hq).1
  have l3 := putAll_len_le a1 (putAll [] a0)
  have v3 : ∀ p ∈ putAll (putAll [] a0) a1, lenP p ≤ 20000 := fun p hp => ((g3 p hp).2).elim (v1 p) (v2 p)
  simp only [List.length_nil, Nat.zero_add] at l2
  rw [put22 (by simp) (big a0 v0) (by simp) (by omega) (by simp; omega)]
  simp only [Option.bind_some]
  rw [put22 (big _ v2) (big _ v1) (by omega) (by omega) (by omega)]
  simp only [Option.bind_some]
  rw [show f19_l128 a1 k (putAll [] a0) (0 : Int) = _ from one_loop (by omega) v1 a1 [] (putAll [] a0) k rfl v2 (by omega) (by omega) s2 fun q hq => (g2 q hq).1]
  simp only [Option.bind_some, f19_j158]
  rw [same22 (by omega) (by omega)]
  simp only [Option.bind_some, Bool.not_true, cond_false]
  rw [put22 (big _ v3) (big _ v3) (by omega) (by omega) (by omega), putAll_same _ _ s3 (fun q hq => (g3 q hq).1) fun q hq => hq]
  simp only [Option.bind_some]
  rw [same22 (by omega) (by omega)]
  simp only [Option.bind_some, Bool.not_true, cond_false]
  by_cases c : a1.length = 0
  · rw [cdp (by omega)]
  rw [cdn (by omega), i64w (by omega), gdp (by omega), get22 (big _ v3) (by omega) (by omega)]
  simp only [Option.bind_some, f22]
  obtain ⟨pre, p, hp⟩ : ∃ pre p, a1 = pre ++ [p] := ⟨a1.dropLast, a1.getLast (fun e => c (by rw [e]; rfl)), (List.dropLast_concat_getLast _).symm⟩
  have hrd : rd a1 (((a1.length : Nat) : Int) - 1) = p := by
    rw [hp, show ((((pre ++ [p]).length : Nat)) : Int) - 1 = ((pre.length : Nat) : Int) by simp]
    exact rd_mid
  rw [hrd]
  have hput : putAll (putAll [] a0) a1 = putOne p (putAll (putAll [] a0) pre) := by rw [hp, putAll, putAll, List.foldl_append]; rfl
  obtain ⟨s4, g4⟩ := putAll_ok pre (putAll [] a0) s2 fun q hq => (g2 q hq).1
  rw [hput]
  cases hg : p.fGone
  · rw [getO_put hg]
    simp
  · have := getO_none (key := p.fKey) (l := putOne p (putAll (putAll [] a0) pre)) fun q hq => ((drop_mem hg s4).2.1 q |>.1 hq).2
    rw [this]
    rfl
end Go.Proofs.Abs
