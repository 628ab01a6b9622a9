/- Pairs as bytes: what is written, and what is taken of it. -/
import Derived.Test.YtojmpoboidomeaaGLkbyc
import Derived.Test.YtojmpoboidomeaaPKor
import Derived.Test.YtojmpoboidomeaaPCod
import Derived.Test.YtojmpoboidomeaaPReb
set_option linter.unusedSimpArgs false
namespace Go.Proofs.Abs
open Go
set_option linter.unusedVariables false
set_option maxRecDepth 10000
def lenP (p : TPair) : Nat := p.fKey.length + p.fValue.length
theorem lenP_mem : ∀ (l : List TPair), ∀ p ∈ l, lenP p ≤ (l.map lenP).sum
  | [], p, h => by cases h
  | x :: l, p, h => by
    simp only [List.map_cons, List.sum_cons]
    rcases List.mem_cons.1 h with e | e
    · subst e; omega
    · have := lenP_mem l p e; omega
theorem few_loop {l : List TPair} (hn : l.length < 200) (hs : (l.map lenP).sum ≤ 1048576000) : ∀ (rest pre : List TPair) (s k : Nat), l = pre ++ rest → s = (pre.map lenP).sum → rest.length < k → f70_l14 l k (s : Int) ((pre.length : Nat) : Int) = some (.b0 (((l.map lenP).sum : Nat) : Int)) := by
  intro rest
  induction rest with
  | nil =>
    intro pre s k hl hs' hk
    obtain ⟨k, rfl, _⟩ := succ_of_pos (show 0 < k by omega)
    rw [List.append_nil] at hl
    rw [f70_l14, cdn (by rw [hl]; omega), hs', hl]
  | cons p rest ih =>
    intro pre s k hl hs' hk
    obtain ⟨k, rfl, _⟩ := succ_of_pos (show 0 < k by omega)
    have hrd : rd l ((pre.length : Nat) : Int) = p := by subst hl; exact rd_mid
    have hln : l.length = pre.length + rest.length + 1 := by rw [hl]; simp; omega
    have hsum : (l.map lenP).sum = s + lenP p + (rest.map lenP).sum := by rw [hl, hs']; simp; omega
    simp only [lenP] at hsum
    rw [f70_l14, cdp (by omega), cdp (by omega), gdp (by omega), gdp (by omega), hrd, i64w (n := (s : Int) + _) (by omega), i64w (by omega), i64w (n := ((pre.length : Nat) : Int) + 1) (by omega)]
    have h := ih (pre ++ [p]) (s + lenP p) k (by rw [hl]; simp) (by rw [hs']; simp) (by simp at hk; omega)
    rw [← h]
    congr 1
    · simp only [lenP]; omega
    · simp
theorem few_exact {l : List TPair} (hs : (l.map lenP).sum ≤ 1048576000) (hn : l.length ≤ 1048576) (hsz : ∀ p ∈ l, p.fKey.length + p.fValue.length ≤ 1048576) {k : Nat} (hk : l.length < k) : ∃ b, f70 k l = some b ∧ (b = true → l.length < 200 ∧ (l.map lenP).sum < 20000) := by
  by_cases c : l.length < 200
  · have h := few_loop c hs l [] 0 k rfl rfl hk
    have h' : f70_l14 l k (0 : Int) (0 : Int) = some (.b0 (((l.map lenP).sum : Nat) : Int)) := h
    rw [f70, h']
    show ∃ b, f70_j56 k l (((l.map lenP).sum : Nat) : Int) = some b ∧ _
    delta f70_j56
    rw [cdp (by omega)]
    refine ⟨_, rfl, fun hb => ⟨c, ?_⟩⟩
    have := of_decide_eq_true hb
    omega
  · obtain ⟨b, hb⟩ := few_some (B := 1048576) (by decide) hsz hn hk
    refine ⟨b, hb, fun e => ?_⟩
    exfalso
    subst e
    rw [f70] at hb
    cases ho : f70_l14 l k (0 : Int) (0 : Int) with
    | none => rw [ho] at hb; cases hb
    | some o =>
      rw [ho] at hb
      cases o with
      | b0 m =>
        have hb' : f70_j56 k l m = some true := hb
        revert hb'
        delta f70_j56
        rw [cdn (by omega)]
        intro hb'; cases hb'
      | b1 m => cases hb
      | r m => cases hb
/-- a pair's bytes -/
def pb (p : TPair) : List UInt8 := tb p.fKey ++ (if p.fGone = true then [1] ++ tb [] else [0] ++ tb p.fValue)
def pbs (l : List TPair) : List UInt8 := nb (zg ((l.length : Nat) : Int)) ++ (l.map pb).flatten
theorem pb_len {p : TPair} (h : lenP p ≤ 20000) : (pb p).length ≤ lenP p + 30 := by
  simp only [lenP] at h ⊢
  have h1 := tb_len (t := p.fKey) (by omega)
  have h2 := tb_len (t := p.fValue) (by omega)
  have h3 := tb_len (t := []) (by simp)
  simp only [List.length_nil] at h3
  simp only [pb, List.length_append]
  split <;> simp only [List.length_append, List.length_singleton] <;> omega
theorem pbs_len : ∀ (l : List TPair), (∀ p ∈ l, lenP p ≤ 20000) → ((l.map pb).flatten).length ≤ (l.map lenP).sum + 30 * l.length
  | [], _ => by simp
  | p :: l, h => by
    have h1 := pb_len (h p List.mem_cons_self)
    have h2 := pbs_len l fun q hq => h q (List.mem_cons_of_mem _ hq)
    simp only [List.map_cons, List.flatten_cons, List.length_append, List.sum_cons, List.length_cons]
    omega
theorem bytes_loop {l : List TPair} (hn : l.length ≤ 1000) (hp : ∀ p ∈ l, lenP p ≤ 20000) : ∀ (rest pre : List TPair) (acc : List UInt8) (k : Nat), l = pre ++ rest → acc.length + 20030 * rest.length ≤ 100000000 → rest.length + 10 < k →
    f80_l19 l k acc ((pre.length : Nat) : Int) = some (.b0 (acc ++ (rest.map pb).flatten)) := by
  intro rest
  induction rest with
  | nil =>
    intro pre acc k hl ha hk
    obtain ⟨k, rfl, _⟩ := succ_of_pos (show 0 < k by omega)
    rw [List.append_nil] at hl
    rw [f80_l19, cdn (by rw [hl]; omega)]
    simp
  | cons p rest ih =>
    intro pre acc k hl ha hk
    obtain ⟨k, rfl, _⟩ := succ_of_pos (show 0 < k by omega)
    have hrd : rd l ((pre.length : Nat) : Int) = p := by subst hl; exact rd_mid
    have hln : l.length = pre.length + rest.length + 1 := by rw [hl]; simp; omega
    have hpl := hp p (by rw [hl]; simp)
    have hpb := pb_len hpl
    simp only [lenP] at hpl hpb
    simp only [List.length_cons] at hk ha
    have hb' : (pb p).length ≤ 20030 := by omega
    simp only [pb, List.length_append] at hb'
    rw [f80_l19, cdp (by omega), gdp (by omega), hrd, text_code (by omega) (by omega)]
    simp only [Option.bind_some]
    rw [gdp (by omega)]
    have h := fun a h1 => ih (pre ++ [p]) a k (by rw [hl]; simp) h1 (by omega)
    have hw : IntKind.i64.wrap (((pre.length : Nat) : Int) + 1) = (((pre ++ [p]).length : Nat) : Int) := by rw [i64w (by omega)]; simp
    cases hg : p.fGone
    · simp only [hg, Bool.false_eq_true, if_false, List.length_append, List.length_singleton] at hb'
      rw [cond_false, gdp (by simp; omega), text_code (by omega) (by omega)]
      simp only [Option.bind_some]
      rw [gdp (by simp; omega), hw, h _ (by simp; omega)]
      simp [pb, hg]
    · simp only [hg, if_true, List.length_append, List.length_singleton] at hb'
      rw [cond_true, gdp (by simp; omega), text_code (by simp) (by omega)]
      simp only [Option.bind_some]
      rw [gdp (by simp; omega), hw, h _ (by simp; omega)]
      simp [pb, hg]
theorem bytes22 {l : List TPair} (hn : l.length ≤ 1000) (hp : ∀ p ∈ l, lenP p ≤ 20000) {k : Nat} (hk : l.length + 20 < k) : f80 k l = some (pbs l) := by
  have h1 := nb_len10 (zg_lt (a := ((l.length : Nat) : Int)) (by omega))
  rw [f80, zig_code (by omega) (by omega)]
  simp only [Option.bind_some]
  rw [show f80_l19 l k _ (0 : Int) = _ from bytes_loop hn hp l [] _ k rfl (by omega) (by omega)]
  rfl
theorem rRaw_put {b pre rest : List UInt8} {c : UInt8} (hb : b = pre ++ (c :: rest)) : rRaw b pre.length 0 1 = ([c], (pre ++ [c]).length, 0) := by
  subst hb
  simp only [rRaw, if_true]
  rw [if_neg (by decide), if_neg (by simp; omega)]
  simp
/-- what is taken of a pair that was written -/
def wantP (p : TPair) : TPair := if p.fGone = true then TPair.mk p.fKey [] p.fGone else p
theorem pair_put {b pre rest : List UInt8} {p : TPair} (hb : b = pre ++ (pb p ++ rest)) (hbl : b.length ≤ 100000000) (hp : lenP p ≤ 20000) {k : Nat} (hk : 10 ≤ k) :
    f107 k b ((pre.length : Nat) : Int) 0 = some (0, p.fKey, (wantP p).fValue, p.fGone, (((pre ++ pb p).length : Nat) : Int), 0) := by
  simp only [lenP] at hp
  have key : ∀ (c : UInt8) (t : List UInt8), pb p = tb p.fKey ++ ([c] ++ tb t) → t.length ≤ 20000 → (((c.toNat : Nat) : Int) = 1 ∧ t = [] ∨ c = 0) → (decide (((c.toNat : Nat) : Int) = 1)) = p.fGone → t = (wantP p).fValue →
      f107 k b ((pre.length : Nat) : Int) 0 = some (0, p.fKey, (wantP p).fValue, p.fGone, (((pre ++ pb p).length : Nat) : Int), 0) := by
    intro c t e ht hc hgo hw
    have hpl : (pre ++ pb p).length ≤ b.length := by rw [hb]; simp
    rw [e] at hpl
    simp only [List.length_append, List.length_singleton] at hpl
    have t1 := rText_put (b := b) (pre := pre) (rest := [c] ++ tb t ++ rest) (t := p.fKey) (m := 32768) (by rw [hb, e]; simp) (by omega) (by decide)
    have t2 := rRaw_put (b := b) (pre := pre ++ tb p.fKey) (rest := tb t ++ rest) (c := c) (by rw [hb, e]; simp)
    have t3 := rText_put (b := b) (pre := pre ++ tb p.fKey ++ [c]) (rest := rest) (t := t) (m := 32768) (by rw [hb, e]; simp) (by omega) (by decide)
    rw [f107, text_read hbl (by omega) hk, t1]
    simp only [Option.bind_some]
    rw [raw_read hbl (by simp; omega) (by decide), t2]
    simp only [Option.bind_some, f42]
    rw [cdp trivial, gdp (by simp)]
    have hr : rd [c] (0 : Int) = c := rfl
    simp only [hr]
    have hno : decide (((c.toNat : Nat) : Int) > 1) = false := by
      rcases hc with ⟨h, _⟩ | h
      · rw [h]; rfl
      · rw [h]; rfl
    rw [hno, f107_j34, cond_false, text_read hbl (by simp; omega) hk, t3]
    simp only [Option.bind_some, f42]
    rw [cdn (by simp), gdp (by simp)]
    simp only [hr, hgo, f107_j93]
    have hz : decide (((t.length : Nat) : Int) > 0) = false ∨ p.fGone = false := by
      rcases hc with ⟨_, h⟩ | h
      · left; rw [h]; rfl
      · right; rw [← hgo, h]; rfl
    have he : (pre ++ tb p.fKey ++ [c] ++ tb t) = pre ++ pb p := by rw [e]; simp
    rw [← hw, he]
    rcases hz with h | h
    · rw [h]
      cases p.fGone <;> rfl
    · rw [h]; rfl
  cases hg : p.fGone
  · rw [← hg]
    exact key 0 p.fValue (by simp [pb, hg]) (by omega) (.inr rfl) (by rw [hg]; rfl) (by simp [wantP, hg])
  · rw [← hg]
    exact key 1 [] (by simp [pb, hg]) (by simp) (.inl ⟨rfl, rfl⟩) (by rw [hg]; rfl) (by simp [wantP, hg])
theorem take_loop {b : List UInt8} {l : List TPair} {r16 : Int × Int × Int} (hr : r16.1 = ((l.length : Nat) : Int)) (hbl : b.length ≤ 100000000) (hn : l.length ≤ 1000) (hp : ∀ p ∈ l, lenP p ≤ 20000) : ∀ (rest pre : List TPair) (bp : List UInt8) (k : Nat), l = pre ++ rest → b = bp ++ (rest.map pb).flatten → rest.length + 12 < k →
    f78_l73 r16 b k (pre.map wantP) ((pre.length : Nat) : Int) ((bp.length : Nat) : Int) 0 = some (.b0 (l.map wantP, ((b.length : Nat) : Int), 0)) := by
  intro rest
  induction rest with
  | nil =>
    intro pre bp k hl hb hk
    obtain ⟨k, rfl, _⟩ := succ_of_pos (show 0 < k by omega)
    rw [List.append_nil] at hl
    rw [f78_l73, hr, cdn (by rw [hl]; omega), hl, hb]
    simp
  | cons p rest ih =>
    intro pre bp k hl hb hk
    obtain ⟨k, rfl, _⟩ := succ_of_pos (show 0 < k by omega)
    have hln : l.length = pre.length + rest.length + 1 := by rw [hl]; simp; omega
    simp only [List.length_cons] at hk
    rw [f78_l73, hr, cdp (by omega), pair_put (p := p) (rest := (rest.map pb).flatten) (by rw [hb]; simp) hbl (hp p (by rw [hl]; simp)) (by omega)]
    simp only [Option.bind_some]
    rw [cdn (by simp), gdp (by simp; omega), i64w (by omega)]
    have h := ih (pre ++ [p]) (bp ++ pb p) k (by rw [hl]; simp) (by rw [hb]; simp) (by omega)
    have e1 : TPair.mk p.fKey (wantP p).fValue p.fGone = wantP p := by
      unfold wantP; split <;> rfl
    rw [e1]
    rw [show ((((pre ++ [p]).length : Nat)) : Int) = ((pre.length : Nat) : Int) + 1 by simp, List.map_append] at h
    exact h
theorem take22 {l : List TPair} (hn : l.length ≤ 1000) (hp : ∀ p ∈ l, lenP p ≤ 20000) {k : Nat} (hk : l.length + 20 < k) : f78 k (pbs l) = some (l.map wantP, 0) := by
  have hz : -9223372036854775808 ≤ ((l.length : Nat) : Int) ∧ ((l.length : Nat) : Int) ≤ 9223372036854775807 := by omega
  have h1 := nb_len10 (zg_lt hz)
  have h2 := pbs_len l hp
  have h3 : (l.map lenP).sum ≤ 20000 * l.length := by
    have : ∀ l : List TPair, (∀ p ∈ l, lenP p ≤ 20000) → (l.map lenP).sum ≤ 20000 * l.length := by
      intro l
      induction l with
      | nil => intro _; simp
      | cons p l ih =>
        intro h
        have := h p List.mem_cons_self
        have := ih fun q hq => h q (List.mem_cons_of_mem _ hq)
        simp only [List.map_cons, List.sum_cons, List.length_cons]; omega
    exact this l hp
  have hbl : (pbs l).length ≤ 100000000 := by simp only [pbs, List.length_append]; omega
  have z := rZig_put (b := pbs l) (pre := []) (rest := (l.map pb).flatten) rfl hz
  rw [f78, new_read hbl, show f40 k (pbs l) (0 : Int) (0 : Int) = _ from zig_read (p := 0) hbl (Nat.zero_le _) (by omega)]
  simp only [Option.bind_some, f42]
  rw [show rZig (pbs l) 0 0 = _ from z]
  simp only [List.nil_append]
  rw [cdn (by simp), cdn (by omega), cdn (by omega)]
  have hl := take_loop (b := pbs l) (r16 := (((l.length : Nat) : Int), (((nb (zg ((l.length : Nat) : Int))).length : Nat) : Int), 0)) rfl hbl hn hp l [] (nb (zg ((l.length : Nat) : Int))) k rfl rfl (by omega)
  rw [show f78_l73 _ (pbs l) k [] (0 : Int) _ 0 = _ from hl]
  simp only [Option.bind_some, f78_j122]
  rw [end_read hbl (Nat.le_refl _)]
  have he : rEnd (pbs l) (pbs l).length 0 = 0 := by simp [rEnd]
  rw [he]
  rfl
end Go.Proofs.Abs
