/- What a law is handed, read as typed data. -/
import Derived.Test.YtgimibhacllcpaaAbs41
import Derived.ChangeSlices
import Derived.Carry
namespace Go.Proofs.Abs
open Go Go.ChangeShapes Go.WideShapes Go.ChangeAt Go.RowKit
set_option linter.unusedVariables false
set_option linter.unusedSectionVars false

mutual
def bulk {H : Type} : DataW H → Nat
  | .lit (.string bytes) => bytes.length + 1
  | .lit _ => 1
  | .nil => 1
  | .ptr d => bulk d + 1
  | .slice elems spare => bulkAll elems + bulkAll spare + 1
  | .agg parts => bulkAll parts + 1
  | .iface _ d => bulk d + 1
  | .map entries => bulkEntries entries + 1
  | .held _ => 1
def bulkAll {H : Type} : List (DataW H) → Nat
  | [] => 0
  | d :: r => bulk d + bulkAll r
def bulkEntries {H : Type} : List (Lit × DataW H) → Nat
  | [] => 0
  | x :: r => bulkEntry x + bulkEntries r
def bulkEntry {H : Type} : Lit × DataW H → Nat
  | (.string bytes, d) => bytes.length + bulk d + 1
  | (_, d) => bulk d + 1
end

theorem add_add (a : Addr) (x y : Nat) : (a.add x).add y = a.add (x + y) := by
  obtain ⟨b, o, s⟩ := a
  unfold Addr.add
  by_cases hx : x = 0 <;> by_cases hy : y = 0 <;> simp [hx, hy, Nat.add_assoc]
/-- a type's values, read as typed data -/
structure Rd (P : Program) (t : TypeId) {α : Type} (e : α → D) (wf : α → Prop) (sz : α → Nat) : Prop where
  read : ∀ {H : Type} {enc : TypeId × Value → H} {W : World} {fuel : Nat} {cs : List Value} {x : DataW H × List MemPlace}, DataW.trod enc P W 0 (fun _ => true) true fuel t cs = some x →
    ∃ a : α, wf a ∧ sz a ≤ bulk x.1 ∧ (e a).cells.length = cs.length ∧ ∀ j (h1 : j < (e a).cells.length) (h2 : j < cs.length), DV (sealOf W) (e a).cells[j] cs[j]

section
variable {P : Program} {t : TypeId}
theorem rd_one {α : Type} {e : α → D} {S : Seal} {a : α} {v : Value} (h : (e a).isAgg = false) (hv : DV S (e a) v) : (e a).cells.length = [v].length ∧ ∀ j (h1 : j < (e a).cells.length) (h2 : j < [v].length), DV S (e a).cells[j] [v][j] := by
  have hc := one_cells h
  refine ⟨by simp [hc], fun j h1 h2 => ?_⟩
  have : j = 0 := by simp at h2; exact h2
  subst this
  simp only [hc, List.getElem_cons_zero]
  exact hv
theorem rd_int {k : IntKind} (hu : P.underlying t = some (.int k)) : Rd P t (D.int k) (fun n => k.min ≤ n ∧ n ≤ k.max) (fun _ => 1) := ⟨by
  intro H enc W fuel cs x h
  obtain ⟨n, rfl, rfl, hw⟩ := DataW.trod_int hu h
  obtain ⟨h1, h2⟩ := rd_one (e := D.int k) (a := n) (S := sealOf W) rfl .int
  exact ⟨n, by simpa [Lit.wf] using hw, by simp [bulk], h1, h2⟩⟩
theorem rd_byte (hu : P.underlying t = some (.int .u8)) : Rd P t byteD (fun _ => True) (fun _ => 1) := ⟨by
  intro H enc W fuel cs x h
  obtain ⟨n, rfl, rfl, hw⟩ := DataW.trod_int hu h
  have hn : 0 ≤ n ∧ n < 256 := by
    have : 0 ≤ n ∧ n ≤ 255 := by simpa [Lit.wf, IntKind.min, IntKind.max, IntKind.signed, IntKind.bits] using hw
    omega
  have hb : DV (sealOf W) (byteD (u8 n)) (.int .u8 n) := by
    rw [show byteD (u8 n) = .int .u8 n from (u8_eq hn).symm]; exact .int
  obtain ⟨h1, h2⟩ := rd_one (e := byteD) (a := u8 n) rfl hb
  exact ⟨u8 n, trivial, by simp [bulk], h1, h2⟩⟩
theorem rd_bool (hu : P.underlying t = some .bool) : Rd P t D.bool (fun _ => True) (fun _ => 1) := ⟨by
  intro H enc W fuel cs x h
  obtain ⟨b, rfl, rfl⟩ := DataW.trod_bool hu h
  obtain ⟨h1, h2⟩ := rd_one (e := D.bool) (a := b) (S := sealOf W) rfl .bool
  exact ⟨b, trivial, by simp [bulk], h1, h2⟩⟩
theorem rd_str (hu : P.underlying t = some .string) : Rd P t D.str (fun _ => True) (fun s => s.length + 1) := ⟨by
  intro H enc W fuel cs x h
  obtain ⟨s, rfl, rfl, hs⟩ := DataW.trod_string hu h
  have hv : DV (sealOf W) (D.str s.data.toList) (.string s) := by
    have : (⟨s.data.toList.toArray⟩ : ByteArray) = s := by cases s; simp
    conv => arg 3; rw [← this]
    exact .str
  obtain ⟨h1, h2⟩ := rd_one (e := D.str) (a := s.data.toList) rfl hv
  exact ⟨s.data.toList, trivial, by simp [bulk], h1, h2⟩⟩

theorem sum_le {α H : Type} {sz : α → Nat} : ∀ {xs : List α} {ys : List (DataW H)}, xs.length = ys.length → (∀ i (h1 : i < xs.length) (h2 : i < ys.length), sz xs[i] ≤ bulk ys[i]) → (xs.map sz).sum ≤ bulkAll ys
  | [], [], _, _ => by simp [bulkAll]
  | x :: xs, y :: ys, hl, h => by
    have h0 := h 0 (by simp) (by simp)
    have h1 := sum_le (sz := sz) (xs := xs) (ys := ys) (by simpa using hl) (fun i k1 k2 => h (i + 1) (by simpa using k1) (by simpa using k2))
    simp only [List.map_cons, List.sum_cons, bulkAll]
    simp only [List.getElem_cons_zero] at h0
    omega

theorem rd_slice {el : TypeId} {α : Type} {e : α → D} {wf : α → Prop} {sz : α → Nat} {z : Nat} {g : Bool} (hu : P.underlying t = some (.slice el)) (he : EncOK e z g) (hz : 0 < z) (hc : P.cellsOf el = z) (r : Rd P el e wf sz) :
    Rd P t (slE e) (fun xs => ∀ a ∈ xs, wf a) (fun xs => (xs.map sz).sum + 1) := ⟨by
  intro H enc W fuel cs x h
  rcases DataW.trod_slice hu h with ⟨rfl, rfl⟩ | ⟨a, len, cap, elems, rest, n, _, rfl, rfl, hb, hl, hm, hlen, hel, hsp, _⟩
  · obtain ⟨h1, h2⟩ := rd_one (e := slE e) (a := []) (S := sealOf W) (v := .slice none 0 0) rfl .nilsl
    exact ⟨[], by simp, by simp [bulk], h1, h2⟩
  rw [hc] at hel hsp
  have each : ∀ i : Fin len, ∃ a0 : α, wf a0 ∧ (∃ hi : i.1 < elems.length, sz a0 ≤ bulk elems[i.1].1) ∧ ∀ m (hm : m < (e a0).cells.length), ∃ v, W.cell? (a.add (i.1 * z + m)) = some v ∧ DV (sealOf W) (e a0).cells[m] v := by
    intro i
    have hi : i.1 < elems.length := by rw [hlen]; exact i.2
    have := hel i.1 i.2
    rw [List.getElem?_eq_getElem hi, Option.bind_eq_some_iff] at this
    obtain ⟨cs', hcs, hy⟩ := this
    obtain ⟨a0, w1, w2, w3, w4⟩ := r.read hy
    refine ⟨a0, w1, ⟨hi, w2⟩, fun m hm => ?_⟩
    have hm' : m < cs'.length := by rw [← w3]; exact hm
    obtain ⟨_, hcl, hcell⟩ := World.cells?_some hcs
    refine ⟨cs'[m], ?_, w4 m hm hm'⟩
    have h5 := hcell m (by rw [← hcl]; exact hm')
    rw [List.getElem?_eq_getElem hm'] at h5
    rw [← h5, add_add]
  let xs : List α := List.ofFn fun i : Fin len => Classical.choose (each i)
  have hxl : xs.length = len := by simp [xs]
  have hx : ∀ i (hi : i < xs.length), wf xs[i] ∧ (∃ h : i < elems.length, sz xs[i] ≤ bulk elems[i].1) ∧ ∀ m (hm : m < (e xs[i]).cells.length), ∃ v, W.cell? (a.add (i * z + m)) = some v ∧ DV (sealOf W) (e xs[i]).cells[m] v := by
    intro i hi
    have hi' : i < len := by rw [← hxl]; exact hi
    have := Classical.choose_spec (each ⟨i, hi'⟩)
    simpa [xs, List.getElem_ofFn] using this
  have hdv : DV (sealOf W) (.sl (xs.map e)) (.slice (some a) len cap) := by
    by_cases hcap : cap = 0
    · have h0 : len = 0 := by omega
      have : xs = [] := List.eq_nil_of_length_eq_zero (by rw [hxl, h0])
      rw [this, h0, hcap]
      exact .emp
    · have hspot : a.spot = none := by
        have h0 : ∃ y cs', W.cells? 0 (a.add (0 * z)) z = some cs' ∧ DataW.trod enc P W 0 (fun _ => true) true n el cs' = some y := by
          by_cases hl0 : len = 0
          · obtain ⟨hr1, hr2⟩ := hsp rfl
            have h1 : 0 < rest.length := by omega
            have := hr2 0 (by omega)
            rw [List.getElem?_eq_getElem h1, Option.bind_eq_some_iff] at this
            obtain ⟨cs', hcs, hy⟩ := this
            rw [hl0] at hcs
            exact ⟨_, cs', hcs, hy⟩
          · have h1 : 0 < elems.length := by omega
            have := hel 0 (by omega)
            rw [List.getElem?_eq_getElem h1, Option.bind_eq_some_iff] at this
            obtain ⟨cs', hcs, hy⟩ := this
            exact ⟨_, cs', hcs, hy⟩
        obtain ⟨y, cs', hcs, _⟩ := h0
        obtain ⟨_, hcl, hcell⟩ := World.cells?_some hcs
        have h5 := hcell 0 hz
        have h6 : 0 < cs'.length := by rw [hcl]; exact hz
        rw [List.getElem?_eq_getElem h6] at h5
        unfold World.cell? at h5
        split at h5
        · split at h5
          · cases h5
          · rename_i hs
            cases hsx : a.spot with
            | none => rfl
            | some s => simp [Addr.add, hsx] at hs
        · cases h5
      obtain ⟨b, o, sp⟩ := a
      simp only at hspot
      subst hspot
      have hll : (xs.map e).length = len := by simp [hxl]
      have hzz : ∀ d ∈ xs.map e, d.cells.length = z := fun d hd => by obtain ⟨y, _, rfl⟩ := List.mem_map.1 hd; exact he.len y
      have key : ∀ m (hm : m < (flat (xs.map e)).length), ∃ v, W.cell? ⟨b, o + m, none⟩ = some v ∧ DV (sealOf W) (flat (xs.map e))[m] v := by
        intro m hm
        have hfl := flat_len hzz
        have h1 : m / z < xs.length := by
          rw [Nat.div_lt_iff_lt_mul hz]; rw [hfl] at hm; simpa using hm
        have h2 : m % z < z := Nat.mod_lt _ hz
        obtain ⟨q1, q2, q3⟩ := flat_at hzz (n := m / z) (m := m % z) (by simpa using h1) h2
        obtain ⟨_, _, w3⟩ := hx (m / z) h1
        obtain ⟨v, v1, v2⟩ := w3 (m % z) (by rw [he.len]; exact h2)
        have hmm : m / z * z + m % z = m := by rw [Nat.mul_comm]; exact Nat.div_add_mod m z
        refine ⟨v, ?_, ?_⟩
        · rw [← v1, addr_add]; congr 2; omega
        · have e1 : (flat (xs.map e))[m] = (flat (xs.map e))[m / z * z + m % z] := by simp only [hmm]
          rw [e1, q3]
          simpa using v2
      have := DV.sl (S := sealOf W) (z := z) (l := xs.map e) (b := b) (o := o) (cap := cap) (fun m => (W.cell? ⟨b, o + m, none⟩).getD undef) hzz (cellsD_sc he xs) (by rw [hll]; exact hl) (fun m hm => by
        obtain ⟨v, v1, _⟩ := key m hm
        show W.cell? _ = _
        rw [v1]; rfl) (fun m hm => by
        obtain ⟨v, v1, v2⟩ := key m hm
        rw [v1]; exact v2)
      rwa [hll] at this
  obtain ⟨h1, h2⟩ := rd_one (e := slE e) (a := xs) rfl hdv
  refine ⟨xs, fun y hy => ?_, ?_, h1, h2⟩
  · obtain ⟨i, hi, rfl⟩ := List.getElem_of_mem hy
    exact (hx i hi).1
  · have := sum_le (sz := sz) (xs := xs) (ys := elems.map (·.1)) (by rw [hxl, List.length_map, hlen]) (fun i k1 k2 => by
      obtain ⟨_, ⟨k3, k4⟩, _⟩ := hx i k1
      simpa using k4)
    simp only [bulk]
    omega⟩

/-! ### structs, field by field -/
structure RdF (P : Program) (fs : List Field) (off : Nat) {β : Type} (ec : β → List D) (wf : β → Prop) (sz : β → Nat) : Prop where
  read : ∀ {H : Type} {enc : TypeId × Value → H} {W : World} {n : Nat} {cs : List Value} {xs : List (DataW H × List MemPlace)}, xs.length = fs.length →
    (∀ (i : Nat) (f : Field), fs[i]? = some f → DataW.trod enc P W 0 (fun _ => true) true n f.type ((cs.drop f.offset).take (P.cellsOf f.type)) = xs[i]?) →
    ∃ b : β, wf b ∧ sz b ≤ bulkAll (xs.map (·.1)) ∧ ∀ j (h1 : j < (ec b).length), ∃ v, cs[off + j]? = some v ∧ DV (sealOf W) (ec b)[j] v
theorem rdf_nil {off : Nat} : RdF P [] off (fun _ : Unit => []) (fun _ => True) (fun _ => 0) := ⟨by
  intro H enc W n cs xs hl _
  exact ⟨(), trivial, Nat.zero_le _, fun j h1 => by simp at h1⟩⟩
theorem rdf_cons {f : Field} {fs : List Field} {off z : Nat} {α β : Type} {e : α → D} {ec : β → List D} {wf : α → Prop} {wf' : β → Prop} {sz : α → Nat} {sz' : β → Nat} {g : Bool} (hoff : f.offset = off) (he : EncOK e z g) (r : Rd P f.type e wf sz)
    (rs : RdF P fs (off + z) ec wf' sz') : RdF P (f :: fs) off (fun p : α × β => (e p.1).cells ++ ec p.2) (fun p => wf p.1 ∧ wf' p.2) (fun p => sz p.1 + sz' p.2) := ⟨by
  intro H enc W n cs xs hl h
  cases xs with
  | nil => simp at hl
  | cons x xs =>
    have h0 := h 0 f rfl
    simp only [List.getElem?_cons_zero] at h0
    obtain ⟨a, w1, w2, w3, w4⟩ := r.read h0
    obtain ⟨b, u1, u2, u3⟩ := rs.read (xs := xs) (by simpa using hl) (fun i f' hf => by simpa using h (i + 1) f' (by simpa using hf))
    refine ⟨(a, b), ⟨w1, u1⟩, by simp only [List.map_cons, bulkAll]; omega, fun j h1 => ?_⟩
    have hz := he.len a
    by_cases hj : j < z
    · have h2 : j < ((cs.drop f.offset).take (P.cellsOf f.type)).length := by omega
      refine ⟨((cs.drop f.offset).take (P.cellsOf f.type))[j], ?_, ?_⟩
      · have := List.getElem?_eq_getElem h2
        rw [← this, List.getElem?_take, List.getElem?_drop, hoff, if_pos]
        rw [List.length_take] at h2; omega
      · rw [List.getElem_append_left (show j < (e a).cells.length by omega)]
        exact w4 j (by omega) h2
    · have h2 : j - z < (ec b).length := by
        simp only [List.length_append, hz] at h1; omega
      obtain ⟨v, v1, v2⟩ := u3 (j - z) h2
      refine ⟨v, ?_, ?_⟩
      · rw [← v1]; congr 1; omega
      · rw [List.getElem_append_right (show (e a).cells.length ≤ j by omega)]
        simp only [hz]
        exact v2⟩
theorem rd_struct {fs : Array Field} {T β : Type} {e : T → D} {ec : β → List D} {wf : T → Prop} {wf' : β → Prop} {sz : T → Nat} {sz' : β → Nat} (hu : P.underlying t = some (.struct fs)) (mk : β → T) (hmk : ∀ b, e (mk b) = .agg (ec b)) (hz : ∀ b, (ec b).length = P.cellsOf t)
    (hwf : ∀ b, wf' b → wf (mk b)) (hsz : ∀ b, sz (mk b) ≤ sz' b + 1) (r : RdF P fs.toList 0 ec wf' sz') : Rd P t e wf sz := ⟨by
  intro H enc W fuel cs x h
  obtain ⟨xs, n, rfl, rfl, h1, h2, h3⟩ := DataW.trod_struct hu h
  obtain ⟨b, u1, u2, u3⟩ := r.read (cs := cs) (xs := xs) (by simpa using h2) (fun i f hf => h3 i f (by simpa using hf))
  have hs := hsz b
  refine ⟨mk b, hwf b u1, by simp only [bulk]; omega, by rw [hmk]; show (ec b).length = _; rw [hz, h1], fun j k1 k2 => ?_⟩
  have k3 : j < (ec b).length := by rw [hmk] at k1; exact k1
  obtain ⟨v, v1, v2⟩ := u3 j k3
  rw [Nat.zero_add, List.getElem?_eq_getElem k2] at v1
  cases v1
  have e1 : (e (mk b)).cells[j] = (ec b)[j] := by simp only [hmk, D.cells]
  rw [e1]; exact v2⟩

/-- an argument -/
theorem Rd.arg {α : Type} {e : α → D} {wf : α → Prop} {sz : α → Nat} {z : Nat} {g : Bool} (r : Rd P t e wf sz) (he : EncOK e z g) {d0 : TypeDesc} (hu : P.underlying t = some d0) (hg : isAggD d0 = g) {W : World} {base : Nat} {v : Value} (hval : Value.okWide P W .any base t v) {H : Type}
    {enc : TypeId × Value → H} {d : DataW H} {ps : List MemPlace} (h : DataW.Trod enc P W 0 (fun _ => true) true t v d ps) : ∃ a, wf a ∧ sz a ≤ bulk d ∧ DV (sealOf W) (e a) v := by
  obtain ⟨fuel, hf⟩ := h
  obtain ⟨a, w1, w2, w3, w4⟩ := r.read hf
  refine ⟨a, w1, w2, ?_⟩
  have hag := he.ag a
  cases g with
  | false =>
    have hv : ∀ cs, v ≠ .agg cs := by
      rintro cs rfl
      unfold Value.okWide at hval
      rw [hu] at hval
      cases d0 <;> simp [isAggD] at hg <;> simp [Cell.okWide, Cell.ok, hu] at hval
    have hc : v.cells.toList = [v] := by
      cases v <;> first | rfl | exact absurd rfl (hv _)
    have := w4 0 (by rw [one_cells hag]; simp) (by rw [hc]; simp)
    simpa [one_cells hag, hc] using this
  | true =>
    have hv : ∃ cs, v = .agg cs := by
      unfold Value.okWide at hval
      rw [hu] at hval
      cases d0 <;> simp [isAggD] at hg <;> (obtain ⟨cs, h, _⟩ := hval; exact ⟨cs, h⟩)
    obtain ⟨cs, rfl⟩ := hv
    rw [agg_cells hag]
    have := DV.agg (S := sealOf W) (l := (e a).cells) (vs := cs.toList) w3 (he.sc a) (fun i h1 h2 => w4 i h1 h2)
    simpa using this
end
end Go.Proofs.Abs
