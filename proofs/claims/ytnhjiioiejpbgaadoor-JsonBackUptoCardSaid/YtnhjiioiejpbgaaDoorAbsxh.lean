/- Several texts of one proof, one behind the other. -/
import Derived.Test.YtnhjiioiejpbgaaDoorAbsxg
import Derived.Below
import Derived.Shelf.Unicode.DecodeSlow
import Derived.Lib.ValidU
import Derived.MapKept
set_option linter.unusedSimpArgs false
section
/- Functions of unicode/utf8 that read its two tables: what they tell. -/
namespace Go.Proofs.Abs
open Go Go.RowKit
set_option maxRecDepth 100000
set_option linter.unusedVariables false
theorem gFirst_eq : ∀ c : Fin 256, gFirst c.val = Lib.firstT c.val := by decide
theorem gAcc_eq : ∀ i : Fin 16, gAcc (2 * i.val) = Lib.accLo i.val ∧ gAcc (2 * i.val + 1) = Lib.accHi i.val := by decide
theorem gT_tabs (hO : gOnT = true) {w : World} (h : ∀ a v, gT a = some v → w.cell? a = some v) : Lib.Utf8Tabs gF gA w := by
  constructor
  · intro c hc
    rw [← gFirst_eq ⟨c, hc⟩]
    refine h _ _ ?_
    have h1 : Nat.blt c 256 = true := by rw [Nat.blt_eq]; exact hc
    simp [gT, hO, h1]
  · intro i hi
    obtain ⟨h1, h2⟩ := gAcc_eq ⟨i, hi⟩
    rw [← h1, ← h2]
    have e : Nat.beq gA gF = false := by decide
    have b1 : Nat.blt (2 * i) 32 = true := by rw [Nat.blt_eq]; omega
    have b2 : Nat.blt (2 * i + 1) 32 = true := by rw [Nat.blt_eq]; omega
    constructor
    · refine h _ _ ?_
      simp [gT, hO, e, b1]
    · refine h _ _ ?_
      simp [gT, hO, e, b2]
theorem tabs_gT {W : World} (h : Lib.Utf8Tabs gF gA W) : ∀ a v, gT a = some v → W.cell? a = some v := by
  intro ⟨b, o, sp⟩ v hv
  unfold gT at hv
  cases sp with
  | some x => simp at hv
  | none =>
    cases hO : gOnT with
    | false => simp [hO] at hv
    | true =>
      simp only [hO, Option.isNone_none, Bool.and_self, cond_true] at hv
      cases h1 : (Nat.beq b gF && Nat.blt o 256) with
      | true =>
        simp only [h1, cond_true, Option.some.injEq] at hv
        simp only [Bool.and_eq_true, Nat.blt_eq] at h1
        obtain ⟨hb, h1⟩ := h1
        obtain rfl := Nat.eq_of_beq_eq_true hb
        rw [h.1 o h1, ← hv, gFirst_eq ⟨o, h1⟩]
      | false =>
        simp only [h1, cond_false] at hv
        cases h2 : (Nat.beq b gA && Nat.blt o 32) with
        | false => simp [h2] at hv
        | true =>
          simp only [h2, cond_true, Option.some.injEq] at hv
          simp only [Bool.and_eq_true, Nat.blt_eq] at h2
          obtain ⟨hb, h2⟩ := h2
          obtain rfl := Nat.eq_of_beq_eq_true hb
          obtain ⟨e1, e2⟩ := gAcc_eq ⟨o / 2, by omega⟩
          obtain ⟨t1, t2⟩ := h.2 (o / 2) (by omega)
          simp only at e1 e2
          rw [← hv]
          rcases Nat.mod_two_eq_zero_or_one o with ho | ho
          · rw [show 2 * (o / 2) = o by omega] at e1 t1
            rw [t1, e1]
          · rw [show 2 * (o / 2) + 1 = o by omega] at e2 t2
            rw [t2, e2]
theorem cell_lt {w : World} {a : Addr} {v : Value} (h : w.cell? a = some v) : a.block < w.heap.size := by
  apply Classical.byContradiction
  intro hn
  have : w.heap[a.block]? = none := by simp; omega
  simp [World.cell?, this] at h
/-- a call that leaves what is there as it is -/
theorem below_post {S : Seal} {i : Emb} {w w' : World} {r : AV} {v : Value} (hv : V S i r v) (hh : HeapRel S i [] w) (b : Below w.heap.size w w') : Post S i [] w r [] v w' := by
  refine ⟨S, i, hv, ?_, fun _ _ hb => hb, ?_, fun l b hb => .inl hb⟩
  · refine ⟨fun a v h => ?_, fun k n h => ?_, fun l o h => (List.not_mem_nil h).elim, fun l o l' o' b h => (List.not_mem_nil h).elim, fun l k h => Nat.lt_of_lt_of_le (hh.dom l k h) b.size, hh.gr⟩
    · have hc := hh.cell a v h
      rw [b.cell (cell_lt hc)]
      exact hc
    · obtain ⟨c, e, f, hc, hs⟩ := hh.size k n h
      refine ⟨c, e, f, ?_, hs⟩
      rw [b.block k (by
        apply Classical.byContradiction
        intro hn
        have : w.heap[k]? = none := by simp; omega
        rw [this] at hc
        cases hc)]
      exact hc
  · exact ⟨.refl S, b.size, fun k hk _ => b.block k hk, fun _ _ h => .inl h, fun _ _ h => .inl h, fun k h => by obtain ⟨l, o, h, _⟩ := h; exact (List.not_mem_nil h).elim, b.os, b.output, b.tape⟩
def u8I (l : List UInt8) : Int × Int := (((Lib.decodeGo ⟨l.toArray⟩).1 : Int), ((Lib.decodeGo ⟨l.toArray⟩).2 : Int))
def DecB (P : Program) (f : FuncId) : Prop :=
  gOnT = true ∧ (∃ fn, P.funcs[f]? = some fn ∧ (fn.name == "runtime.NumGoroutine") = false ∧ fn.body.isSome = true) ∧
  ∀ (s : ByteArray) (w : World), Lib.Utf8Tabs gF gA w → Calls P f #[.string s] w fun e w' => e = .returned (.tuple #[.int .i32 (Lib.decodeGo s).1, .int .i64 (Lib.decodeGo s).2]) ∧ Below w.heap.size w w'
theorem decB_calls {P : Program} {f : FuncId} (h : DecB P f) (s : List UInt8) :
    ACalls P f [.d (.str s)] [] (.tup [.d (.int .i32 (u8I s).1), .d (.int .i64 (u8I s).2)]) [] := by
  refine ⟨h.2.1, fun S i w vs hl hv hh _ => ?_⟩
  match vs, hl, hv with
  | [v0], _, hv =>
    have h0 := hv 0 (by simp) (by simp)
    simp only [List.getElem_cons_zero] at h0
    cases h0 with
    | d h0 =>
      cases h0
      refine (h.2.2 _ w (gT_tabs h.1 fun a v ha => hh.cell a v (hh.gr a v ha))).mono fun e w' hh' => ?_
      obtain ⟨he, b⟩ := hh'
      refine ⟨_, he, below_post ?_ hh b⟩
      refine .tup (vs := [_, _]) rfl fun j h1 h2 => ?_
      match j with
      | 0 => exact .d .int
      | 1 => exact .d .int
def ValB (P : Program) (f : FuncId) : Prop :=
  gOnT = true ∧ (∃ fn, P.funcs[f]? = some fn ∧ (fn.name == "runtime.NumGoroutine") = false ∧ fn.body.isSome = true) ∧
  ∀ (s : ByteArray) (w : World), s.size ≤ 9223372036854775807 → Lib.Utf8Tabs gF gA w → Calls P f #[.string s] w fun e w' => e = .returned (.bool (Lib.validD s.data.toList)) ∧ Below w.heap.size w w'
theorem valB_calls {P : Program} {f : FuncId} (h : ValB P f) (s : List UInt8) (hs : s.length ≤ 9223372036854775807) :
    ACalls P f [.d (.str s)] [] (.d (.bool (Lib.validD s))) [] := by
  refine ⟨h.2.1, fun S i w vs hl hv hh _ => ?_⟩
  match vs, hl, hv with
  | [v0], _, hv =>
    have h0 := hv 0 (by simp) (by simp)
    simp only [List.getElem_cons_zero] at h0
    cases h0 with
    | d h0 =>
      cases h0
      refine (h.2.2 _ w (by simpa [ByteArray.size] using hs) (gT_tabs h.1 fun a v ha => hh.cell a v (hh.gr a v ha))).mono fun e w' hh' => ?_
      obtain ⟨he, b⟩ := hh'
      exact ⟨_, he, below_post (.d .bool) hh b⟩
end Go.Proofs.Abs
end
section
/- Reading data of a recursive type: by the fuel that the reading takes. -/
namespace Go.Proofs.Abs
open Go
set_option linter.unusedVariables false
structure RdU (P : Program) (t : TypeId) {α : Type} (e : α → D) (wf : α → Prop) (sz : α → Nat) (N : Nat) : Prop where
  read : ∀ {H : Type} {enc : TypeId × Value → H} {W : World} {fuel : Nat} {cs : List Value} {x : DataW H × List MemPlace}, fuel < N → DataW.trod enc P W 0 (fun _ => true) true fuel t cs = some x →
    ∃ a : α, wf a ∧ sz a ≤ bulk x.1 ∧ (e a).cells.length = cs.length ∧ ∀ j (h1 : j < (e a).cells.length) (h2 : j < cs.length), DV (sealOf W) (e a).cells[j] cs[j]
section
variable {P : Program} {t : TypeId}
theorem Rd.up {α : Type} {e : α → D} {wf : α → Prop} {sz : α → Nat} (r : Rd P t e wf sz) (N : Nat) : RdU P t e wf sz N := ⟨fun _ h => r.read h⟩
theorem rdU_rec {α : Type} {e : α → D} {wf : α → Prop} {sz : α → Nat} (h : ∀ N, RdU P t e wf sz N → RdU P t e wf sz (N + 1)) : Rd P t e wf sz := by
  have all : ∀ N, RdU P t e wf sz N := fun N => by
    induction N with
    | zero => exact ⟨fun hf _ => absurd hf (Nat.not_lt_zero _)⟩
    | succ N ih => exact h N ih
  exact ⟨fun {_ _ _ fuel _ _} hx => (all (fuel + 1)).read (Nat.lt_succ_self _) hx⟩
theorem RdU.lower {α : Type} {e : α → D} {wf : α → Prop} {sz : α → Nat} {N M : Nat} (r : RdU P t e wf sz N) (h : M ≤ N) : RdU P t e wf sz M := ⟨fun hf hx => r.read (by omega) hx⟩
theorem rdU_slice {el : TypeId} {α : Type} {e : α → D} {wf : α → Prop} {sz : α → Nat} {z : Nat} {g : Bool} (hu : P.underlying t = some (.slice el)) (he : EncOK e z g) (hz : 0 < z) (hc : P.cellsOf el = z) (N : Nat) (r : RdU P el e wf sz N) :
    RdU P t (slE e) (fun xs => ∀ a ∈ xs, wf a) (fun xs => (xs.map sz).sum + 1) (N + 1) := ⟨by
  intro H enc W fuel cs x hfu h
  rcases DataW.trod_slice hu h with ⟨rfl, rfl⟩ | ⟨a, len, cap, elems, rest, n, hfn, rfl, rfl, hb, hl, hm, hlen, hel, hsp, _⟩
  · obtain ⟨h1, h2⟩ := rd_one (e := slE e) (a := []) (S := sealOf W) (v := .slice none 0 0) rfl .nilsl
    exact ⟨[], by simp, by simp [bulk], h1, h2⟩
  rw [hc] at hel hsp
  have each : ∀ i : Fin len, ∃ a0 : α, wf a0 ∧ (∃ hi : i.1 < elems.length, sz a0 ≤ bulk elems[i.1].1) ∧ ∀ m (hm : m < (e a0).cells.length), ∃ v, W.cell? (a.add (i.1 * z + m)) = some v ∧ DV (sealOf W) (e a0).cells[m] v := by
    intro i
    have hi : i.1 < elems.length := by rw [hlen]; exact i.2
    have := hel i.1 i.2
    rw [List.getElem?_eq_getElem hi, Option.bind_eq_some_iff] at this
    obtain ⟨cs', hcs, hy⟩ := this
    obtain ⟨a0, w1, w2, w3, w4⟩ := r.read (by omega) hy
    refine ⟨a0, w1, ⟨hi, w2⟩, fun m hm => ?_⟩
    have hm' : m < cs'.length := by rw [← w3]; exact hm
    obtain ⟨_, hcl, hcell⟩ := World.cells?_some hcs
    refine ⟨cs'[m], ?_, w4 m hm hm'⟩
    have h5 := hcell m (by rw [← hcl]; exact hm')
    rw [List.getElem?_eq_getElem hm'] at h5
    rw [← h5, add_add]
  let xs : List α := List.ofFn fun i : Fin len => Classical.choose (each i)
  have hxl : xs.length = len := by simp [xs]
  have hx : ∀ i (hi : i < xs.length), wf xs[i] ∧ (∃ h : i < elems.length, sz xs[i] ≤ bulk elems[i].1) ∧ ∀ m (hm : m < (e xs[i]).cells.length), ∃ v, W.cell? (a.add (i * z + m)) = some v ∧ DV (sealOf W) (e xs[i]).cells[m] v := by
    intro i hi
    have hi' : i < len := by rw [← hxl]; exact hi
    have := Classical.choose_spec (each ⟨i, hi'⟩)
    simpa [xs, List.getElem_ofFn] using this
  have hdv : DV (sealOf W) (.sl (xs.map e)) (.slice (some a) len cap) := by
    by_cases hcap : cap = 0
    · have h0 : len = 0 := by omega
      have : xs = [] := List.eq_nil_of_length_eq_zero (by rw [hxl, h0])
      rw [this, h0, hcap]
      exact .emp
    · have hspot : a.spot = none := by
        have h0 : ∃ y cs', W.cells? 0 (a.add (0 * z)) z = some cs' ∧ DataW.trod enc P W 0 (fun _ => true) true n el cs' = some y := by
          by_cases hl0 : len = 0
          · obtain ⟨hr1, hr2⟩ := hsp rfl
            have h1 : 0 < rest.length := by omega
            have := hr2 0 (by omega)
            rw [List.getElem?_eq_getElem h1, Option.bind_eq_some_iff] at this
            obtain ⟨cs', hcs, hy⟩ := this
            rw [hl0] at hcs
            exact ⟨_, cs', hcs, hy⟩
          · have h1 : 0 < elems.length := by omega
            have := hel 0 (by omega)
            rw [List.getElem?_eq_getElem h1, Option.bind_eq_some_iff] at this
            obtain ⟨cs', hcs, hy⟩ := this
            exact ⟨_, cs', hcs, hy⟩
        obtain ⟨y, cs', hcs, _⟩ := h0
        obtain ⟨_, hcl, hcell⟩ := World.cells?_some hcs
        have h5 := hcell 0 hz
        have h6 : 0 < cs'.length := by rw [hcl]; exact hz
        rw [List.getElem?_eq_getElem h6] at h5
        unfold World.cell? at h5
        split at h5
        · split at h5
          · cases h5
          · rename_i hs
            cases hsx : a.spot with
            | none => rfl
            | some s => simp [Addr.add, hsx] at hs
        · cases h5
      obtain ⟨b, o, sp⟩ := a
      simp only at hspot
      subst hspot
      have hll : (xs.map e).length = len := by simp [hxl]
      have hzz : ∀ d ∈ xs.map e, d.cells.length = z := fun d hd => by obtain ⟨y, _, rfl⟩ := List.mem_map.1 hd; exact he.len y
      have key : ∀ m (hm : m < (flat (xs.map e)).length), ∃ v, W.cell? ⟨b, o + m, none⟩ = some v ∧ DV (sealOf W) (flat (xs.map e))[m] v := by
        intro m hm
        have hfl := flat_len hzz
        have h1 : m / z < xs.length := by
          rw [Nat.div_lt_iff_lt_mul hz]; rw [hfl] at hm; simpa using hm
        have h2 : m % z < z := Nat.mod_lt _ hz
        obtain ⟨q1, q2, q3⟩ := flat_at hzz (n := m / z) (m := m % z) (by simpa using h1) h2
        obtain ⟨_, _, w3⟩ := hx (m / z) h1
        obtain ⟨v, v1, v2⟩ := w3 (m % z) (by rw [he.len]; exact h2)
        have hmm : m / z * z + m % z = m := by rw [Nat.mul_comm]; exact Nat.div_add_mod m z
        refine ⟨v, ?_, ?_⟩
        · rw [← v1, addr_add]; congr 2; omega
        · have e1 : (flat (xs.map e))[m] = (flat (xs.map e))[m / z * z + m % z] := by simp only [hmm]
          rw [e1, q3]
          simpa using v2
      have := DV.sl (S := sealOf W) (z := z) (l := xs.map e) (b := b) (o := o) (cap := cap) (fun m => (W.cell? ⟨b, o + m, none⟩).getD undef) hzz (cellsD_sc he xs) (by rw [hll]; exact hl) (fun m hm => by
        obtain ⟨v, v1, _⟩ := key m hm
        show W.cell? _ = _
        rw [v1]; rfl) (fun m hm => by
        obtain ⟨v, v1, v2⟩ := key m hm
        rw [v1]; exact v2)
      rwa [hll] at this
  obtain ⟨h1, h2⟩ := rd_one (e := slE e) (a := xs) rfl hdv
  refine ⟨xs, fun y hy => ?_, ?_, h1, h2⟩
  · obtain ⟨i, hi, rfl⟩ := List.getElem_of_mem hy
    exact (hx i hi).1
  · have := sum_le (sz := sz) (xs := xs) (ys := elems.map (·.1)) (by rw [hxl, List.length_map, hlen]) (fun i k1 k2 => by
      obtain ⟨_, ⟨k3, k4⟩, _⟩ := hx i k1
      simpa using k4)
    simp only [bulk]
    omega⟩

structure RdFU (P : Program) (fs : List Field) (off : Nat) {β : Type} (ec : β → List D) (wf : β → Prop) (sz : β → Nat) (N : Nat) : Prop where
  read : ∀ {H : Type} {enc : TypeId × Value → H} {W : World} {n : Nat} {cs : List Value} {xs : List (DataW H × List MemPlace)}, n < N → xs.length = fs.length →
    (∀ (i : Nat) (f : Field), fs[i]? = some f → DataW.trod enc P W 0 (fun _ => true) true n f.type ((cs.drop f.offset).take (P.cellsOf f.type)) = xs[i]?) →
    ∃ b : β, wf b ∧ sz b ≤ bulkAll (xs.map (·.1)) ∧ ∀ j (h1 : j < (ec b).length), ∃ v, cs[off + j]? = some v ∧ DV (sealOf W) (ec b)[j] v
theorem rdfU_nil {off N : Nat} : RdFU P [] off (fun _ : Unit => []) (fun _ => True) (fun _ => 0) N := ⟨by
  intro H enc W n cs xs _ hl _
  exact ⟨(), trivial, Nat.zero_le _, fun j h1 => by simp at h1⟩⟩
theorem rdfU_cons {f : Field} {fs : List Field} {off z : Nat} {α β : Type} {e : α → D} {ec : β → List D} {wf : α → Prop} {wf' : β → Prop} {sz : α → Nat} {sz' : β → Nat} {g : Bool} {N : Nat} (hoff : f.offset = off) (he : EncOK e z g) (r : RdU P f.type e wf sz N)
    (rs : RdFU P fs (off + z) ec wf' sz' N) : RdFU P (f :: fs) off (fun p : α × β => (e p.1).cells ++ ec p.2) (fun p => wf p.1 ∧ wf' p.2) (fun p => sz p.1 + sz' p.2) N := ⟨by
  intro H enc W n cs xs hn hl h
  cases xs with
  | nil => simp at hl
  | cons x xs =>
    have h0 := h 0 f rfl
    simp only [List.getElem?_cons_zero] at h0
    obtain ⟨a, w1, w2, w3, w4⟩ := r.read hn h0
    obtain ⟨b, u1, u2, u3⟩ := rs.read (xs := xs) hn (by simpa using hl) (fun i f' hf => by simpa using h (i + 1) f' (by simpa using hf))
    refine ⟨(a, b), ⟨w1, u1⟩, by simp only [List.map_cons, bulkAll]; omega, fun j h1 => ?_⟩
    have hz := he.len a
    by_cases hj : j < z
    · have h2 : j < ((cs.drop f.offset).take (P.cellsOf f.type)).length := by omega
      refine ⟨((cs.drop f.offset).take (P.cellsOf f.type))[j], ?_, ?_⟩
      · have := List.getElem?_eq_getElem h2
        rw [← this, List.getElem?_take, List.getElem?_drop, hoff, if_pos]
        rw [List.length_take] at h2; omega
      · rw [List.getElem_append_left (show j < (e a).cells.length by omega)]
        exact w4 j (by omega) h2
    · have h2 : j - z < (ec b).length := by
        simp only [List.length_append, hz] at h1; omega
      obtain ⟨v, v1, v2⟩ := u3 (j - z) h2
      refine ⟨v, ?_, ?_⟩
      · rw [← v1]; congr 1; omega
      · rw [List.getElem_append_right (show (e a).cells.length ≤ j by omega)]
        simp only [hz]
        exact v2⟩
theorem rdU_struct {fs : Array Field} {T β : Type} {e : T → D} {ec : β → List D} {wf : T → Prop} {wf' : β → Prop} {sz : T → Nat} {sz' : β → Nat} (hu : P.underlying t = some (.struct fs)) (mk : β → T) (hmk : ∀ b, e (mk b) = .agg (ec b)) (hz : ∀ b, (ec b).length = P.cellsOf t)
    (hwf : ∀ b, wf' b → wf (mk b)) (hsz : ∀ b, sz (mk b) ≤ sz' b + 1) {N : Nat} (r : RdFU P fs.toList 0 ec wf' sz' N) : RdU P t e wf sz (N + 1) := ⟨by
  intro H enc W fuel cs x hfu h
  obtain ⟨xs, n, hfn, rfl, h1, h2, h3⟩ := DataW.trod_struct hu h
  obtain ⟨b, u1, u2, u3⟩ := r.read (cs := cs) (xs := xs) (n := n) (by omega) (by simpa using h2) (fun i f hf => h3 i f (by simpa using hf))
  have hs := hsz b
  refine ⟨mk b, hwf b u1, by simp only [bulk]; omega, by rw [hmk]; show (ec b).length = _; rw [hz, h1], fun j k1 k2 => ?_⟩
  have k3 : j < (ec b).length := by rw [hmk] at k1; exact k1
  obtain ⟨v, v1, v2⟩ := u3 j k3
  rw [Nat.zero_add, List.getElem?_eq_getElem k2] at v1
  cases v1
  have e1 : (e (mk b)).cells[j] = (ec b)[j] := by simp only [hmk, D.cells]
  rw [e1]; exact v2⟩

end
/-- how much there is of it -/
def D.bk : D → Nat
  | .str s => s.length + 1
  | .sl l => bkL l + 1
  | .agg l => bkL l + 1
  | _ => 1
where bkL : List D → Nat
  | [] => 0
  | d :: r => D.bk d + bkL r
theorem bkL_sum : ∀ l : List D, D.bk.bkL l = (l.map D.bk).sum
  | [] => rfl
  | d :: r => by
    rw [D.bk.bkL, bkL_sum r]
    rfl
/-- elements of a recursive type -/
theorem RdU.rt {P : Program} {t : TypeId} {α : Type} {e : α → D} {wf : α → Prop} {z N : Nat} (ok : EncOK e z true) (r : RdU P t e wf (fun a => D.bk (e a)) N) : RdU P t (rtE (z := z)) (fun x => ∃ u, x = RT.of ok u ∧ wf u) (fun x => D.bk (rtE x)) N := ⟨by
  intro H enc W fuel cs x hf h
  obtain ⟨a, w1, w2, w3, w4⟩ := r.read hf h
  exact ⟨RT.of ok a, ⟨a, rfl, w1⟩, w2, w3, w4⟩⟩
end Go.Proofs.Abs
end
section
/- Maps of one's own: texts as keys, numbers as values. -/
namespace Go.Proofs.Abs
open Go
set_option linter.unusedVariables false
abbrev MM := List (List UInt8 × Int)
def mpL (m : MM) : List (D × D) := m.map fun e => (.str e.1, .int .i64 e.2)
/-- where a key stands, and its value -/
def midx : MM → List UInt8 → Option (Nat × Int)
  | [], _ => none
  | (a, n) :: r, k => if k = a then some (0, n) else (midx r k).map fun x => (x.1 + 1, x.2)
def mfind (m : MM) (k : List UInt8) : Option Int := (midx m k).map (·.2)
def mput (m : MM) (k : List UInt8) (n : Int) : MM := match midx m k with
  | some (j, _) => m.set j (k, n)
  | none => m ++ [(k, n)]
abbrev mdef (m : MM) (k : List UInt8) : Int := (mfind m k).getD 0
abbrev mhas (m : MM) (k : List UInt8) : Bool := (mfind m k).isSome
def isMapO : AOp → Bool
  | .mkmap => true
  | .mget .. => true
  | .mset .. => true
  | _ => false
section
variable {P : Program}
theorem map_inv {op : Op} (h : isMapO (compOp P op) = true) : (∃ t, op = .makeMap t none) ∨ (∃ t x i, op = .lookup t x i true) ∨ ∃ t x k v, op = .mapUpdate t x k v := by
  cases op with
  | makeMap t r => cases r with
    | none => exact .inl ⟨t, rfl⟩
    | some r => simp [compOp, isMapO] at h
  | lookup t x i ok => cases ok with
    | true => exact .inr (.inl ⟨t, x, i, rfl⟩)
    | false => simp [compOp, isMapO] at h
  | mapUpdate t x k v => exact .inr (.inr ⟨t, x, k, v, rfl⟩)
  | call c =>
    exfalso
    rcases compCall_inv (P := P) (c := c) with hb | hk
    · simp only [compOp] at h
      rw [hb] at h
      cases h
    · simp only [compOp] at h
      generalize compCall P c = z at h hk
      cases z <;> first | (simp [isMapO] at h; done) | (simp at hk; done) | (cases hk)
  | makeFunc fn first caps =>
    exfalso
    cases fn with
    | func f =>
      simp only [compOp] at h
      repeat' split at h
      all_goals simp [isMapO] at h
    | _ => simp [compOp, isMapO] at h
  | _ =>
    exfalso
    unfold compOp at h
    simp only [compBin, compConv, szK, sbK, aggK] at h
    repeat' split at h
    all_goals first | (simp [isMapO] at h; done) | skip
/-! ### a map of one's own, in the heap -/
theorem dStrV {S : Seal} {k : List UInt8} {v : Value} (h : DV S (.str k) v) : v = .string ⟨k.toArray⟩ := by cases h; rfl
theorem ba_eq (a b : List UInt8) : ((⟨a.toArray⟩ : ByteArray) == ⟨b.toArray⟩) = decide (a = b) := by
  by_cases h : a = b
  · subst h
    rw [decide_eq_true rfl]
    exact (MapKept.bytes_beq _ _).2 rfl
  · rw [decide_eq_false h]
    cases hb : ((⟨a.toArray⟩ : ByteArray) == ⟨b.toArray⟩) with
    | false => rfl
    | true =>
      have := (MapKept.bytes_beq _ _).1 hb
      exact absurd (by injection this with h; exact congrArg Array.toList h) h
/-- what lies in a map -/
def EsOf (m : MM) (l : List MapEntry) : Prop := l.map (fun e => (e.key, e.val)) = m.map fun e => (Value.string ⟨e.1.toArray⟩, Value.int .i64 e.2)
theorem find_at (k : List UInt8) : ∀ (m : MM) (l : List MapEntry) (i : Nat), EsOf m l → Instr.findNow .string (.string ⟨k.toArray⟩) l i = some ((midx m k).map fun x => (i + x.1, Value.int .i64 x.2))
  | [], [], i, h => rfl
  | [], _ :: _, i, h => by cases h
  | _ :: _, [], i, h => by cases h
  | (a, n) :: m, e :: l, i, h => by
    simp only [EsOf, List.map_cons, List.cons.injEq, Prod.mk.injEq] at h
    obtain ⟨⟨h1, h2⟩, h3⟩ := h
    unfold Instr.findNow
    rw [h1]
    simp only [Instr.sameNow, ba_eq, midx]
    by_cases hk : k = a
    · rw [decide_eq_true hk, if_pos hk, h2]
      rfl
    · rw [decide_eq_false hk, if_neg hk]
      simp only
      rw [find_at k m l (i + 1) h3]
      cases midx m k with
      | none => rfl
      | some x => simp only [Option.map_some]; congr 3; omega
theorem midx_lt (k : List UInt8) : ∀ (m : MM) (x : Nat × Int), midx m k = some x → x.1 < m.length ∧ ∀ e, m[x.1]? = some e → e.1 = k
  | [], x, h => by cases h
  | (a, n) :: m, x, h => by
    unfold midx at h
    by_cases hk : k = a
    · rw [if_pos hk] at h
      cases h
      exact ⟨by simp, fun e he => by simp at he; rw [← he]; exact hk.symm⟩
    · rw [if_neg hk] at h
      obtain ⟨y, hy, rfl⟩ := Option.map_eq_some_iff.1 h
      obtain ⟨h1, h2⟩ := midx_lt k m y hy
      exact ⟨by simp; exact h1, fun e he => h2 e (by simpa using he)⟩
theorem obj_es {S : Seal} {i : Emb} {w : World} {b : Nat} {m : MM} (h : ObjRel S i w b (.mp (mpL m))) : ∃ c k, w.heap[b]? = some (.map c k) ∧ EsOf m c.toList ∧ ∀ a : Addr, a.block = b → S.cell a = none := by
  obtain ⟨c, k, hc, hs, hv, hf⟩ := h
  refine ⟨c, k, hc, ?_, hf⟩
  apply List.ext_getElem
  · simp [hs, mpL]
  · intro j h1 h2
    simp only [List.getElem_map]
    have hj : j < m.length := by simpa using h2
    have hj' : j < c.size := by simpa using h1
    obtain ⟨a1, a2⟩ := hv j (by simpa [mpL] using hj) hj'
    simp only [mpL, List.getElem_map] at a1 a2
    rw [Array.getElem_toList, dStrV a1, dInt a2]
theorem es_obj {S : Seal} {i : Emb} {w : World} {b k : Nat} {c : Array MapEntry} {m : MM} (hc : w.heap[b]? = some (.map c k)) (he : EsOf m c.toList) (hf : ∀ a : Addr, a.block = b → S.cell a = none) : ObjRel S i w b (.mp (mpL m)) := by
  have hl : c.size = m.length := by
    have := congrArg List.length he
    simpa using this
  refine ⟨c, k, hc, by simp [mpL, hl], fun j h1 h2 => ?_, hf⟩
  have hj : j < m.length := by omega
  have := List.getElem_of_eq he (i := j) (by simpa using h2)
  simp only [List.getElem_map, Prod.mk.injEq, Array.getElem_toList] at this
  simp only [mpL, List.getElem_map]
  rw [this.1, this.2]
  exact ⟨.str, .int⟩
theorem es_put {m : MM} {l : List MapEntry} (h : EsOf m l) (k : List UInt8) (n : Int) : (∀ b, midx m k = none → EsOf (mput m k n) (l ++ [{ key := .string ⟨k.toArray⟩, val := .int .i64 n, born := b }])) ∧
    ∀ x, midx m k = some x → ∀ l', l'.map (fun e : MapEntry => (e.key, e.val)) = (l.map fun e => (e.key, e.val)).set x.1 (.string ⟨k.toArray⟩, .int .i64 n) → EsOf (mput m k n) l' := by
  unfold EsOf at *
  refine ⟨fun b hb => ?_, fun x hx l' hl => ?_⟩
  · unfold mput
    rw [hb]
    simp [h]
  · unfold mput
    rw [hx, hl, h]
    simp [List.map_set]
theorem post_newmap {S : Seal} {i : Emb} {w : World} {nl : Nat} (hh : HeapRel S i [] w) (hf : i nl = none) :
    Post S i [] w (.mp nl) [(nl, .mp (mpL []))] (.map (some w.heap.size)) (w.alloc (.map #[] 0)) := by
  have hold : ∀ b, b < w.heap.size → (w.alloc (.map #[] 0)).heap[b]? = w.heap[b]? := fun b hb => by
    show (w.heap.push _)[b]? = _
    rw [Array.getElem?_push, if_neg (by omega)]
  have hnew : (w.alloc (.map #[] 0)).heap[w.heap.size]? = some (.map #[] 0) := by
    show (w.heap.push _)[w.heap.size]? = _
    simp
  have hsize : (w.alloc (.map #[] 0)).heap.size = w.heap.size + 1 := by simp
  have hcell : ∀ a v, w.cell? a = some v → (w.alloc (.map #[] 0)).cell? a = some v := fun a v ha => by
    have hlt := World.block_lt_of_cell? _ _ ha
    unfold World.cell? at *
    rw [hold _ hlt]
    exact ha
  have hle : i.le (i.set nl w.heap.size) := Emb.set_le hf
  have hset : ∀ l b, i.set nl w.heap.size l = some b → (i l = some b ∨ (l = nl ∧ b = w.heap.size)) := by
    intro l b hb
    unfold Emb.set at hb
    split at hb
    · rename_i hk; cases hb; exact .inr ⟨hk, rfl⟩
    · exact .inl hb
  refine ⟨S, i.set nl w.heap.size, .mp (by simp [Emb.set]), ⟨fun a v ha => hcell a v (hh.cell a v ha), ?_, ?_, ?_, ?_, hh.gr⟩, hle, ⟨.refl S, by omega, fun b hb _ => hold b hb, fun a v h => .inl h, ?_, ?_, rfl, rfl, rfl⟩, ?_⟩
  · intro b n hb
    obtain ⟨c', e', f, hc, hs⟩ := hh.size b n hb
    have hlt := (Array.getElem?_eq_some_iff.1 hc).1
    exact ⟨c', e', f, by rw [hold b hlt]; exact hc, hs⟩
  · intro l o hm
    simp only [List.mem_singleton, Prod.mk.injEq] at hm
    obtain ⟨rfl, rfl⟩ := hm
    exact .inl ⟨w.heap.size, by simp [Emb.set], es_obj hnew rfl fun a ha => hh.noSeal (by omega)⟩
  · intro l o l' o' b hm hm' _ _
    simp only [List.mem_singleton, Prod.mk.injEq] at hm hm'
    rw [hm.1, hm'.1]
  · intro l b hb
    rcases hset l b hb with hb | ⟨_, hb⟩
    · have := hh.dom l b hb; omega
    · omega
  · intro l b hb
    rcases hset l b hb with hb | ⟨_, hb⟩
    · exact .inl hb
    · exact .inr (.inr (by omega))
  · rintro b ⟨l, o, hm, hb⟩
    simp only [List.mem_singleton, Prod.mk.injEq] at hm
    rcases hset l b hb with hb | ⟨_, hb⟩
    · rw [hm.1, hf] at hb; cases hb
    · exact .inr (by omega)
  · intro l b hb
    rcases hset l b hb with hb | ⟨h1, _⟩
    · exact .inl hb
    · exact .inr ⟨by simp [AHeap.keys, h1], by simp [AHeap.keys]⟩
theorem post_setmap {S : Seal} {i : Emb} {w : World} {l b k k' : Nat} {m m' : MM} {c c' : Array MapEntry} {r : AV} {v : Value} (hh : HeapRel S i [(l, .mp (mpL m))] w) (hi : i l = some b)
    (hc : w.heap[b]? = some (.map c k)) (hns : ∀ a : Addr, a.block = b → S.cell a = none) (he : EsOf m' c'.toList) (hr : V S i r v) :
    Post S i [(l, .mp (mpL m))] w r [(l, .mp (mpL m'))] v { w with heap := w.heap.setIfInBounds b (.map c' k') } := by
  obtain ⟨hnew, hold⟩ := MapKept.heap_set (o' := .map c' k') hc
  have hblk : blk i [(l, .mp (mpL m))] b := ⟨l, _, List.mem_cons_self, hi⟩
  have hcell : ∀ a v, a.block ≠ b → w.cell? a = some v → World.cell? { w with heap := w.heap.setIfInBounds b (.map c' k') } a = some v := fun a v hb ha => by
    unfold World.cell? at *
    show (match (w.heap.setIfInBounds b (.map c' k'))[a.block]? with | _ => _) = _
    rw [hold _ hb]
    exact ha
  refine ⟨S, i, hr, ⟨fun a v ha => ?_, fun k n hk => ?_, ?_, ?_, fun l b hb => (by show b < (w.heap.setIfInBounds _ _).size; rw [Array.size_setIfInBounds]; exact hh.dom l b hb), hh.gr⟩, fun _ _ h => h,
    ⟨.refl S, by show w.heap.size ≤ (w.heap.setIfInBounds _ _).size; rw [Array.size_setIfInBounds]; exact Nat.le_refl _, fun k _ hk => hold k fun hkb => hk (hkb ▸ hblk), fun a v h => .inl h, fun l b h => .inl h, ?_, rfl, rfl, rfl⟩, fun l b h => .inl h⟩
  · by_cases hb : a.block = b
    · rw [hns a hb] at ha; cases ha
    · exact hcell a v hb (hh.cell a v ha)
  · by_cases hb : k = b
    · subst hb
      obtain ⟨c0, e0, f0, h0, hs0⟩ := hh.size k n hk
      rw [hc] at h0
      cases h0
    · show ∃ c e f, (w.heap.setIfInBounds b (.map c' k'))[k]? = _ ∧ _
      rw [hold k hb]; exact hh.size k n hk
  · intro l' o' hm
    simp only [List.mem_singleton, Prod.mk.injEq] at hm
    obtain ⟨rfl, rfl⟩ := hm
    exact .inl ⟨b, hi, es_obj hnew he hns⟩
  · intro l1 o1 l2 o2 b' hm hm' _ _
    simp only [List.mem_singleton, Prod.mk.injEq] at hm hm'
    rw [hm.1, hm'.1]
  · rintro b' ⟨l', o', hm, hb⟩
    simp only [List.mem_singleton, Prod.mk.injEq] at hm
    refine .inl ⟨l, _, List.mem_cons_self, ?_⟩
    rw [← hm.1]; exact hb
/-! ### the operations -/
theorem AOpT.mkmap {u : List (Nat × AV)} {l : Nat} : AOpT P .mkmap u [] (.mp l) [(l, .mp (mpL []))] := by
  refine ⟨fun y hy h => by rw [hy] at h; exact absurd h (by simp), fun o ho => ?_⟩
  rcases map_inv (by rw [ho]; rfl) with ⟨t, hop⟩ | ⟨t, x, i, hop⟩ | ⟨t, x, k, v, hop⟩
  · refine ⟨by simp [hop], fun S i w ρ hev hh hf => ?_⟩
    have hrun : (execOp ρ o).run P w = .ok (.value (.map (some w.heap.size))) (w.alloc (.map #[] 0)) := by
      simp only [execOp, hop, Instr.makeMap, Option.map_none, Sem.run_bind, Result.andThen_ok, run_newObj, Sem.run_pure]
      rfl
    rw [hrun]
    exact post_newmap hh (hf l (by simp [AHeap.keys]) (by simp [AHeap.keys]))
  · rw [hop] at ho
    simp only [compOp] at ho
    repeat' (first | cases ho | split at ho)
  · rw [hop] at ho
    simp only [compOp] at ho
    repeat' (first | cases ho | split at ho)
theorem mget_inv {op : Op} {x k : Arg} {z : D} (h : compOp P op = .mget x k z) : ∃ t x' k' kt et j v, op = .lookup t x' k' true ∧ argA x' = some x ∧ argA k' = some k ∧ und P t = .map kt et ∧ und P kt = .string ∧ P.info? et = some j ∧ j.zero = some v ∧ constD v = some z := by
  rcases map_inv (by rw [h]; rfl) with ⟨t, hop⟩ | ⟨t, x', i, hop⟩ | ⟨t, x', k', v, hop⟩
  · rw [hop] at h; simp [compOp] at h
  · rw [hop] at h
    simp only [compOp] at h
    split at h
    · rename_i a b kt et h1 h2 h3
      split at h
      · rename_i zz h4 h5
        cases h
        simp only [Option.bind_eq_some_iff] at h5
        obtain ⟨v, ⟨j, hj, hv⟩, hz⟩ := h5
        exact ⟨t, x', i, kt, et, j, v, hop, h1, h2, h3, h4, hj, hv, hz⟩
      · cases h
    · cases h
  · rw [hop] at h
    simp only [compOp] at h
    repeat' (first | cases h | split at h)
theorem constD_i64 {v : Value} (h : constD v = some (.int .i64 0)) : v = .int .i64 0 := by
  unfold constD at h
  split at h <;> cases h
  rfl
theorem AOpT.mget {u : List (Nat × AV)} {x k : Arg} {l : Nat} {m : MM} {s : List UInt8} (hx : evA u x = some (.mp l)) (hk : evA u k = some (.d (.str s))) :
    AOpT P (.mget x k (.int .i64 0)) u [(l, .mp (mpL m))] (.tup [.d (.int .i64 (mdef m s)), .d (.bool (mhas m s))]) [(l, .mp (mpL m))] := by
  refine ⟨fun y hy h => by rw [hy] at h; exact absurd h (by simp), fun o ho => ?_⟩
  obtain ⟨t, x', k', kt, et, j, z, hop, hxa, hka, ht, hkt, hj, hz, hzc⟩ := mget_inv ho
  have h1 := und_some ht (by simp)
  have h2 := und_some hkt (by simp)
  have hz0 := constD_i64 hzc
  refine .pure (by simp [hop]) fun S i w ρ hev hh => ?_
  have hvx := argV hev hxa hx
  have hvk := vStr (argV hev hka hk)
  generalize hux : ρ x' = ux at hvx
  cases hvx with
  | mp hi =>
    rename_i b
    rcases hh.obj l (.mp (mpL m)) List.mem_cons_self with ⟨b', hb', ho⟩ | ⟨hn, _⟩
    case inr => rw [hi] at hn; cases hn
    rw [hi] at hb'
    cases hb'
    obtain ⟨c, kk, hc, hes, hns⟩ := obj_es ho
    have hkey : MapKept.IsKey .string (Value.string ⟨s.toArray⟩) := by trivial
    have hfind := find_at s m c.toList 0 hes
    refine ⟨.tuple #[.int .i64 (mdef m s), .bool (mhas m s)], ?_, ?_⟩
    · have hf := MapKept.run_findKey (P := P) (w := w) h2 hfind
      have hck : ∀ e, (Instr.checkKey e 10000 kt (Value.string ⟨s.toArray⟩)).run P w = .ok () w := fun e => MapKept.run_checkKey h2 hkey e 9999
      simp only [execOp, hop, hux, hvk, Instr.lookup, Sem.run_bind, run_und h1, MapKept.run_getObj_map hc, Result.andThen_ok, Sem.run_pure, hck, hf]
      unfold mdef mhas mfind
      cases hm : midx m s with
      | none => simp [run_zeroValue hj hz, hz0]
      | some q => simp
    · refine .tup rfl fun n g1 g2 => ?_
      match n, g1 with
      | 0, _ => exact .d .int
      | 1, _ => exact .d .bool
theorem mset_inv {op : Op} {x k v : Arg} (h : compOp P op = .mset x k v) : ∃ t x' k' v' kt et, op = .mapUpdate t x' k' v' ∧ argA x' = some x ∧ argA k' = some k ∧ argA v' = some v ∧ und P t = .map kt et ∧ und P kt = .string := by
  rcases map_inv (by rw [h]; rfl) with ⟨t, hop⟩ | ⟨t, x', i, hop⟩ | ⟨t, x', k', v', hop⟩
  · rw [hop] at h; simp [compOp] at h
  · rw [hop] at h
    simp only [compOp] at h
    repeat' (first | cases h | split at h)
  · rw [hop] at h
    simp only [compOp] at h
    split at h
    · rename_i a b c kt et h1 h2 h3 h4
      split at h
      · rename_i h5
        cases h
        exact ⟨t, x', k', v', kt, et, hop, h1, h2, h3, h4, h5⟩
      · cases h
    · cases h
theorem AOpT.mset {u : List (Nat × AV)} {x k v : Arg} {l : Nat} {m : MM} {s : List UInt8} {n : Int} (hx : evA u x = some (.mp l)) (hk : evA u k = some (.d (.str s))) (hv : evA u v = some (.d (.int .i64 n))) :
    AOpT P (.mset x k v) u [(l, .mp (mpL m))] .any [(l, .mp (mpL (mput m s n)))] := by
  refine ⟨fun y hy h => by rw [hy] at h; exact absurd h (by simp), fun o ho => ?_⟩
  obtain ⟨t, x', k', v', kt, et, hop, hxa, hka, hva, ht, hkt⟩ := mset_inv ho
  have h1 := und_some ht (by simp)
  have h2 := und_some hkt (by simp)
  refine ⟨by simp [hop], fun S i w ρ hev hh hf => ?_⟩
  have hvx := argV hev hxa hx
  have hvk := vStr (argV hev hka hk)
  have hvv := vInt (argV hev hva hv)
  generalize hux : ρ x' = ux at hvx
  cases hvx with
  | mp hi =>
    rename_i b
    rcases hh.obj l (.mp (mpL m)) List.mem_cons_self with ⟨b', hb', ho⟩ | ⟨hn, _⟩
    case inr => rw [hi] at hn; cases hn
    rw [hi] at hb'
    cases hb'
    obtain ⟨c, kk, hc, hes, hns⟩ := obj_es ho
    have hkey : MapKept.IsKey .string (Value.string ⟨s.toArray⟩) := by trivial
    have hfind := find_at s m c.toList 0 hes
    have hfk := MapKept.run_findKey (P := P) (w := w) h2 hfind
    have hck : ∀ e, (Instr.checkKey e 10000 kt (Value.string ⟨s.toArray⟩)).run P w = .ok () w := fun e => MapKept.run_checkKey h2 hkey e 9999
    obtain ⟨e1, e2⟩ := es_put hes s n
    cases hm : midx m s with
    | none =>
      rw [hm] at hfk
      have hrun : (execOp ρ o).run P w = .ok .skip { w with heap := w.heap.setIfInBounds b (.map (c.push { key := .string ⟨s.toArray⟩, val := .int .i64 n, born := kk }) (kk + 1)) } := by
        simp only [execOp, hop, hux, hvk, hvv, Instr.mapUpdate, Sem.run_bind, run_und h1, MapKept.run_getObj_map hc, Result.andThen_ok, Sem.run_pure, hck, hfk, Option.map_none, MapKept.run_setObj_map _ hc]
      rw [hrun]
      exact post_setmap hh hi hc hns (by rw [Array.toList_push]; exact e1 kk hm) .any
    | some q =>
      obtain ⟨j, n0⟩ := q
      rw [hm] at hfk
      obtain ⟨hj, hkj⟩ := midx_lt s m (j, n0) hm
      simp only at hj hkj
      have hjl : m[j]? = some m[j] := List.getElem?_eq_getElem hj
      have hle : c.size = m.length := by
        have := congrArg List.length hes
        simpa using this
      have hjc : j < c.size := by omega
      have hkc : c[j].key = .string ⟨s.toArray⟩ := by
        have := List.getElem_of_eq hes (i := j) (by simpa using hjc)
        simp only [List.getElem_map, Prod.mk.injEq, Array.getElem_toList] at this
        rw [this.1, hkj _ hjl]
      have hst := MapKept.run_keyThatStays (P := P) (w := w) hkey
      have hrun : (execOp ρ o).run P w = .ok .skip { w with heap := w.heap.setIfInBounds b (.map (c.modify j fun e => { e with key := .string ⟨s.toArray⟩, val := .int .i64 n }) kk) } := by
        simp only [execOp, hop, hux, hvk, hvv, Instr.mapUpdate, Sem.run_bind, run_und h1, MapKept.run_getObj_map hc, Result.andThen_ok, Sem.run_pure, hck, hfk, Option.map_some, Nat.zero_add, Array.getElem?_eq_getElem hjc, hkc, Option.getD_some, hst, MapKept.run_setObj_map _ hc]
      rw [hrun]
      refine post_setmap hh hi hc hns (e2 _ hm _ ?_) .any
      apply List.ext_getElem
      · simp
      · intro q g1 g2
        simp only [List.getElem_map, Array.getElem_toList, List.getElem_set, Array.getElem_modify]
        by_cases hq : j = q
        · rw [if_pos hq, if_pos hq]
        · rw [if_neg hq, if_neg hq]
end
section
variable {P : Program} {aops os : List AOper} {draw : Bool} {N k c : Nat} {l : List (Nat × AV)} {H H' : AHeap} {A : List Tk} {Q : AAct → AHeap → Nat → Prop} {gd : Option (Nat × Bool)} {af : List Nat} {t l0 : Nat} {x y v : Arg} {m : MM} {s : List UInt8} {n : Int}
abbrev mpO (m : MM) : AObj := .mp (mpL m)
theorem RegV.newM (hg : gOn gd (us l ⟨some t, .mkmap, gd, af⟩) = some true) (hd : Nat.blt t N = true) (hH : restK [] [(c, .tok 0)] H = H)
    (hn : RegV P aops draw N (k + 1) os (c + 1) ((t, .mp c) :: l) ((c, mpO []) :: H) (⟨[c], false⟩ :: A) Q) : RegV P aops draw N k (⟨some t, .mkmap, gd, af⟩ :: os) c l H A Q := by
  refine RegV.up (fun _ h' => RegU.op hg AOpT.mkmap hd (fun y hy => by cases hy) ?_ rfl (q := false) (fun h => by cases h) rfl ?_ ?_ h') hn
  · simp [newOK]
  · have : ∀ (H : AHeap) (a b : AObj), restK [] [(c, a)] H = restK [] [(c, b)] H := by
      intro H a b
      induction H with
      | nil => rfl
      | cons p r ih => obtain ⟨l, o⟩ := p; simp only [restK, hasK, ih]
    rw [this H _ (.tok 0), hH]; rfl
  · exact topK_one
theorem RegV.mget (hg : gOn gd (us l ⟨some t, .mget x y (.int .i64 0), gd, af⟩) = some true) (hx : evA (us l ⟨some t, .mget x y (.int .i64 0), gd, af⟩) x = some (.mp l0)) (hy : evA (us l ⟨some t, .mget x y (.int .i64 0), gd, af⟩) y = some (.d (.str s)))
    (hl : lkH H l0 = some (mpO m)) (hd : Nat.blt t N = true) (hH : appK [(l0, mpO m)] (restK [(l0, mpO m)] [(l0, mpO m)] H) = H') (hn : newOK c [(l0, mpO m)] [(l0, mpO m)] = true) (hc : topK c [(l0, mpO m)] = c)
    (hn' : RegV P aops draw N (k + 1) os c ((t, .tup [.d (.int .i64 (mdef m s)), .d (.bool (mhas m s))]) :: l) H' (⟨[l0, l0], true⟩ :: A) Q) : RegV P aops draw N k (⟨some t, .mget x y (.int .i64 0), gd, af⟩ :: os) c l H A Q :=
  RegV.up (fun _ h' => RegU.op hg (AOpT.mget hx hy) hd (fun y hy => by cases List.mem_singleton.1 hy; exact lkH_mem hl) hn rfl (fun _ => rfl) rfl hH hc h') hn'
theorem RegV.mset (hg : gOn gd (us l ⟨none, .mset x y v, gd, af⟩) = some true) (hx : evA (us l ⟨none, .mset x y v, gd, af⟩) x = some (.mp l0)) (hy : evA (us l ⟨none, .mset x y v, gd, af⟩) y = some (.d (.str s))) (hv : evA (us l ⟨none, .mset x y v, gd, af⟩) v = some (.d (.int .i64 n)))
    (hl : lkH H l0 = some (mpO m)) (hH : appK [(l0, mpO (mput m s n))] (restK [(l0, mpO m)] [(l0, mpO (mput m s n))] H) = H') (hn : newOK c [(l0, mpO m)] [(l0, mpO (mput m s n))] = true) (hc : topK c [(l0, mpO (mput m s n))] = c)
    (hn' : RegV P aops draw N (k + 1) os c l H' (⟨[l0, l0], false⟩ :: A) Q) : RegV P aops draw N k (⟨none, .mset x y v, gd, af⟩ :: os) c l H A Q :=
  RegV.up (fun _ h' => RegU.op hg (AOpT.mset hx hy hv) rfl (fun y hy => by cases List.mem_singleton.1 hy; exact lkH_mem hl) hn rfl (q := false) (fun h => by cases h) rfl hH hc h') hn'
end
end Go.Proofs.Abs
end
section
/- A slice that is written down may be grown; nothing else points to it. -/
namespace Go.Proofs.Abs
open Go
set_option linter.unusedVariables false
section
variable {P : Program} {args : List (Nat × AV)} {o : Oper}
end
section
variable {P : Program} {aops os : List AOper} {draw : Bool} {N k c : Nat} {l : List (Nat × AV)} {H : AHeap} {A : List Tk} {Q : AAct → AHeap → Nat → Prop} {gd : Option (Nat × Bool)} {af : List Nat} {t : Nat}
end
end Go.Proofs.Abs
end
