/- Several texts of one proof, one behind the other. -/
import Derived.Test.YtnhjiioiejpbgaaDoorAbsxg
import Derived.Below
import Derived.Shelf.Unicode.DecodeSlow
import Derived.Lib.ValidU
set_option linter.unusedSimpArgs false
section
/- Functions of unicode/utf8 that read its two tables: what they tell. -/
namespace Go.Proofs.Abs
open Go Go.RowKit
set_option maxRecDepth 100000
set_option linter.unusedVariables false
theorem gFirst_eq : ∀ c : Fin 256, gFirst c.val = Lib.firstT c.val := by decide
theorem gAcc_eq : ∀ i : Fin 16, gAcc (2 * i.val) = Lib.accLo i.val ∧ gAcc (2 * i.val + 1) = Lib.accHi i.val := by decide
theorem gT_tabs (hO : gOnT = true) {w : World} (h : ∀ a v, gT a = some v → w.cell? a = some v) : Lib.Utf8Tabs gF gA w := by
  constructor
  · intro c hc
    rw [← gFirst_eq ⟨c, hc⟩]
    refine h _ _ ?_
    have h1 : Nat.blt c 256 = true := by rw [Nat.blt_eq]; exact hc
    simp [gT, hO, h1]
  · intro i hi
    obtain ⟨h1, h2⟩ := gAcc_eq ⟨i, hi⟩
    rw [← h1, ← h2]
    have e : Nat.beq gA gF = false := by decide
    have b1 : Nat.blt (2 * i) 32 = true := by rw [Nat.blt_eq]; omega
    have b2 : Nat.blt (2 * i + 1) 32 = true := by rw [Nat.blt_eq]; omega
    constructor
    · refine h _ _ ?_
      simp [gT, hO, e, b1]
    · refine h _ _ ?_
      simp [gT, hO, e, b2]
theorem tabs_gT {W : World} (h : Lib.Utf8Tabs gF gA W) : ∀ a v, gT a = some v → W.cell? a = some v := by
  intro ⟨b, o, sp⟩ v hv
  unfold gT at hv
  cases sp with
  | some x => simp at hv
  | none =>
    cases hO : gOnT with
    | false => simp [hO] at hv
    | true =>
      simp only [hO, Option.isNone_none, Bool.and_self, cond_true] at hv
      cases h1 : (Nat.beq b gF && Nat.blt o 256) with
      | true =>
        simp only [h1, cond_true, Option.some.injEq] at hv
        simp only [Bool.and_eq_true, Nat.blt_eq] at h1
        obtain ⟨hb, h1⟩ := h1
        obtain rfl := Nat.eq_of_beq_eq_true hb
        rw [h.1 o h1, ← hv, gFirst_eq ⟨o, h1⟩]
      | false =>
        simp only [h1, cond_false] at hv
        cases h2 : (Nat.beq b gA && Nat.blt o 32) with
        | false => simp [h2] at hv
        | true =>
          simp only [h2, cond_true, Option.some.injEq] at hv
          simp only [Bool.and_eq_true, Nat.blt_eq] at h2
          obtain ⟨hb, h2⟩ := h2
          obtain rfl := Nat.eq_of_beq_eq_true hb
          obtain ⟨e1, e2⟩ := gAcc_eq ⟨o / 2, by omega⟩
          obtain ⟨t1, t2⟩ := h.2 (o / 2) (by omega)
          simp only at e1 e2
          rw [← hv]
          rcases Nat.mod_two_eq_zero_or_one o with ho | ho
          · rw [show 2 * (o / 2) = o by omega] at e1 t1
            rw [t1, e1]
          · rw [show 2 * (o / 2) + 1 = o by omega] at e2 t2
            rw [t2, e2]
theorem cell_lt {w : World} {a : Addr} {v : Value} (h : w.cell? a = some v) : a.block < w.heap.size := by
  apply Classical.byContradiction
  intro hn
  have : w.heap[a.block]? = none := by simp; omega
  simp [World.cell?, this] at h
/-- a call that leaves what is there as it is -/
theorem below_post {S : Seal} {i : Emb} {w w' : World} {r : AV} {v : Value} (hv : V S i r v) (hh : HeapRel S i [] w) (b : Below w.heap.size w w') : Post S i [] w r [] v w' := by
  refine ⟨S, i, hv, ?_, fun _ _ hb => hb, ?_, fun l b hb => .inl hb⟩
  · refine ⟨fun a v h => ?_, fun k n h => ?_, fun l o h => (List.not_mem_nil h).elim, fun l o l' o' b h => (List.not_mem_nil h).elim, fun l k h => Nat.lt_of_lt_of_le (hh.dom l k h) b.size, hh.gr⟩
    · have hc := hh.cell a v h
      rw [b.cell (cell_lt hc)]
      exact hc
    · obtain ⟨c, e, f, hc, hs⟩ := hh.size k n h
      refine ⟨c, e, f, ?_, hs⟩
      rw [b.block k (by
        apply Classical.byContradiction
        intro hn
        have : w.heap[k]? = none := by simp; omega
        rw [this] at hc
        cases hc)]
      exact hc
  · exact ⟨.refl S, b.size, fun k hk _ => b.block k hk, fun _ _ h => .inl h, fun _ _ h => .inl h, fun k h => by obtain ⟨l, o, h, _⟩ := h; exact (List.not_mem_nil h).elim, b.os, b.output, b.tape⟩
def u8I (l : List UInt8) : Int × Int := (((Lib.decodeGo ⟨l.toArray⟩).1 : Int), ((Lib.decodeGo ⟨l.toArray⟩).2 : Int))
def DecB (P : Program) (f : FuncId) : Prop :=
  gOnT = true ∧ (∃ fn, P.funcs[f]? = some fn ∧ (fn.name == "runtime.NumGoroutine") = false ∧ fn.body.isSome = true) ∧
  ∀ (s : ByteArray) (w : World), Lib.Utf8Tabs gF gA w → Calls P f #[.string s] w fun e w' => e = .returned (.tuple #[.int .i32 (Lib.decodeGo s).1, .int .i64 (Lib.decodeGo s).2]) ∧ Below w.heap.size w w'
theorem decB_calls {P : Program} {f : FuncId} (h : DecB P f) (s : List UInt8) :
    ACalls P f [.d (.str s)] [] (.tup [.d (.int .i32 (u8I s).1), .d (.int .i64 (u8I s).2)]) [] := by
  refine ⟨h.2.1, fun S i w vs hl hv hh _ => ?_⟩
  match vs, hl, hv with
  | [v0], _, hv =>
    have h0 := hv 0 (by simp) (by simp)
    simp only [List.getElem_cons_zero] at h0
    cases h0 with
    | d h0 =>
      cases h0
      refine (h.2.2 _ w (gT_tabs h.1 fun a v ha => hh.cell a v (hh.gr a v ha))).mono fun e w' hh' => ?_
      obtain ⟨he, b⟩ := hh'
      refine ⟨_, he, below_post ?_ hh b⟩
      refine .tup (vs := [_, _]) rfl fun j h1 h2 => ?_
      match j with
      | 0 => exact .d .int
      | 1 => exact .d .int
def ValB (P : Program) (f : FuncId) : Prop :=
  gOnT = true ∧ (∃ fn, P.funcs[f]? = some fn ∧ (fn.name == "runtime.NumGoroutine") = false ∧ fn.body.isSome = true) ∧
  ∀ (s : ByteArray) (w : World), s.size ≤ 9223372036854775807 → Lib.Utf8Tabs gF gA w → Calls P f #[.string s] w fun e w' => e = .returned (.bool (Lib.validD s.data.toList)) ∧ Below w.heap.size w w'
theorem valB_calls {P : Program} {f : FuncId} (h : ValB P f) (s : List UInt8) (hs : s.length ≤ 9223372036854775807) :
    ACalls P f [.d (.str s)] [] (.d (.bool (Lib.validD s))) [] := by
  refine ⟨h.2.1, fun S i w vs hl hv hh _ => ?_⟩
  match vs, hl, hv with
  | [v0], _, hv =>
    have h0 := hv 0 (by simp) (by simp)
    simp only [List.getElem_cons_zero] at h0
    cases h0 with
    | d h0 =>
      cases h0
      refine (h.2.2 _ w (by simpa [ByteArray.size] using hs) (gT_tabs h.1 fun a v ha => hh.cell a v (hh.gr a v ha))).mono fun e w' hh' => ?_
      obtain ⟨he, b⟩ := hh'
      exact ⟨_, he, below_post (.d .bool) hh b⟩
end Go.Proofs.Abs
end
section
/- Reading data of a recursive type: by the fuel that the reading takes. -/
namespace Go.Proofs.Abs
open Go
set_option linter.unusedVariables false
structure RdU (P : Program) (t : TypeId) {α : Type} (e : α → D) (wf : α → Prop) (sz : α → Nat) (N : Nat) : Prop where
  read : ∀ {H : Type} {enc : TypeId × Value → H} {W : World} {fuel : Nat} {cs : List Value} {x : DataW H × List MemPlace}, fuel < N → DataW.trod enc P W 0 (fun _ => true) true fuel t cs = some x →
    ∃ a : α, wf a ∧ sz a ≤ bulk x.1 ∧ (e a).cells.length = cs.length ∧ ∀ j (h1 : j < (e a).cells.length) (h2 : j < cs.length), DV (sealOf W) (e a).cells[j] cs[j]
section
variable {P : Program} {t : TypeId}
theorem Rd.up {α : Type} {e : α → D} {wf : α → Prop} {sz : α → Nat} (r : Rd P t e wf sz) (N : Nat) : RdU P t e wf sz N := ⟨fun _ h => r.read h⟩
theorem rdU_rec {α : Type} {e : α → D} {wf : α → Prop} {sz : α → Nat} (h : ∀ N, RdU P t e wf sz N → RdU P t e wf sz (N + 1)) : Rd P t e wf sz := by
  have all : ∀ N, RdU P t e wf sz N := fun N => by
    induction N with
    | zero => exact ⟨fun hf _ => absurd hf (Nat.not_lt_zero _)⟩
    | succ N ih => exact h N ih
  exact ⟨fun {_ _ _ fuel _ _} hx => (all (fuel + 1)).read (Nat.lt_succ_self _) hx⟩
theorem RdU.lower {α : Type} {e : α → D} {wf : α → Prop} {sz : α → Nat} {N M : Nat} (r : RdU P t e wf sz N) (h : M ≤ N) : RdU P t e wf sz M := ⟨fun hf hx => r.read (by omega) hx⟩
theorem rdU_slice {el : TypeId} {α : Type} {e : α → D} {wf : α → Prop} {sz : α → Nat} {z : Nat} {g : Bool} (hu : P.underlying t = some (.slice el)) (he : EncOK e z g) (hz : 0 < z) (hc : P.cellsOf el = z) (N : Nat) (r : RdU P el e wf sz N) :
    RdU P t (slE e) (fun xs => ∀ a ∈ xs, wf a) (fun xs => (xs.map sz).sum + 1) (N + 1) := ⟨by
  intro H enc W fuel cs x hfu h
  rcases DataW.trod_slice hu h with ⟨rfl, rfl⟩ | ⟨a, len, cap, elems, rest, n, hfn, rfl, rfl, hb, hl, hm, hlen, hel, hsp, _⟩
  · obtain ⟨h1, h2⟩ := rd_one (e := slE e) (a := []) (S := sealOf W) (v := .slice none 0 0) rfl .nilsl
    exact ⟨[], by simp, by simp [bulk], h1, h2⟩
  rw [hc] at hel hsp
  have each : ∀ i : Fin len, ∃ a0 : α, wf a0 ∧ (∃ hi : i.1 < elems.length, sz a0 ≤ bulk elems[i.1].1) ∧ ∀ m (hm : m < (e a0).cells.length), ∃ v, W.cell? (a.add (i.1 * z + m)) = some v ∧ DV (sealOf W) (e a0).cells[m] v := by
    intro i
    have hi : i.1 < elems.length := by rw [hlen]; exact i.2
    have := hel i.1 i.2
    rw [List.getElem?_eq_getElem hi, Option.bind_eq_some_iff] at this
    obtain ⟨cs', hcs, hy⟩ := this
    obtain ⟨a0, w1, w2, w3, w4⟩ := r.read (by omega) hy
    refine ⟨a0, w1, ⟨hi, w2⟩, fun m hm => ?_⟩
    have hm' : m < cs'.length := by rw [← w3]; exact hm
    obtain ⟨_, hcl, hcell⟩ := World.cells?_some hcs
    refine ⟨cs'[m], ?_, w4 m hm hm'⟩
    have h5 := hcell m (by rw [← hcl]; exact hm')
    rw [List.getElem?_eq_getElem hm'] at h5
    rw [← h5, add_add]
  let xs : List α := List.ofFn fun i : Fin len => Classical.choose (each i)
  have hxl : xs.length = len := by simp [xs]
  have hx : ∀ i (hi : i < xs.length), wf xs[i] ∧ (∃ h : i < elems.length, sz xs[i] ≤ bulk elems[i].1) ∧ ∀ m (hm : m < (e xs[i]).cells.length), ∃ v, W.cell? (a.add (i * z + m)) = some v ∧ DV (sealOf W) (e xs[i]).cells[m] v := by
    intro i hi
    have hi' : i < len := by rw [← hxl]; exact hi
    have := Classical.choose_spec (each ⟨i, hi'⟩)
    simpa [xs, List.getElem_ofFn] using this
  have hdv : DV (sealOf W) (.sl (xs.map e)) (.slice (some a) len cap) := by
    by_cases hcap : cap = 0
    · have h0 : len = 0 := by omega
      have : xs = [] := List.eq_nil_of_length_eq_zero (by rw [hxl, h0])
      rw [this, h0, hcap]
      exact .emp
    · have hspot : a.spot = none := by
        have h0 : ∃ y cs', W.cells? 0 (a.add (0 * z)) z = some cs' ∧ DataW.trod enc P W 0 (fun _ => true) true n el cs' = some y := by
          by_cases hl0 : len = 0
          · obtain ⟨hr1, hr2⟩ := hsp rfl
            have h1 : 0 < rest.length := by omega
            have := hr2 0 (by omega)
            rw [List.getElem?_eq_getElem h1, Option.bind_eq_some_iff] at this
            obtain ⟨cs', hcs, hy⟩ := this
            rw [hl0] at hcs
            exact ⟨_, cs', hcs, hy⟩
          · have h1 : 0 < elems.length := by omega
            have := hel 0 (by omega)
            rw [List.getElem?_eq_getElem h1, Option.bind_eq_some_iff] at this
            obtain ⟨cs', hcs, hy⟩ := this
            exact ⟨_, cs', hcs, hy⟩
        obtain ⟨y, cs', hcs, _⟩ := h0
        obtain ⟨_, hcl, hcell⟩ := World.cells?_some hcs
        have h5 := hcell 0 hz
        have h6 : 0 < cs'.length := by rw [hcl]; exact hz
        rw [List.getElem?_eq_getElem h6] at h5
        unfold World.cell? at h5
        split at h5
        · split at h5
          · cases h5
          · rename_i hs
            cases hsx : a.spot with
            | none => rfl
            | some s => simp [Addr.add, hsx] at hs
        · cases h5
      obtain ⟨b, o, sp⟩ := a
      simp only at hspot
      subst hspot
      have hll : (xs.map e).length = len := by simp [hxl]
      have hzz : ∀ d ∈ xs.map e, d.cells.length = z := fun d hd => by obtain ⟨y, _, rfl⟩ := List.mem_map.1 hd; exact he.len y
      have key : ∀ m (hm : m < (flat (xs.map e)).length), ∃ v, W.cell? ⟨b, o + m, none⟩ = some v ∧ DV (sealOf W) (flat (xs.map e))[m] v := by
        intro m hm
        have hfl := flat_len hzz
        have h1 : m / z < xs.length := by
          rw [Nat.div_lt_iff_lt_mul hz]; rw [hfl] at hm; simpa using hm
        have h2 : m % z < z := Nat.mod_lt _ hz
        obtain ⟨q1, q2, q3⟩ := flat_at hzz (n := m / z) (m := m % z) (by simpa using h1) h2
        obtain ⟨_, _, w3⟩ := hx (m / z) h1
        obtain ⟨v, v1, v2⟩ := w3 (m % z) (by rw [he.len]; exact h2)
        have hmm : m / z * z + m % z = m := by rw [Nat.mul_comm]; exact Nat.div_add_mod m z
        refine ⟨v, ?_, ?_⟩
        · rw [← v1, addr_add]; congr 2; omega
        · have e1 : (flat (xs.map e))[m] = (flat (xs.map e))[m / z * z + m % z] := by simp only [hmm]
          rw [e1, q3]
          simpa using v2
      have := DV.sl (S := sealOf W) (z := z) (l := xs.map e) (b := b) (o := o) (cap := cap) (fun m => (W.cell? ⟨b, o + m, none⟩).getD undef) hzz (cellsD_sc he xs) (by rw [hll]; exact hl) (fun m hm => by
        obtain ⟨v, v1, _⟩ := key m hm
        show W.cell? _ = _
        rw [v1]; rfl) (fun m hm => by
        obtain ⟨v, v1, v2⟩ := key m hm
        rw [v1]; exact v2)
      rwa [hll] at this
  obtain ⟨h1, h2⟩ := rd_one (e := slE e) (a := xs) rfl hdv
  refine ⟨xs, fun y hy => ?_, ?_, h1, h2⟩
  · obtain ⟨i, hi, rfl⟩ := List.getElem_of_mem hy
    exact (hx i hi).1
  · have := sum_le (sz := sz) (xs := xs) (ys := elems.map (·.1)) (by rw [hxl, List.length_map, hlen]) (fun i k1 k2 => by
      obtain ⟨_, ⟨k3, k4⟩, _⟩ := hx i k1
      simpa using k4)
    simp only [bulk]
    omega⟩

structure RdFU (P : Program) (fs : List Field) (off : Nat) {β : Type} (ec : β → List D) (wf : β → Prop) (sz : β → Nat) (N : Nat) : Prop where
  read : ∀ {H : Type} {enc : TypeId × Value → H} {W : World} {n : Nat} {cs : List Value} {xs : List (DataW H × List MemPlace)}, n < N → xs.length = fs.length →
    (∀ (i : Nat) (f : Field), fs[i]? = some f → DataW.trod enc P W 0 (fun _ => true) true n f.type ((cs.drop f.offset).take (P.cellsOf f.type)) = xs[i]?) →
    ∃ b : β, wf b ∧ sz b ≤ bulkAll (xs.map (·.1)) ∧ ∀ j (h1 : j < (ec b).length), ∃ v, cs[off + j]? = some v ∧ DV (sealOf W) (ec b)[j] v
theorem rdfU_nil {off N : Nat} : RdFU P [] off (fun _ : Unit => []) (fun _ => True) (fun _ => 0) N := ⟨by
  intro H enc W n cs xs _ hl _
  exact ⟨(), trivial, Nat.zero_le _, fun j h1 => by simp at h1⟩⟩
theorem rdfU_cons {f : Field} {fs : List Field} {off z : Nat} {α β : Type} {e : α → D} {ec : β → List D} {wf : α → Prop} {wf' : β → Prop} {sz : α → Nat} {sz' : β → Nat} {g : Bool} {N : Nat} (hoff : f.offset = off) (he : EncOK e z g) (r : RdU P f.type e wf sz N)
    (rs : RdFU P fs (off + z) ec wf' sz' N) : RdFU P (f :: fs) off (fun p : α × β => (e p.1).cells ++ ec p.2) (fun p => wf p.1 ∧ wf' p.2) (fun p => sz p.1 + sz' p.2) N := ⟨by
  intro H enc W n cs xs hn hl h
  cases xs with
  | nil => simp at hl
  | cons x xs =>
    have h0 := h 0 f rfl
    simp only [List.getElem?_cons_zero] at h0
    obtain ⟨a, w1, w2, w3, w4⟩ := r.read hn h0
    obtain ⟨b, u1, u2, u3⟩ := rs.read (xs := xs) hn (by simpa using hl) (fun i f' hf => by simpa using h (i + 1) f' (by simpa using hf))
    refine ⟨(a, b), ⟨w1, u1⟩, by simp only [List.map_cons, bulkAll]; omega, fun j h1 => ?_⟩
    have hz := he.len a
    by_cases hj : j < z
    · have h2 : j < ((cs.drop f.offset).take (P.cellsOf f.type)).length := by omega
      refine ⟨((cs.drop f.offset).take (P.cellsOf f.type))[j], ?_, ?_⟩
      · have := List.getElem?_eq_getElem h2
        rw [← this, List.getElem?_take, List.getElem?_drop, hoff, if_pos]
        rw [List.length_take] at h2; omega
      · rw [List.getElem_append_left (show j < (e a).cells.length by omega)]
        exact w4 j (by omega) h2
    · have h2 : j - z < (ec b).length := by
        simp only [List.length_append, hz] at h1; omega
      obtain ⟨v, v1, v2⟩ := u3 (j - z) h2
      refine ⟨v, ?_, ?_⟩
      · rw [← v1]; congr 1; omega
      · rw [List.getElem_append_right (show (e a).cells.length ≤ j by omega)]
        simp only [hz]
        exact v2⟩
theorem rdU_struct {fs : Array Field} {T β : Type} {e : T → D} {ec : β → List D} {wf : T → Prop} {wf' : β → Prop} {sz : T → Nat} {sz' : β → Nat} (hu : P.underlying t = some (.struct fs)) (mk : β → T) (hmk : ∀ b, e (mk b) = .agg (ec b)) (hz : ∀ b, (ec b).length = P.cellsOf t)
    (hwf : ∀ b, wf' b → wf (mk b)) (hsz : ∀ b, sz (mk b) ≤ sz' b + 1) {N : Nat} (r : RdFU P fs.toList 0 ec wf' sz' N) : RdU P t e wf sz (N + 1) := ⟨by
  intro H enc W fuel cs x hfu h
  obtain ⟨xs, n, hfn, rfl, h1, h2, h3⟩ := DataW.trod_struct hu h
  obtain ⟨b, u1, u2, u3⟩ := r.read (cs := cs) (xs := xs) (n := n) (by omega) (by simpa using h2) (fun i f hf => h3 i f (by simpa using hf))
  have hs := hsz b
  refine ⟨mk b, hwf b u1, by simp only [bulk]; omega, by rw [hmk]; show (ec b).length = _; rw [hz, h1], fun j k1 k2 => ?_⟩
  have k3 : j < (ec b).length := by rw [hmk] at k1; exact k1
  obtain ⟨v, v1, v2⟩ := u3 j k3
  rw [Nat.zero_add, List.getElem?_eq_getElem k2] at v1
  cases v1
  have e1 : (e (mk b)).cells[j] = (ec b)[j] := by simp only [hmk, D.cells]
  rw [e1]; exact v2⟩

end
/-- how much there is of it -/
def D.bk : D → Nat
  | .str s => s.length + 1
  | .sl l => bkL l + 1
  | .agg l => bkL l + 1
  | _ => 1
where bkL : List D → Nat
  | [] => 0
  | d :: r => D.bk d + bkL r
theorem bkL_sum : ∀ l : List D, D.bk.bkL l = (l.map D.bk).sum
  | [] => rfl
  | d :: r => by
    rw [D.bk.bkL, bkL_sum r]
    rfl
/-- elements of a recursive type -/
theorem RdU.rt {P : Program} {t : TypeId} {α : Type} {e : α → D} {wf : α → Prop} {z N : Nat} (ok : EncOK e z true) (r : RdU P t e wf (fun a => D.bk (e a)) N) : RdU P t (rtE (z := z)) (fun x => ∃ u, x = RT.of ok u ∧ wf u) (fun x => D.bk (rtE x)) N := ⟨by
  intro H enc W fuel cs x hf h
  obtain ⟨a, w1, w2, w3, w4⟩ := r.read hf h
  exact ⟨RT.of ok a, ⟨a, rfl, w1⟩, w2, w3, w4⟩⟩
end Go.Proofs.Abs
end
