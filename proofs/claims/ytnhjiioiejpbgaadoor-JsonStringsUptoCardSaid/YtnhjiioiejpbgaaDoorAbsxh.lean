/- Several texts of one proof, one behind the other. -/
import Derived.Test.YtnhjiioiejpbgaaDoorAbsxg
import Derived.Below
import Derived.Shelf.Unicode.DecodeSlow
import Derived.Lib.ValidU
set_option linter.unusedSimpArgs false
section
/- Functions of unicode/utf8 that read its two tables: what they tell. -/
namespace Go.Proofs.Abs
open Go Go.RowKit
set_option maxRecDepth 100000
set_option linter.unusedVariables false
theorem gFirst_eq : ∀ c : Fin 256, gFirst c.val = Lib.firstT c.val := by decide
theorem gAcc_eq : ∀ i : Fin 16, gAcc (2 * i.val) = Lib.accLo i.val ∧ gAcc (2 * i.val + 1) = Lib.accHi i.val := by decide
theorem gT_tabs (hO : gOnT = true) {w : World} (h : ∀ a v, gT a = some v → w.cell? a = some v) : Lib.Utf8Tabs gF gA w := by
  constructor
  · intro c hc
    rw [← gFirst_eq ⟨c, hc⟩]
    refine h _ _ ?_
    have h1 : Nat.blt c 256 = true := by rw [Nat.blt_eq]; exact hc
    simp [gT, hO, h1]
  · intro i hi
    obtain ⟨h1, h2⟩ := gAcc_eq ⟨i, hi⟩
    rw [← h1, ← h2]
    have e : Nat.beq gA gF = false := by decide
    have b1 : Nat.blt (2 * i) 32 = true := by rw [Nat.blt_eq]; omega
    have b2 : Nat.blt (2 * i + 1) 32 = true := by rw [Nat.blt_eq]; omega
    constructor
    · refine h _ _ ?_
      simp [gT, hO, e, b1]
    · refine h _ _ ?_
      simp [gT, hO, e, b2]
theorem tabs_gT {W : World} (h : Lib.Utf8Tabs gF gA W) : ∀ a v, gT a = some v → W.cell? a = some v := by
  intro ⟨b, o, sp⟩ v hv
  unfold gT at hv
  cases sp with
  | some x => simp at hv
  | none =>
    cases hO : gOnT with
    | false => simp [hO] at hv
    | true =>
      simp only [hO, Option.isNone_none, Bool.and_self, cond_true] at hv
      cases h1 : (Nat.beq b gF && Nat.blt o 256) with
      | true =>
        simp only [h1, cond_true, Option.some.injEq] at hv
        simp only [Bool.and_eq_true, Nat.blt_eq] at h1
        obtain ⟨hb, h1⟩ := h1
        obtain rfl := Nat.eq_of_beq_eq_true hb
        rw [h.1 o h1, ← hv, gFirst_eq ⟨o, h1⟩]
      | false =>
        simp only [h1, cond_false] at hv
        cases h2 : (Nat.beq b gA && Nat.blt o 32) with
        | false => simp [h2] at hv
        | true =>
          simp only [h2, cond_true, Option.some.injEq] at hv
          simp only [Bool.and_eq_true, Nat.blt_eq] at h2
          obtain ⟨hb, h2⟩ := h2
          obtain rfl := Nat.eq_of_beq_eq_true hb
          obtain ⟨e1, e2⟩ := gAcc_eq ⟨o / 2, by omega⟩
          obtain ⟨t1, t2⟩ := h.2 (o / 2) (by omega)
          simp only at e1 e2
          rw [← hv]
          rcases Nat.mod_two_eq_zero_or_one o with ho | ho
          · rw [show 2 * (o / 2) = o by omega] at e1 t1
            rw [t1, e1]
          · rw [show 2 * (o / 2) + 1 = o by omega] at e2 t2
            rw [t2, e2]
theorem cell_lt {w : World} {a : Addr} {v : Value} (h : w.cell? a = some v) : a.block < w.heap.size := by
  apply Classical.byContradiction
  intro hn
  have : w.heap[a.block]? = none := by simp; omega
  simp [World.cell?, this] at h
/-- a call that leaves what is there as it is -/
theorem below_post {S : Seal} {i : Emb} {w w' : World} {r : AV} {v : Value} (hv : V S i r v) (hh : HeapRel S i [] w) (b : Below w.heap.size w w') : Post S i [] w r [] v w' := by
  refine ⟨S, i, hv, ?_, fun _ _ hb => hb, ?_, fun l b hb => .inl hb⟩
  · refine ⟨fun a v h => ?_, fun k n h => ?_, fun l o h => (List.not_mem_nil h).elim, fun l o l' o' b h => (List.not_mem_nil h).elim, fun l k h => Nat.lt_of_lt_of_le (hh.dom l k h) b.size, hh.gr⟩
    · have hc := hh.cell a v h
      rw [b.cell (cell_lt hc)]
      exact hc
    · obtain ⟨c, e, f, hc, hs⟩ := hh.size k n h
      refine ⟨c, e, f, ?_, hs⟩
      rw [b.block k (by
        apply Classical.byContradiction
        intro hn
        have : w.heap[k]? = none := by simp; omega
        rw [this] at hc
        cases hc)]
      exact hc
  · exact ⟨.refl S, b.size, fun k hk _ => b.block k hk, fun _ _ h => .inl h, fun _ _ h => .inl h, fun k h => by obtain ⟨l, o, h, _⟩ := h; exact (List.not_mem_nil h).elim, b.os, b.output, b.tape⟩
def u8I (l : List UInt8) : Int × Int := (((Lib.decodeGo ⟨l.toArray⟩).1 : Int), ((Lib.decodeGo ⟨l.toArray⟩).2 : Int))
def DecB (P : Program) (f : FuncId) : Prop :=
  gOnT = true ∧ (∃ fn, P.funcs[f]? = some fn ∧ (fn.name == "runtime.NumGoroutine") = false ∧ fn.body.isSome = true) ∧
  ∀ (s : ByteArray) (w : World), Lib.Utf8Tabs gF gA w → Calls P f #[.string s] w fun e w' => e = .returned (.tuple #[.int .i32 (Lib.decodeGo s).1, .int .i64 (Lib.decodeGo s).2]) ∧ Below w.heap.size w w'
theorem decB_calls {P : Program} {f : FuncId} (h : DecB P f) (s : List UInt8) :
    ACalls P f [.d (.str s)] [] (.tup [.d (.int .i32 (u8I s).1), .d (.int .i64 (u8I s).2)]) [] := by
  refine ⟨h.2.1, fun S i w vs hl hv hh _ => ?_⟩
  match vs, hl, hv with
  | [v0], _, hv =>
    have h0 := hv 0 (by simp) (by simp)
    simp only [List.getElem_cons_zero] at h0
    cases h0 with
    | d h0 =>
      cases h0
      refine (h.2.2 _ w (gT_tabs h.1 fun a v ha => hh.cell a v (hh.gr a v ha))).mono fun e w' hh' => ?_
      obtain ⟨he, b⟩ := hh'
      refine ⟨_, he, below_post ?_ hh b⟩
      refine .tup (vs := [_, _]) rfl fun j h1 h2 => ?_
      match j with
      | 0 => exact .d .int
      | 1 => exact .d .int
def ValB (P : Program) (f : FuncId) : Prop :=
  gOnT = true ∧ (∃ fn, P.funcs[f]? = some fn ∧ (fn.name == "runtime.NumGoroutine") = false ∧ fn.body.isSome = true) ∧
  ∀ (s : ByteArray) (w : World), s.size ≤ 9223372036854775807 → Lib.Utf8Tabs gF gA w → Calls P f #[.string s] w fun e w' => e = .returned (.bool (Lib.validD s.data.toList)) ∧ Below w.heap.size w w'
theorem valB_calls {P : Program} {f : FuncId} (h : ValB P f) (s : List UInt8) (hs : s.length ≤ 9223372036854775807) :
    ACalls P f [.d (.str s)] [] (.d (.bool (Lib.validD s))) [] := by
  refine ⟨h.2.1, fun S i w vs hl hv hh _ => ?_⟩
  match vs, hl, hv with
  | [v0], _, hv =>
    have h0 := hv 0 (by simp) (by simp)
    simp only [List.getElem_cons_zero] at h0
    cases h0 with
    | d h0 =>
      cases h0
      refine (h.2.2 _ w (by simpa [ByteArray.size] using hs) (gT_tabs h.1 fun a v ha => hh.cell a v (hh.gr a v ha))).mono fun e w' hh' => ?_
      obtain ⟨he, b⟩ := hh'
      exact ⟨_, he, below_post (.d .bool) hh b⟩
end Go.Proofs.Abs
end
