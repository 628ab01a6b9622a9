/- New blocks; operations that make memory. -/
import Derived.Test.YtgimibhacllcpaaAbs8
namespace Go.Proofs.Abs
open Go

structure NewBlk (w w' : World) (c : Array Value) (e : TypeId) (fr : Nat × Nat) : Prop where
  size : w'.heap.size = w.heap.size + 1
  old : ∀ b, b < w.heap.size → w'.heap[b]? = w.heap[b]?
  new : w'.heap[w.heap.size]? = some (.cells c e fr)
  os : w'.os = w.os
  out : w'.output = w.output
  tape : w'.tape = w.tape

theorem newblk_alloc (w : World) (c : Array Value) (e : TypeId) : NewBlk w (w.alloc (.cells c e)) c e (0, 0) := by
  refine ⟨by simp, fun b hb => ?_, ?_, rfl, rfl, rfl⟩
  · show (w.heap.push _)[b]? = _
    rw [Array.getElem?_push, if_neg (by omega)]
  · show (w.heap.push _)[w.heap.size]? = _
    simp

theorem NewBlk.cell {w w' : World} {c : Array Value} {e : TypeId} {fr : Nat × Nat} (h : NewBlk w w' c e fr) {a : Addr} {v : Value} (ha : w.cell? a = some v) : w'.cell? a = some v := by
  have hlt := World.block_lt_of_cell? _ _ ha
  unfold World.cell? at *
  rw [h.old _ hlt]
  exact ha

def Emb.set (i : Emb) (l b : Nat) : Emb := fun k => if k = l then some b else i k
theorem Emb.set_le {i : Emb} {l b : Nat} (h : i l = none) : i.le (i.set l b) := by
  intro k c hc
  unfold Emb.set
  split
  · rename_i hk; subst hk; rw [h] at hc; cases hc
  · exact hc

theorem HeapRel.noSeal {S : Seal} {i : Emb} {H : AHeap} {w : World} (h : HeapRel S i H w) {a : Addr} (ha : w.heap.size ≤ a.block) : S.cell a = none := by
  cases hx : S.cell a with
  | none => rfl
  | some v =>
    have := World.block_lt_of_cell? _ _ (h.cell a v hx)
    omega

theorem post_own {S : Seal} {i : Emb} {w w' : World} {c : Array Value} {e : TypeId} {nl : Nat} {L : List AV} {r : AV} {v : Value} (hh : HeapRel S i [] w) (hn : NewBlk w w' c e (0, 0))
    (hf : i nl = none) (hsz : c.size = L.length) (hv : ∀ j (h1 : j < L.length) (h2 : j < c.size), V S i L[j] c[j]) (hr : V S (i.set nl w.heap.size) r v) :
    Post S i [] w r [(nl, .cells L)] v w' := by
  have hle : i.le (i.set nl w.heap.size) := Emb.set_le hf
  have hset : ∀ l b, i.set nl w.heap.size l = some b → (i l = some b ∨ (l = nl ∧ b = w.heap.size)) := by
    intro l b hb
    unfold Emb.set at hb
    split at hb
    · rename_i hk; cases hb; exact .inr ⟨hk, rfl⟩
    · exact .inl hb
  refine ⟨S, i.set nl w.heap.size, hr, ⟨fun a v ha => hn.cell (hh.cell a v ha), ?_, ?_, ?_, ?_⟩, hle, ⟨.refl S, by have := hn.size; omega, fun b hb _ => hn.old b hb, fun a v h => .inl h, ?_, ?_, hn.os, hn.out, hn.tape⟩, ?_⟩
  · intro b n hb
    obtain ⟨c', e', f, hc, hs⟩ := hh.size b n hb
    have hlt := (Array.getElem?_eq_some_iff.1 hc).1
    exact ⟨c', e', f, by rw [hn.old b hlt]; exact hc, hs⟩
  · intro l o hm
    simp only [List.mem_singleton, Prod.mk.injEq] at hm
    obtain ⟨rfl, rfl⟩ := hm
    refine .inl ⟨w.heap.size, by simp [Emb.set], c, e, hn.new, hsz, fun j h1 h2 => (hv j h1 h2).mono (.refl S) hle, fun a ha => hh.noSeal (by omega)⟩
  · intro l o l' o' b hm hm' _ _
    simp only [List.mem_singleton, Prod.mk.injEq] at hm hm'
    rw [hm.1, hm'.1]
  · intro l b hb
    have := hn.size
    rcases hset l b hb with hb | ⟨_, hb⟩
    · have := hh.dom l b hb; omega
    · omega
  · intro l b hb
    rcases hset l b hb with hb | ⟨_, hb⟩
    · exact .inl hb
    · exact .inr (.inr (by omega))
  · rintro b ⟨l, o, hm, hb⟩
    simp only [List.mem_singleton, Prod.mk.injEq] at hm
    rcases hset l b hb with hb | ⟨_, hb⟩
    · rw [hm.1, hf] at hb; cases hb
    · exact .inr (by omega)
  · intro l b hb
    rcases hset l b hb with hb | ⟨h1, _⟩
    · exact .inl hb
    · exact .inr ⟨by simp [AHeap.keys, h1], by simp [AHeap.keys]⟩

/-- the first k cells of block b are never written again; its size is told -/
def Seal.add (S : Seal) (b k : Nat) (c : Array Value) : Seal where
  cell a := if a.block = b ∧ a.spot = none ∧ a.off < k then c[a.off]? else S.cell a
  size x := if x = b then some c.size else S.size x

theorem Seal.add_le {S : Seal} {i : Emb} {H : AHeap} {w : World} (hh : HeapRel S i H w) (k : Nat) (c : Array Value) : S.le (S.add w.heap.size k c) := by
  refine ⟨fun a v ha => ?_, fun b n hb => ?_⟩
  · have := World.block_lt_of_cell? _ _ (hh.cell a v ha)
    simp only [Seal.add]
    rw [if_neg (by rintro ⟨h1, _⟩; omega)]
    exact ha
  · obtain ⟨c', e', f, hc, hs⟩ := hh.size b n hb
    have hlt := (Array.getElem?_eq_some_iff.1 hc).1
    simp only [Seal.add]
    rw [if_neg (by omega)]
    exact hb

theorem heap_seal {S : Seal} {i : Emb} {w w' : World} {c : Array Value} {e : TypeId} {fr : Nat × Nat} {k : Nat} (hh : HeapRel S i [] w) (hn : NewBlk w w' c e fr) :
    (∀ a v, (S.add w.heap.size k c).cell a = some v → w'.cell? a = some v) ∧ ∀ b n, (S.add w.heap.size k c).size b = some n → ∃ c e f, w'.heap[b]? = some (.cells c e f) ∧ c.size = n := by
  refine ⟨fun a v ha => ?_, fun b n hb => ?_⟩
  · simp only [Seal.add] at ha
    split at ha
    · rename_i h
      obtain ⟨h1, h2, h3⟩ := h
      unfold World.cell?
      rw [h1, hn.new]
      simp [h2, ha]
    · exact hn.cell (hh.cell a v ha)
  · simp only [Seal.add] at hb
    split at hb
    · rename_i h; cases hb; subst h; exact ⟨c, e, fr, hn.new, rfl⟩
    · obtain ⟨c', e', f, hc, hs⟩ := hh.size b n hb
      have hlt := (Array.getElem?_eq_some_iff.1 hc).1
      exact ⟨c', e', f, by rw [hn.old b hlt]; exact hc, hs⟩

theorem post_seal {S : Seal} {i : Emb} {w w' : World} {c : Array Value} {e : TypeId} {fr : Nat × Nat} {k : Nat} {r : AV} {v : Value} (hh : HeapRel S i [] w) (hn : NewBlk w w' c e fr)
    (hr : V (S.add w.heap.size k c) i r v) : Post S i [] w r [] v w' := by
  obtain ⟨h1, h2⟩ := heap_seal hh hn
  have := hn.size
  refine ⟨_, i, hr, ⟨h1, h2, fun l o hm => (by cases hm), fun l o l' o' b hm => (by cases hm), fun l b hb => (by have := hh.dom l b hb; omega)⟩, fun _ _ h => h,
    ⟨Seal.add_le hh k c, (by omega), fun b hb _ => hn.old b hb, ?_, fun l b h => .inl h, fun b ⟨l, o, hm, _⟩ => (by cases hm), hn.os, hn.out, hn.tape⟩, fun l b h => .inl h⟩
  intro a v ha
  simp only [Seal.add] at ha
  split at ha
  · rename_i h; exact .inr (.inr (by omega))
  · exact .inl ha

theorem post_tok {S : Seal} {i : Emb} {w w' : World} {c : Array Value} {e : TypeId} {k nl : Nat} {r : AV} {v : Value} (hh : HeapRel S i [] w) (hn : NewBlk w w' c e (0, 0))
    (hf : i nl = none) (hr : V (S.add w.heap.size k c) (i.set nl w.heap.size) r v) : Post S i [] w r [(nl, .tok k)] v w' := by
  obtain ⟨h1, h2⟩ := heap_seal hh hn
  have hsz := hn.size
  have hle : i.le (i.set nl w.heap.size) := Emb.set_le hf
  have hset : ∀ l b, i.set nl w.heap.size l = some b → (i l = some b ∨ (l = nl ∧ b = w.heap.size)) := by
    intro l b hb
    unfold Emb.set at hb
    split at hb
    · rename_i hk; cases hb; exact .inr ⟨hk, rfl⟩
    · exact .inl hb
  refine ⟨_, i.set nl w.heap.size, hr, ⟨h1, h2, ?_, ?_, ?_⟩, hle, ⟨Seal.add_le hh k c, by omega, fun b hb _ => hn.old b hb, ?_, ?_, ?_, hn.os, hn.out, hn.tape⟩, ?_⟩
  · intro l o hm
    simp only [List.mem_singleton, Prod.mk.injEq] at hm
    obtain ⟨rfl, rfl⟩ := hm
    refine .inl ⟨w.heap.size, by simp [Emb.set], c, e, hn.new, fun a ha ho => ?_⟩
    simp only [Seal.add]
    rw [if_neg (by omega)]
    exact hh.noSeal (by omega)
  · intro l o l' o' b hm hm' _ _
    simp only [List.mem_singleton, Prod.mk.injEq] at hm hm'
    rw [hm.1, hm'.1]
  · intro l b hb
    rcases hset l b hb with hb | ⟨_, hb⟩
    · have := hh.dom l b hb; omega
    · omega
  · intro a v ha
    simp only [Seal.add] at ha
    split at ha
    · rename_i h; exact .inr (.inr (by omega))
    · exact .inl ha
  · intro l b hb
    rcases hset l b hb with hb | ⟨_, hb⟩
    · exact .inl hb
    · exact .inr (.inr (by omega))
  · rintro b ⟨l, o, hm, hb⟩
    simp only [List.mem_singleton, Prod.mk.injEq] at hm
    rcases hset l b hb with hb | ⟨_, hb⟩
    · rw [hm.1, hf] at hb; cases hb
    · exact .inr (by omega)
  · intro l b hb
    rcases hset l b hb with hb | ⟨h1, _⟩
    · exact .inl hb
    · exact .inr ⟨by simp [AHeap.keys, h1], by simp [AHeap.keys]⟩

section
variable {P : Program} {args : List (Nat × AV)} {H : AHeap} {o : Oper} {own : Bool} {nl : Nat} {q : Out}

theorem constD_sl {v : Value} (h : constD v = some (.sl [])) : v = .slice none 0 0 := by
  unfold constD at h
  split at h <;> first | (cases h; done) | (cases h; rfl)
theorem zAV_ok {S : Seal} {i : Emb} {v : Value} {x : D} (h : constD v = some x) : V S i (zAV x) v := by
  unfold zAV
  split
  · rw [constD_sl h]; exact .nils
  · exact .d (constD_ok h).1
theorem constDs_at : ∀ {vs : List Value} {l : List D}, constDs vs = some l → l.length = vs.length ∧ ∀ j (h1 : j < l.length) (h2 : j < vs.length), constD vs[j] = some l[j]
  | [], l, h => by cases h; simp
  | v :: r, l, h => by
    simp only [constDs] at h
    split at h <;> first | cases h | skip
    rename_i d l' hd hl
    obtain ⟨h1, h2⟩ := constDs_at hl
    refine ⟨by simp [h1], fun j h3 h4 => ?_⟩
    cases j with
    | zero => exact hd
    | succ j => exact h2 j (by simpa using h3) (by simpa using h4)
theorem zeroA_inv {t : TypeId} {zz : List D} (h : zeroA P t = some zz) : ∃ j v, P.info? t = some j ∧ j.zero = some v ∧ constDs v.cells.toList = some zz := by
  unfold zeroA at h
  simp only [Option.bind_eq_some_iff] at h
  obtain ⟨j, hj, v, hv, h⟩ := h
  exact ⟨j, v, hj, hv, h⟩
theorem run_zeroValue {t : TypeId} {j : TypeInfo} {v : Value} {w : World} (hj : P.info? t = some j) (hv : j.zero = some v) : (zeroValue t).run P w = .ok v w := by
  simp [zeroValue, run_typeInfo hj, hv]

theorem ok_alloc {t : TypeId} (hop : o.op = .alloc t) (h : evOp own nl (evA args) H (compOp P o.op) = some q) : OpT P (evL args) o q.hin q.r q.hout := by
  rw [hop] at h
  simp only [compOp] at h
  cases hz : zeroA P t with
  | none => rw [hz] at h; cases h
  | some zz =>
  rw [hz] at h
  cases h
  obtain ⟨j, v, hj, hv, hc⟩ := zeroA_inv hz
  obtain ⟨hl, hcd⟩ := constDs_at hc
  refine ⟨by simp [hop], fun S i w ρ hev hh hf => ?_⟩
  have hrun : (execOp ρ o).run P w = .ok (.value (.pointer (some ⟨w.heap.size, 0, none⟩))) (w.alloc (.cells v.cells t)) := by
    simp only [execOp, hop, Instr.alloc, Sem.run_bind, run_zeroValue hj hv, Result.andThen_ok, newVar, newRow, run_newObj, Sem.run_pure]
    rfl
  rw [hrun]
  refine post_own hh (newblk_alloc w v.cells t) (hf nl (by simp [AHeap.keys]) (by simp [AHeap.keys])) (by simp [hl]) (fun k h1 h2 => ?_) (.ptr (by simp [Emb.set]))
  have := zAV_ok (S := S) (i := i) (hcd k (by simpa using h1) (by simpa using h2))
  simpa using this

theorem cellsAV_ok {S : Seal} {i : Emb} {x : AV} {cs : List AV} {v : Value} (h : cellsAV x = some cs) (hv : V S i x v) : v.cells.size = cs.length ∧
    ∀ k (h1 : k < cs.length) (h2 : k < v.cells.size), V S i cs[k] v.cells[k] := by
  cases x <;> simp only [cellsAV] at h <;> first | (injection h with h; subst h) | (cases h; done) | skip
  case d y =>
    have hd := vD hv
    cases hd with
    | agg hl hs hall =>
      refine ⟨by simp [Value.cells, D.cells, hl], fun k h1 h2 => ?_⟩
      have := hall k (by simpa [D.cells] using h1) (by simpa [Value.cells] using h2)
      simpa [Value.cells, D.cells] using V.d (i := i) this
    | _ =>
      refine ⟨by simp [Value.cells, D.cells], fun k h1 h2 => ?_⟩
      have hk : k = 0 := by simp [D.cells] at h1; omega
      subst hk
      simpa [Value.cells, D.cells] using hv
  case agg l =>
    cases hb : l.all AV.scalar <;> rw [hb] at h <;> cases h
    cases hv with
    | agg hl hall => exact ⟨by simp [Value.cells, hl], fun k h1 h2 => by simpa [Value.cells] using hall k h1 (by simpa [Value.cells] using h2)⟩
  all_goals
    have h0 : v.cells = #[v] := by cases hv <;> rfl
    refine ⟨by simp [h0], fun k h1 h2 => ?_⟩
    have hk : k = 0 := by simp at h1; omega
    subst hk
    simpa [h0] using hv

theorem ok_box {t : TypeId} {x : Operand} (hop : o.op = .box t x) (h : evOp own nl (evA args) H (compOp P o.op) = some q) : OpT P (evL args) o q.hin q.r q.hout := by
  rw [hop] at h
  simp only [compOp] at h
  split at h <;> first | cases h | skip
  rename_i a hx
  simp only [evOp] at h
  split at h <;> first | cases h | skip
  rename_i cs hcs
  simp only [Option.bind_eq_some_iff] at hcs
  obtain ⟨y, hy, hcs⟩ := hcs
  refine ⟨by simp [hop], fun S i w ρ hev hh hf => ?_⟩
  have hv := argV hev hx hy
  obtain ⟨h1, h2⟩ := cellsAV_ok hcs hv
  have hrun : (execOp ρ o).run P w = .ok (.value (.pointer (some ⟨w.heap.size, 0, none⟩))) (w.alloc (.cells (ρ x).cells t)) := by
    simp only [execOp, hop, Instr.box, Sem.run_bind, newVar, newRow, run_newObj, Sem.run_pure]
    rfl
  rw [hrun]
  exact post_own hh (newblk_alloc w (ρ x).cells t) (hf nl (by simp [AHeap.keys]) (by simp [AHeap.keys])) h1 h2 (.ptr (by simp [Emb.set]))

theorem upd_at : ∀ (L : List AV) (n : Nat) (cs : List AV), n + cs.length ≤ L.length → (upd L n cs).length = L.length ∧
    ∀ k (h1 : k < (upd L n cs).length), (upd L n cs)[k] = if h : n ≤ k ∧ k < n + cs.length then cs[k - n]'(by omega) else L.getD k .any
  | L, n, [], h => by
    have h0 : upd L n [] = L := by cases L <;> rfl
    rw [h0]
    refine ⟨rfl, fun k h1 => ?_⟩
    rw [dif_neg (by simp only [List.length_nil]; omega)]
    have h2 : k < L.length := h1
    simp [List.getD, List.getElem?_eq_getElem h2, h0]
  | [], n, c :: cs, h => by simp at h
  | x :: L, 0, c :: cs, h => by
    obtain ⟨h1, h2⟩ := upd_at L 0 cs (by simpa using h)
    refine ⟨by simp [upd, h1], fun k hk => ?_⟩
    cases k with
    | zero => simp [upd]
    | succ k =>
      have := h2 k (by simpa [upd] using hk)
      simp only [upd, List.getElem_cons_succ, this]
      by_cases hc : k < cs.length
      · rw [dif_pos ⟨by omega, by omega⟩, dif_pos ⟨by omega, by simp; omega⟩]
        simp
      · rw [dif_neg (by omega), dif_neg (by simp; omega)]
        simp
  | x :: L, n + 1, c :: cs, h => by
    obtain ⟨h1, h2⟩ := upd_at L n (c :: cs) (by simp at h ⊢; omega)
    refine ⟨by simp [upd, h1], fun k hk => ?_⟩
    cases k with
    | zero => rw [dif_neg (by omega)]; simp [upd]
    | succ k =>
      have := h2 k (by simpa [upd] using hk)
      simp only [upd, List.getElem_cons_succ, this]
      by_cases hc : n ≤ k ∧ k < n + (c :: cs).length
      · rw [dif_pos hc, dif_pos ⟨by omega, by omega⟩]
        congr 1
        omega
      · rw [dif_neg hc, dif_neg (by omega)]
        simp

theorem one_scalar {S : Seal} {i : Emb} {x : AV} {v : Value} (h : x.scalar = true) (hv : V S i x v) : v.oneCell' = true := by
  cases hv <;> first | rfl | (simp [AV.scalar] at h; done) | skip
  rename_i x hd
  cases hd <;> first | rfl | (simp [AV.scalar, D.isAgg] at h; done)

/-- a block is written -/
theorem post_store {S : Seal} {i : Emb} {w w' : World} {l b : Nat} {L L' : List AV} {c c' : Array Value} {e : TypeId} {r : AV} {v : Value} (hh : HeapRel S i [(l, .cells L)] w) (hi : i l = some b)
    (hc : w.heap[b]? = some (.cells c e (0, 0))) (hns : ∀ a : Addr, a.block = b → S.cell a = none) (hw : w' = w.setRow b c') (hsz : c'.size = c.size) (hL : L'.length = c'.size)
    (hv : ∀ k (h1 : k < L'.length) (h2 : k < c'.size), V S i L'[k] c'[k]) (hr : V S i r v) : Post S i [(l, .cells L)] w r [(l, .cells L')] v w' := by
  subst hw
  have hold : ∀ k, k ≠ b → (w.setRow b c').heap[k]? = w.heap[k]? := fun k hk => setRow_other w b k c' hk
  have hnew := setRow_heap w b c c' e (0, 0) hc
  have hblk : blk i [(l, .cells L)] b := ⟨l, _, List.mem_cons_self, hi⟩
  refine ⟨S, i, hr, ⟨fun a v ha => ?_, fun k n hk => ?_, ?_, ?_, fun l b hb => by rw [setRow_size]; exact hh.dom l b hb⟩, fun _ _ h => h,
    ⟨.refl S, by rw [setRow_size]; exact Nat.le_refl _, fun k _ hk => hold k fun hkb => hk (hkb ▸ hblk), fun a v h => .inl h, fun l b h => .inl h, ?_, rfl, rfl, rfl⟩, fun l b h => .inl h⟩
  · by_cases hb : a.block = b
    · rw [hns a hb] at ha; cases ha
    · rw [cell_setRow_other w b c' a hb]; exact hh.cell a v ha
  · by_cases hb : k = b
    · subst hb
      obtain ⟨c0, e0, f0, h0, hs0⟩ := hh.size k n hk
      rw [hc] at h0
      cases h0
      exact ⟨c', e, (0, 0), hnew, by omega⟩
    · rw [hold k hb]; exact hh.size k n hk
  · intro l' o' hm
    simp only [List.mem_singleton, Prod.mk.injEq] at hm
    obtain ⟨rfl, rfl⟩ := hm
    exact .inl ⟨b, hi, c', e, hnew, hL.symm, hv, hns⟩
  · intro l1 o1 l2 o2 b' hm hm' _ _
    simp only [List.mem_singleton, Prod.mk.injEq] at hm hm'
    rw [hm.1, hm'.1]
  · rintro b' ⟨l', o', hm, hb⟩
    simp only [List.mem_singleton, Prod.mk.injEq] at hm
    refine .inl ⟨l, _, List.mem_cons_self, ?_⟩
    rw [← hm.1]; exact hb

theorem ok_store {t : TypeId} {x y : Operand} (hop : o.op = .store t x y) (h : evOp own nl (evA args) H (compOp P o.op) = some q) (hs : q.side) : OpT P (evL args) o q.hin q.r q.hout := by
  rw [hop] at h
  simp only [compOp] at h
  split at h <;> first | cases h | skip
  rename_i a b hx hy
  simp only [szK] at h
  split at h <;> first | cases h | skip
  rename_i j hj
  simp only [evOp] at h
  split at h <;> first | cases h | skip
  rename_i l off cs hax hcs
  split at h <;> first | cases h | skip
  rename_i L hL
  obtain ⟨hlen, hle, hsc⟩ := hs
  simp only [Option.bind_eq_some_iff] at hcs
  obtain ⟨yv, hyv, hcs⟩ := hcs
  refine ⟨by simp [hop], fun S i w ρ hev hh hf => ?_⟩
  have hvx := argV hev hx hax
  have hvy := argV hev hy hyv
  obtain ⟨h1, h2⟩ := cellsAV_ok hcs hvy
  generalize hux : ρ x = u at hvx
  cases hvx with
  | ptr hi =>
    rename_i blkn
    rcases hh.obj l (.cells L) List.mem_cons_self with ⟨b', hb', c, e, hc, hsz, hval, hns⟩ | ⟨hn, _⟩
    case inr => rw [hi] at hn; cases hn
    rw [hi] at hb'
    cases hb'
    have hone : ∀ v ∈ (ρ y).cells.toList, v.oneCell' = true := by
      intro v hv
      obtain ⟨k, hk, rfl⟩ := List.getElem_of_mem hv
      have hk' : k < cs.length := by simpa [h1] using hk
      have := h2 k hk' (by simpa using hk)
      refine one_scalar (List.all_eq_true.1 hsc _ (List.getElem_mem hk')) (by simpa using this)
    have hrun := run_storeCells_at (P := P) blkn off e (ρ y).cells.toList 0 c w hc (by simp [h1]; omega) hone
    have hex : (execOp ρ o).run P w = .ok .skip (w.setRow blkn (c.toList.take (off + 0) ++ (ρ y).cells.toList ++ c.toList.drop (off + 0 + (ρ y).cells.toList.length)).toArray) := by
      simp only [execOp, hop, Instr.storeAt, hux, Instr.sureAddr, Sem.run_bind, Sem.run_pure, Result.andThen_ok, storeVar, run_sizeOf hj]
      rw [if_neg (by rw [h1, hlen]; simp)]
      rw [hrun]
      rfl
    rw [hex]
    obtain ⟨hu1, hu2⟩ := upd_at L off cs (by omega)
    have hlen' : (ρ y).cells.toList.length = cs.length := by simpa using h1
    have hsize : ((c.toList.take (off + 0) ++ (ρ y).cells.toList ++ c.toList.drop (off + 0 + (ρ y).cells.toList.length)).toArray).size = c.size := by
      simp; omega
    refine post_store hh hi hc hns rfl hsize (by rw [hsize, hu1, hsz]) (fun k hk1 hk2 => ?_) .any
    rw [hu2 k hk1]
    split
    · rename_i hkk
      have := h2 (k - off) (by omega) (by omega)
      have he : ((c.toList.take (off + 0) ++ (ρ y).cells.toList ++ c.toList.drop (off + 0 + (ρ y).cells.toList.length)).toArray)[k] = (ρ y).cells[k - off]'(by omega) := by
        simp only [List.getElem_toArray]
        rw [List.getElem_append_left (by simp; omega), List.getElem_append_right (by simp; omega)]
        simp
        congr 1
        omega
      rw [he]; exact this
    · rename_i hkk
      have hk3 : k < L.length := by omega
      have hk4 : k < c.size := by omega
      have := hval k hk3 hk4
      have he : ((c.toList.take (off + 0) ++ (ρ y).cells.toList ++ c.toList.drop (off + 0 + (ρ y).cells.toList.length)).toArray)[k] = c[k] := by
        simp only [List.getElem_toArray]
        by_cases hko : k < off
        · rw [List.getElem_append_left (by simp; omega), List.getElem_append_left (by simp; omega)]
          simp
        · rw [List.getElem_append_right (by simp; omega)]
          simp
          congr 1
          omega
      rw [he]
      simpa [hk3] using this
end
end Go.Proofs.Abs
