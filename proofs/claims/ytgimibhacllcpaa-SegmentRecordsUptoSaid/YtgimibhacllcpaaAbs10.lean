/- append. -/
import Derived.Test.YtgimibhacllcpaaAbs9
import Derived.Laws.Append
import Derived.Laws.AppendOwn
namespace Go.Proofs.Abs
open Go

section
variable {P : Program} {w : World}
theorem run_append_grows' {ats : Array TypeId} {t u ty e : TypeId} {j : TypeInfo} {z : Value} {d : TypeDesc} (h0 : ats[0]? = some t) (h1 : ats[1]? = some u) (ht : P.underlying t = some (.slice e))
    (hu : P.underlying u = some d) (hd : (∃ e', d = .slice e') ∨ d = .string) (hj : P.info? e = some j) (hz : j.zero = some z) {base : Option Addr} {sLen sCap n : Nat} {x : Value} {old new : Array Value}
    (hn : (Builtin.lenOf x).run P w = .ok n w) (hf : (Builtin.firstCells j.size n x).run P w.drew = .ok new w.drew) (ho : (Builtin.firstCells j.size sLen (.slice base sLen sCap)).run P w.drew = .ok old w.drew)
    (hg : sCap < sLen + n) (h63 : sLen + n ≤ 9223372036854775807) (hfit : Builtin.nextslicecap (sLen + n) sCap * j.bytes ≤ 281474976710656) :
    (Builtin.append_ ats ty #[.slice base sLen sCap, x]).run P w =
      .ok (.slice (some ⟨w.heap.size, 0, none⟩) (sLen + n) (grownCap w (sLen + n) sCap e))
        (w.drew.alloc (.cells (old ++ new ++ Builtin.zeroCells z.cells (grownCap w (sLen + n) sCap e - (sLen + n))) e)) := by
  have hn' : ¬ (sLen + n ≤ sCap) := by omega
  have h63' : ¬ (9223372036854775807 < ((sLen : Int) + (n : Int))) := by omega
  have h48' : ¬ (281474976710656 < Builtin.nextslicecap (sLen + n) sCap * j.bytes) := by omega
  rcases hd with ⟨e', rfl⟩ | rfl
  all_goals
    simp [Builtin.append_, h0, h1, run_underlying ht, run_underlying hu, sizeOf, typeInfo, zeroValue, hj, hz, hn, hn', h63', h48', Question.forced, hf, ho, newRow, grownCap]

theorem run_append_room' {ats : Array TypeId} {t u ty e : TypeId} {j : TypeInfo} {d : TypeDesc} (h0 : ats[0]? = some t) (h1 : ats[1]? = some u) (ht : P.underlying t = some (.slice e))
    (hu : P.underlying u = some d) (hd : (∃ e', d = .slice e') ∨ d = .string) (hj : P.info? e = some j) {g sLen sCap n : Nat} {x : Value} {cur : Array Value} {new : List Value}
    (hn : (Builtin.lenOf x).run P w = .ok n w) (hf : (Builtin.firstCells j.size n x).run P w = .ok new.toArray w) {e2 : TypeId} (hg : w.heap[g]? = some (.cells cur e2 (0, 0))) (hone : ∀ u ∈ new, u.oneCell' = true)
    (hroom : sLen + n ≤ sCap) (hfit : sLen * j.size + new.length ≤ cur.size) :
    (Builtin.append_ ats ty #[.slice (some ⟨g, 0, none⟩) sLen sCap, x]).run P w =
      .ok (.slice (some ⟨g, 0, none⟩) (sLen + n) sCap) (w.setRow g (cur.toList.take (sLen * j.size) ++ new ++ cur.toList.drop (sLen * j.size + new.length)).toArray) := by
  have hst := run_storeCells_at P g (sLen * j.size) e2 new 0 cur w hg (by simpa using hfit) hone
  simp only [Nat.add_zero] at hst
  rcases hd with ⟨e', rfl⟩ | rfl
  all_goals
    simp [Builtin.append_, h0, h1, run_underlying ht, run_underlying hu, sizeOf, typeInfo, hj, hn, hroom, hf, addr_add, hst]

theorem run_append_none' {ats : Array TypeId} {t u ty e : TypeId} {j : TypeInfo} {d : TypeDesc} (h0 : ats[0]? = some t) (h1 : ats[1]? = some u) (ht : P.underlying t = some (.slice e))
    (hu : P.underlying u = some d) (hd : (∃ e', d = .slice e') ∨ d = .string) (hj : P.info? e = some j) {x : Value} {new : Array Value}
    (hn : (Builtin.lenOf x).run P w = .ok 0 w) (hf : (Builtin.firstCells j.size 0 x).run P w = .ok new w) :
    (Builtin.append_ ats ty #[.slice none 0 0, x]).run P w = .ok (.slice none 0 0) w := by
  rcases hd with ⟨e', rfl⟩ | rfl
  all_goals
    simp [Builtin.append_, h0, h1, run_underlying ht, run_underlying hu, sizeOf, typeInfo, hj, hn, hf]
end

theorem flat_len {l : List D} {z : Nat} (hz : ∀ d ∈ l, d.cells.length = z) : (flat l).length = l.length * z := by
  induction l with
  | nil => simp [flat]
  | cons x r ih =>
    have h1 := hz x List.mem_cons_self
    have h2 := ih fun d hd => hz d (List.mem_cons_of_mem _ hd)
    simp only [flat, List.flatMap_cons, List.length_append, h1, List.length_cons] at *
    rw [h2, Nat.succ_mul]; omega
theorem flat_append (l m : List D) : flat (l ++ m) = flat l ++ flat m := by simp [flat]

theorem flat_bytes (s : List UInt8) : flat (s.map byteD) = s.map byteD := by
  induction s with
  | nil => rfl
  | cons c r ih =>
    rw [List.map_cons]
    show D.cells (byteD c) ++ flat (r.map byteD) = _
    rw [ih]; rfl
/-- the source's cells, as they are read -/
theorem src_ok {P : Program} {S : Seal} {i : Emb} {x : AV} {ys : List D} {v : Value} {z : Nat} (h : toSrc x = some ys) (hv : V S i x v) (hz : ∀ d ∈ ys, d.cells.length = z) :
    ∃ new : List Value, new.length = ys.length * z ∧ (∀ d ∈ flat ys, d.isAgg = false) ∧ (∀ m (h1 : m < (flat ys).length) (h2 : m < new.length), DV S (flat ys)[m] new[m]) ∧
      ∀ w : World, (∀ a v, S.cell a = some v → w.cell? a = some v) → (Builtin.lenOf v).run P w = .ok ys.length w ∧ (Builtin.firstCells z ys.length v).run P w = .ok new.toArray w := by
  have slice : DV S (.sl ys) v → ∃ new : List Value, new.length = ys.length * z ∧ (∀ d ∈ flat ys, d.isAgg = false) ∧ (∀ m (h1 : m < (flat ys).length) (h2 : m < new.length), DV S (flat ys)[m] new[m]) ∧
      ∀ w : World, (∀ a v, S.cell a = some v → w.cell? a = some v) → (Builtin.lenOf v).run P w = .ok ys.length w ∧ (Builtin.firstCells z ys.length v).run P w = .ok new.toArray w := by
    intro hd
    rcases dSlice hd with ⟨rfl, rfl⟩ | ⟨b, o, cap, z', f, rfl, hz', hg, hc, hs, hall⟩ | ⟨rfl, a, rfl⟩
    case inr.inr => exact ⟨[], by simp, by simp [flat], by simp, fun w _ => ⟨rfl, by
      have h9 := run_loadCells (P := P) w a (([] : List D).length * z) (fun _ => undef) fun k hk => by simp at hk
      simp only [Builtin.firstCells]
      rw [h9]
      simp⟩⟩
    · exact ⟨[], by simp, by simp [flat], by simp, fun w _ => ⟨rfl, by simp [Builtin.firstCells]⟩⟩
    · have hfl := flat_len hz
      refine ⟨(List.range (ys.length * z)).map f, by simp, hg, fun m h1 h2 => by simpa using hall m h1, fun w hw => ⟨rfl, ?_⟩⟩
      simp only [Builtin.firstCells]
      exact run_loadCells w _ (ys.length * z) f fun k hk => by rw [addr_add]; exact hw _ _ (hs k (by omega))
  cases x <;> simp only [toSrc] at h
  case d y =>
    cases y <;> simp only at h <;> first | exact slice (toSl_ok h hv) | (cases h; done) | skip
    case str s =>
      cases h
      cases vStr hv
      refine ⟨s.map fun b => .int .u8 b.toNat, ?_, ?_, ?_, fun w _ => ⟨by simp [Builtin.lenOf, ByteArray.size], ?_⟩⟩
      · cases s with
        | nil => simp
        | cons c r =>
          have := hz (byteD c) (by simp)
          simp [byteD, D.cells] at this
          simp [← this]
      · intro d hd
        simp only [flat, List.mem_flatMap, List.mem_map] at hd
        obtain ⟨y, ⟨b, _, rfl⟩, hd⟩ := hd
        simp [byteD, D.cells] at hd
        subst hd; rfl
      · intro m h1 h2
        have : ∀ (k : Nat) (hk : k < (flat (s.map byteD)).length), (flat (s.map byteD))[k] = (s.map byteD)[k]'(by rw [flat_bytes] at hk; exact hk) := by
          intro k hk
          simp only [flat_bytes]
        rw [this]
        simp only [List.getElem_map]
        exact .int
      · simp only [Builtin.firstCells, List.length_map]
        have hx : (⟨s.toArray⟩ : ByteArray).extract 0 s.length = ⟨s.toArray⟩ := by
          apply ByteArray.ext
          simp
        rw [hx]
        simp
  all_goals first | exact slice (toSl_ok h hv) | cases h

theorem Post.more {S : Seal} {i : Emb} {H H' : AHeap} {w w' : World} {r : AV} {v : Value} (h : Post S i [] w r H' v w') (hd : ∀ l ∈ H'.keys, l ∉ H.keys) : Post S i H w r H' v w' := by
  obtain ⟨S', i', hv, hh, hle, ht, hn⟩ := h
  refine ⟨S', i', hv, hh, hle, ht.perm (fun x hx => by cases hx) (fun x hx => hx), fun l b hb => ?_⟩
  rcases hn l b hb with h | h
  · exact .inl h
  · exact .inr ⟨h.1, hd l h.1⟩

theorem one_of_dv {S : Seal} {d : D} {v : Value} (h : DV S d v) (hd : d.isAgg = false) : v.oneCell' = true := by
  cases h <;> first | rfl | (simp [D.isAgg] at hd; done)

/-- a new row of data: what it reads as -/
theorem dv_new {S : Seal} {i : Emb} {H : AHeap} {w : World} {xs : List D} {z cap : Nat} {c : Array Value} {cs : List Value} (hh : HeapRel S i H w) (hz : ∀ d ∈ xs, d.cells.length = z)
    (hg : ∀ d ∈ flat xs, d.isAgg = false) (hl : cs.length = xs.length * z) (hc : ∀ m (h : m < cs.length), c[m]? = some cs[m])
    (hv : ∀ m (h1 : m < (flat xs).length) (h2 : m < cs.length), DV S (flat xs)[m] cs[m]) (hcap : xs.length ≤ cap) :
    DV (S.add w.heap.size (xs.length * z) c) (.sl xs) (.slice (some ⟨w.heap.size, 0, none⟩) xs.length cap) := by
  have hfl := flat_len hz
  refine .sl (fun m => cs.getD m undef) hz hg hcap (fun m hm => ?_) fun m hm => ?_
  · have h1 : m < cs.length := by omega
    simp only [Seal.add]
    rw [if_pos ⟨trivial, trivial, by show 0 + m < _; omega⟩]
    show c[0 + m]? = _
    rw [Nat.zero_add, hc m h1]
    simp [List.getD, h1]
  · have h1 : m < cs.length := by omega
    have := (hv m hm h1).mono (Seal.add_le hh (xs.length * z) c)
    simpa [List.getD, h1] using this

def Seal.ext (S : Seal) (b lo hi : Nat) (c : Array Value) : Seal where
  cell a := if a.block = b ∧ a.spot = none ∧ lo ≤ a.off ∧ a.off < hi then c[a.off]? else S.cell a
  size := S.size

/-- written behind what is sealed -/
theorem post_room {S : Seal} {i : Emb} {w : World} {l nl b n k : Nat} {c c' : Array Value} {e : TypeId} {r : AV} {v : Value} (hh : HeapRel S i [(l, .tok n)] w) (hi : i l = some b)
    (hc : w.heap[b]? = some (.cells c e (0, 0))) (hns : ∀ a : Addr, a.block = b → n ≤ a.off → S.cell a = none) (hsz : c'.size = c.size) (hkeep : ∀ m, m < n → c'[m]? = c[m]?)
    (hf : i nl = none) (hne : nl ≠ l) (hr : V (S.ext b n k c') (i.set nl b) r v) (hnk : n ≤ k) : Post S i [(l, .tok n)] w r [(nl, .tok k)] v (w.setRow b c') := by
  have hold : ∀ m, m ≠ b → (w.setRow b c').heap[m]? = w.heap[m]? := fun m hk => setRow_other w b m c' hk
  have hnew := setRow_heap w b c c' e (0, 0) hc
  have hblk : blk i [(l, .tok n)] b := ⟨l, _, List.mem_cons_self, hi⟩
  have hup : S.le (S.ext b n k c') := by
    refine ⟨fun a v ha => ?_, fun b n h => h⟩
    simp only [Seal.ext]
    rw [if_neg]
    · exact ha
    · rintro ⟨h1, h2, h3, _⟩
      rw [hns a h1 h3] at ha; cases ha
  have hset : ∀ l' b', i.set nl b l' = some b' → (i l' = some b' ∨ (l' = nl ∧ b' = b)) := by
    intro l' b' hb
    unfold Emb.set at hb
    split at hb
    · rename_i hk; cases hb; exact .inr ⟨hk, rfl⟩
    · exact .inl hb
  refine ⟨S.ext b n k c', i.set nl b, hr, ⟨fun a v ha => ?_, fun m n' hm => ?_, ?_, ?_, fun l' b' hb => ?_⟩, Emb.set_le hf,
    ⟨hup, by rw [setRow_size]; exact Nat.le_refl _, fun m _ hk => hold m fun hkb => hk (hkb ▸ hblk), fun a v ha => ?_, fun l' b' hb => ?_, ?_, rfl, rfl, rfl⟩, fun l' b' hb => ?_⟩
  · simp only [Seal.ext] at ha
    split at ha
    · rename_i h
      obtain ⟨h1, h2, h3, h4⟩ := h
      unfold World.cell?
      rw [h1, hnew]
      simp [h2, ha]
    · rename_i h
      by_cases hb : a.block = b
      · have hoff : a.off < n := by
          rcases Nat.lt_or_ge a.off n with h | h
          · exact h
          · rw [hns a hb h] at ha; cases ha
        have := hh.cell a v ha
        unfold World.cell? at *
        rw [hb] at *
        rw [hc] at this
        rw [hnew]
        simp only at this ⊢
        rw [hkeep _ hoff]; exact this
      · rw [cell_setRow_other w b c' a hb]; exact hh.cell a v ha
  · by_cases hb : m = b
    · subst hb
      obtain ⟨c0, e0, f0, h0, hs0⟩ := hh.size m n' hm
      rw [hc] at h0
      cases h0
      exact ⟨c', e, (0, 0), hnew, by omega⟩
    · rw [hold m hb]; exact hh.size m n' hm
  · intro l' o' hm
    simp only [List.mem_singleton, Prod.mk.injEq] at hm
    obtain ⟨rfl, rfl⟩ := hm
    refine .inl ⟨b, by simp [Emb.set], c', e, hnew, fun a ha ho => ?_⟩
    simp only [Seal.ext]
    rw [if_neg (by omega)]
    exact hns a ha (by omega)
  · intro l1 o1 l2 o2 b' hm hm' _ _
    simp only [List.mem_singleton, Prod.mk.injEq] at hm hm'
    rw [hm.1, hm'.1]
  · rw [setRow_size]
    rcases hset l' b' hb with hb | ⟨_, hb⟩
    · exact hh.dom l' b' hb
    · rw [hb]; exact hh.dom l b hi
  · simp only [Seal.ext] at ha
    split at ha
    · rename_i h; rw [h.1]; exact .inr (.inl hblk)
    · exact .inl ha
  · rcases hset l' b' hb with hb | ⟨_, hb⟩
    · exact .inl hb
    · rw [hb]; exact .inr (.inl hblk)
  · rintro b' ⟨l', o', hm, hb⟩
    simp only [List.mem_singleton, Prod.mk.injEq] at hm
    rcases hset l' b' hb with hb | ⟨_, hb⟩
    · rw [hm.1, hf] at hb; cases hb
    · rw [hb]; exact .inl hblk
  · rcases hset l' b' hb with hb | ⟨h1, _⟩
    · exact .inl hb
    · exact .inr ⟨by simp [AHeap.keys, h1], by simp [AHeap.keys, h1, hne]⟩
end Go.Proofs.Abs
