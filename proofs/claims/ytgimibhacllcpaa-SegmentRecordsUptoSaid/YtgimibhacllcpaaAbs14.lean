/- Pieces of slices and strings; rows that are asked for; texts of bytes; least and most. -/
import Derived.Test.YtgimibhacllcpaaAbs13
import Derived.IntWalk
namespace Go.Proofs.Abs
open Go
section
variable {P : Program} {args : List (Nat × AV)} {H : AHeap} {o : Oper} {own : Bool} {nl : Nat} {q : Out}

theorem wrap_small {n : Int} (h0 : 0 ≤ n) (h : n ≤ 281474976710656) : IntKind.i64.wrap n = n := by
  rw [IntWalk.i64_left]; exact IntWalk.wrap64_in n (by omega)

theorem rep_at {α : Type} (n : Nat) (l : List α) : ∀ k (h : k < (List.replicate n l).flatten.length), ∃ h2 : k % l.length < l.length, (List.replicate n l).flatten[k] = l[k % l.length] := by
  induction n with
  | zero => intro k h; simp at h
  | succ n ih =>
    intro k h
    have hlen : (List.replicate (n + 1) l).flatten.length = l.length + (List.replicate n l).flatten.length := by simp [List.replicate_succ]
    by_cases hk : k < l.length
    · have hm : k % l.length = k := Nat.mod_eq_of_lt hk
      refine ⟨by omega, ?_⟩
      simp only [hm, List.replicate_succ, List.flatten_cons]
      rw [List.getElem_append_left hk]
    · obtain ⟨h2, h3⟩ := ih (k - l.length) (by omega)
      have hm : k % l.length = (k - l.length) % l.length := by
        rw [Nat.mod_eq_sub_mod (by omega)]
      refine ⟨by rw [hm]; exact h2, ?_⟩
      simp only [List.replicate_succ, List.flatten_cons]
      rw [List.getElem_append_right (by omega), h3]
      simp only [hm]

theorem ok_mksl {t e : TypeId} {l c : Operand} {a b : Arg} {zz : List D} {j : TypeInfo} (hop : o.op = .makeSlice t l c) (hu : und P t = .slice e) (hl : argA l = some a) (hc : argA c = some b)
    (hz : zeroA P e = some zz) (hj : P.info? e = some j) (h : evOp own nl (evA args) H (.mksl a b j.size j.bytes zz) = some q) (hs : q.side) : OpT P (evL args) o q.hin q.r q.hout := by
  have hund := und_some hu (by simp)
  obtain ⟨j', z0, hj', hz0, hcz⟩ := zeroA_inv hz
  rw [hj] at hj'
  cases hj'
  obtain ⟨hzz0, hzat⟩ := constDs_at hcz
  have hzz : zz.length = z0.cells.size := by simpa using hzz0
  simp only [evOp] at h
  split at h <;> first | cases h | skip
  rename_i lk' ln ck cn hln hcn
  have run : ∀ (S : Seal) (i : Emb) (w : World) (ρ : Operand → Value), (∀ x a, evL args x = some a → V S i a (ρ x)) → 0 ≤ ln → ln ≤ cn → cn * j.bytes ≤ 281474976710656 → 0 < j.bytes → zz.length = j.size →
      ∃ C : Array Value, C.size = cn.toNat * j.size ∧ (∀ k (h : k < C.size), ∃ h2 : k % zz.length < z0.cells.size, C[k] = z0.cells[k % zz.length]) ∧
        (execOp ρ o).run P w = .ok (.value (.slice (some ⟨w.heap.size, 0, none⟩) ln.toNat cn.toNat)) (w.alloc (.cells C e)) := by
    intro S i w ρ hev h0 h1 h2 h3 h4
    have hlv := vInt (argV hev hl hln)
    have hcv := vInt (argV hev hc hcn)
    have hb : (1 : Int) ≤ j.bytes := by exact_mod_cast h3
    have hcn1 : cn ≤ cn * j.bytes := by
      have := Int.mul_le_mul_of_nonneg_left hb (by omega : (0 : Int) ≤ cn)
      omega
    have hw1 := wrap_small h0 (by omega : ln ≤ 281474976710656)
    have hw2 := wrap_small (by omega : (0 : Int) ≤ cn) (by omega : cn ≤ 281474976710656)
    have hmc : (j.bytes : Int) * cn ≤ 281474976710656 := by rw [Int.mul_comm]; exact h2
    have hlb : (j.bytes : Int) * ln ≤ (j.bytes : Int) * cn := Int.mul_le_mul_of_nonneg_left h1 (by omega)
    let zc : Array Value := if cn.toNat * j.size = 0 then #[] else z0.cells
    refine ⟨(Array.range (cn.toNat * j.size)).map (fun x => zc[x % zc.size]!), by simp, fun k hk => ?_, ?_⟩
    · have hk' : k < cn.toNat * j.size := by simpa using hk
      have hnz : ¬ cn.toNat * j.size = 0 := by omega
      have hjz : 0 < j.size := by
        rcases Nat.eq_zero_or_pos j.size with h | h
        · rw [h] at hk'; simp at hk'
        · exact h
      have hmod : k % zz.length < z0.cells.size := by rw [← hzz]; exact Nat.mod_lt _ (by omega)
      refine ⟨hmod, ?_⟩
      have hzc : zc = z0.cells := by simp only [zc, if_neg hnz]
      simp only [Array.getElem_map, Array.getElem_range, hzc, ← hzz]
      exact getElem!_pos z0.cells (k % zz.length) hmod
    · simp only [execOp, hop, Instr.makeSlice, Sem.run_bind, run_und hund, Result.andThen_ok, hlv, hcv, asInt, asIntOf, Sem.run_pure, run_typeInfo hj, hw1, hw2]
      rw [if_neg (by simp; omega)]
      simp only [Sem.run_bind, run_askRoom, Result.andThen_ok, run_sizeOf hj]
      by_cases hnz : cn.toNat * j.size = 0
      · rw [if_pos hnz]
        have hzc : zc = #[] := by simp only [zc, if_pos hnz]
        simp only [Sem.run_bind, Sem.run_pure, Result.andThen_ok, newRow, run_newObj, hzc]
        rfl
      · rw [if_neg hnz]
        have hzc : zc = z0.cells := by simp only [zc, if_neg hnz]
        simp only [Sem.run_bind, Sem.run_pure, Result.andThen_ok, newRow, run_newObj, run_zeroValue hj hz0, hzc]
        rfl
  cases own with
  | true =>
    simp only [cond_true] at h
    cases h
    obtain ⟨h0, h1, h2, h3, h4⟩ := hs
    refine ⟨by simp [hop], fun S i w ρ hev hh hf => ?_⟩
    obtain ⟨C, hC1, hC2, hC3⟩ := run S i w ρ hev h0 h1 h2 h3 h4
    rw [hC3]
    refine post_own hh (newblk_alloc w C e) (hf nl (by simp [AHeap.keys]) (by simp [AHeap.keys])) (by simp [hC1, h4]) (fun m m1 m2 => ?_) (.sl (by simp [Emb.set]))
    obtain ⟨q1, q2⟩ := rep_at cn.toNat (zz.map zAV) m m1
    obtain ⟨q3, q4⟩ := hC2 m m2
    rw [q2, q4]
    simp only [List.length_map] at q1 ⊢
    simp only [List.getElem_map]
    have := zAV_ok (S := S) (i := i) (hzat (m % zz.length) q1 (by simpa using q3))
    simpa using this
  | false =>
    simp only [cond_false] at h
    cases h
    obtain ⟨h0, h1, h2, h3, h4, h5⟩ := hs
    refine ⟨by simp [hop], fun S i w ρ hev hh hf => ?_⟩
    obtain ⟨C, hC1, hC2, hC3⟩ := run S i w ρ hev h0 h1 h2 h3 h4
    rw [hC3]
    obtain ⟨g1, g2, g3⟩ := constDs_ok (S := S) hcz
    -- the cells of an element
    have hzc : (zElem zz).cells = zz := by
      unfold zElem
      split
      · rename_i x
        have := g2 x List.mem_cons_self
        cases x <;> first | rfl | (simp [D.isAgg] at this; done)
      · rfl
    have hz' : ∀ d ∈ List.replicate ln.toNat (zElem zz), d.cells.length = j.size := by
      intro d hd
      rw [(List.mem_replicate.1 hd).2, hzc, h4]
    have hle : ln.toNat * j.size ≤ cn.toNat * j.size := Nat.mul_le_mul_right _ (by omega)
    have hfe : flat (List.replicate ln.toNat (zElem zz)) = (List.replicate ln.toNat zz).flatten := by
      unfold flat
      rw [List.flatMap_def, List.map_replicate, hzc]
    have hCl : (C.toList.take (ln.toNat * j.size)).length = ln.toNat * j.size := by rw [List.length_take, Array.length_toList, hC1]; exact Nat.min_eq_left hle
    refine post_seal (k := ln.toNat * j.size) hh (newblk_alloc w C e) (.d ?_)
    have := dv_new (S := S) (i := i) (H := []) (w := w) (xs := List.replicate ln.toNat (zElem zz)) (cap := cn.toNat) (c := C) (cs := C.toList.take (ln.toNat * j.size)) hh hz' (fun d hd => ?_) (by rw [hCl]; simp)
      (fun m hm => by
        have : m < ln.toNat * j.size := by rw [hCl] at hm; exact hm
        have h3 : m < C.size := by omega
        simp [h3]) (fun m m1 m2 => ?_) (by simp; omega)
    · simpa using this
    · rw [hfe] at hd
      obtain ⟨l', hl', hd'⟩ := List.mem_flatten.1 hd
      rw [(List.mem_replicate.1 hl').2] at hd'
      exact g2 d hd'
    · have m3 : m < ((List.replicate ln.toNat zz).flatten).length := by rw [← hfe]; exact m1
      obtain ⟨q1, q2⟩ := rep_at ln.toNat zz m m3
      have m4 : m < C.size := by rw [hCl] at m2; omega
      obtain ⟨q3, q4⟩ := hC2 m m4
      have e1 : (flat (List.replicate ln.toNat (zElem zz)))[m] = zz[m % zz.length] := by
        simp only [hfe]; exact q2
      have e2 : (C.toList.take (ln.toNat * j.size))[m] = z0.cells[m % zz.length] := by
        rw [List.getElem_take]; simpa using q4
      rw [e1, e2]
      have := g3 (m % zz.length) q1 (by simpa using q3)
      simpa using this

/-- an optional bound -/
theorem oInt_ok {S : Seal} {i : Emb} {ρ : Operand → Value} (hev : ∀ x a, evL args x = some a → V S i a (ρ x)) {d n : Int} {oa : Option Arg} {ox : Option Operand} (ho : oargA ox = some oa) (h : oInt (evA args) d oa = some n) :
    (ox = none ∧ n = d) ∨ ∃ x k, ox = some x ∧ ρ x = .int k n := by
  cases ox with
  | none =>
    cases ho
    cases h
    exact .inl ⟨rfl, rfl⟩
  | some x =>
    simp only [oargA, Option.map_eq_some_iff] at ho
    obtain ⟨a, ha, rfl⟩ := ho
    simp only [oInt] at h
    split at h <;> first | cases h | skip
    rename_i k hk
    exact .inr ⟨x, k, rfl, vInt (argV hev ha hk)⟩

theorem run_sliceBound {w : World} {k : IntKind} {n : Int} {y : Nat} {code : BoundsCode} (h0 : 0 ≤ n) (h1 : n ≤ y) : (Instr.sliceBound (.int k n) y code).run P w = .ok n.toNat w := by
  simp only [Instr.sliceBound, asIntOf, Sem.run_bind, Sem.run_pure, Result.andThen_ok, if_pos (⟨h0, h1⟩ : 0 ≤ n ∧ n ≤ (y : Int))]

theorem run_sliceBounds {w : World} {isS : Bool} {len cap : Nat} {lo hi : Option Value} {l h : Int} (hl : (lo = none ∧ l = 0) ∨ ∃ k, lo = some (.int k l)) (hh : (hi = none ∧ h = len) ∨ ∃ k, hi = some (.int k h))
    (h0 : 0 ≤ l) (h1 : l ≤ h) (h2 : h ≤ cap) : (Instr.sliceBounds isS len cap lo hi none).run P w = .ok (l.toNat, h.toNat, cap) w := by
  have hhn : ((h.toNat : Nat) : Int) = h := Int.toNat_of_nonneg (by omega)
  rcases hh with ⟨rfl, rfl⟩ | ⟨k, rfl⟩
  · rcases hl with ⟨rfl, rfl⟩ | ⟨k', rfl⟩
    · simp [Instr.sliceBounds]
    · simp only [Instr.sliceBounds, Sem.run_bind, Sem.run_pure, Result.andThen_ok, run_sliceBound h0 h1, Int.toNat_natCast]
  · rcases hl with ⟨rfl, rfl⟩ | ⟨k', rfl⟩
    · simp only [Instr.sliceBounds, Sem.run_bind, Sem.run_pure, Result.andThen_ok, run_sliceBound (by omega) h2, Int.toNat_zero]
    · simp only [Instr.sliceBounds, Sem.run_bind, Sem.run_pure, Result.andThen_ok, run_sliceBound (by omega : 0 ≤ h) h2, run_sliceBound h0 (by rw [hhn]; exact h1)]

theorem ok_ssl {t : TypeId} {x : Operand} {lo hi : Option Operand} {a : Arg} {la ha : Option Arg} (hop : o.op = .slice t x lo hi none) (hx : argA x = some a) (hlo : oargA lo = some la) (hhi : oargA hi = some ha)
    (hu : und P t = .string) (h : evOp own nl (evA args) H (.ssl a la ha) = some q) (hs : q.side) : OpT P (evL args) o q.hin q.r q.hout := by
  have hund := und_some hu (by simp)
  simp only [evOp] at h
  split at h <;> first | cases h | skip
  rename_i s l hax hl
  simp only [Option.bind_eq_some_iff, out] at h
  obtain ⟨hv, hh, h⟩ := h
  cases h
  obtain ⟨h0, h1, h2⟩ := hs
  refine .pure (by simp [hop]) fun S i w ρ hev _ => ⟨_, ?_, .d .str⟩
  have hsv := vStr (argV hev hx hax)
  have hsz : (⟨s.toArray⟩ : ByteArray).size = s.length := by simp [ByteArray.size]
  have b1 : (lo.map ρ = none ∧ l = 0) ∨ ∃ k, lo.map ρ = some (.int k l) := by
    rcases oInt_ok hev hlo hl with ⟨rfl, hl⟩ | ⟨x, k, rfl, hxk⟩
    · exact .inl ⟨rfl, hl⟩
    · exact .inr ⟨k, by simp [hxk]⟩
  have b2 : (hi.map ρ = none ∧ hv = (⟨s.toArray⟩ : ByteArray).size) ∨ ∃ k, hi.map ρ = some (.int k hv) := by
    rcases oInt_ok hev hhi hh with ⟨rfl, hl⟩ | ⟨x, k, rfl, hxk⟩
    · exact .inl ⟨rfl, by rw [hsz]; exact hl⟩
    · exact .inr ⟨k, by simp [hxk]⟩
  have hb := run_sliceBounds (P := P) (w := w) (isS := false) (cap := (⟨s.toArray⟩ : ByteArray).size) b1 b2 h0 h1 (by rw [hsz]; exact h2)
  have hx2 : (⟨s.toArray⟩ : ByteArray).extract l.toNat hv.toNat = ⟨((s.take hv.toNat).drop l.toNat).toArray⟩ := by
    apply ByteArray.ext
    simp [List.extract_eq_take_drop, List.drop_take]
  simp only [execOp, hop, Instr.sliceAt, Sem.run_bind, run_und hund, Result.andThen_ok, hsv, Instr.slice, Option.map_none, Option.isSome_none, Bool.false_eq_true, if_false, hb, Sem.run_pure, hx2]

theorem flat_take {l : List D} {z n : Nat} (hz : ∀ d ∈ l, d.cells.length = z) (hn : n ≤ l.length) : flat l = flat (l.take n) ++ flat (l.drop n) ∧ (flat (l.take n)).length = n * z := by
  refine ⟨by rw [← flat_append, List.take_append_drop], ?_⟩
  rw [flat_len fun d hd => hz d (List.mem_of_mem_take hd)]
  simp [Nat.min_eq_left hn]

theorem ok_slc {t e : TypeId} {x : Operand} {lo hi : Option Operand} {a : Arg} {la ha : Option Arg} {j : TypeInfo} (hop : o.op = .slice t x lo hi none) (hx : argA x = some a) (hlo : oargA lo = some la)
    (hhi : oargA hi = some ha) (hu : und P t = .slice e) (hj : P.info? e = some j) (h : evOp own nl (evA args) H (.slc a la ha none j.size) = some q) (hs : q.side) :
    OpT P (evL args) o q.hin q.r q.hout := by
  have hund := und_some hu (by simp)
  have run : ∀ (w : World) (ρ : Operand → Value) (base : Option Addr) (len cap : Nat) (l h : Int), ρ x = .slice base len cap → ((lo.map ρ = none ∧ l = 0) ∨ ∃ k, lo.map ρ = some (.int k l)) →
      ((hi.map ρ = none ∧ h = len) ∨ ∃ k, hi.map ρ = some (.int k h)) → 0 ≤ l → l ≤ h → h ≤ cap →
      (execOp ρ o).run P w = .ok (.value (.slice (if cap = l.toNat then base else base.map (·.add (l.toNat * j.size))) (h.toNat - l.toNat) (cap - l.toNat))) w := by
    intro w ρ base len cap l h hxv b1 b2 h0 h1 h2
    have hb := run_sliceBounds (P := P) (w := w) (isS := true) b1 b2 h0 h1 h2
    simp only [execOp, hop, Instr.sliceAt, Sem.run_bind, run_und hund, Result.andThen_ok, hxv, Instr.slice, Option.map_none, hb, run_sizeOf hj, Sem.run_pure]
  have bounds : ∀ {S : Seal} {i : Emb} {ρ : Operand → Value}, (∀ x a, evL args x = some a → V S i a (ρ x)) → ∀ {d n : Int} {oa : Option Arg} {ox : Option Operand}, oargA ox = some oa → oInt (evA args) d oa = some n →
      (ox.map ρ = none ∧ n = d) ∨ ∃ k, ox.map ρ = some (.int k n) := by
    intro S i ρ hev d n oa ox ho hn
    rcases oInt_ok hev ho hn with ⟨rfl, hl⟩ | ⟨x, k, rfl, hxk⟩
    · exact .inl ⟨rfl, hl⟩
    · exact .inr ⟨k, by simp [hxk]⟩
  have key : ∀ (y : AV) (ys : List D) (l hv : Int), evA args a = some y → toSl y = some ys → oInt (evA args) 0 la = some l → oInt (evA args) ys.length ha = some hv →
      (0 ≤ l ∧ l ≤ hv ∧ hv ≤ ys.length ∧ ∀ d ∈ ys, d.cells.length = j.size) → OpT P (evL args) o [] (.d (.sl ((ys.take hv.toNat).drop l.toNat))) [] := by
    intro y ys l hv hax hys hl hh hs
    obtain ⟨h0, h1, h2, hz1⟩ := hs
    refine .pure (by simp [hop]) fun S i w ρ hev _ => ?_
    have hd := toSl_ok hys (argV hev hx hax)
    rcases dSlice hd with ⟨rfl, hxv⟩ | ⟨bl, off, cap, z₀, f, hxv, _, hg, hc, hsl, hall⟩ | ⟨rfl, a0, hxv⟩
    case inr.inr =>
      simp only [List.length_nil] at h2
      have e1 : l = 0 := by omega
      have e2 : hv = 0 := by simp at h2; omega
      subst e1 e2
      refine ⟨_, run w ρ _ _ _ 0 0 hxv (bounds hev hlo hl) (bounds hev hhi hh) h0 h1 (by simp), ?_⟩
      simpa using V.d (i := i) (DV.emp (S := S) (a := a0))
    · simp only [List.length_nil] at h2
      have e1 : l = 0 := by omega
      have e2 : hv = 0 := by simp at h2; omega
      subst e1 e2
      refine ⟨_, run w ρ _ _ _ 0 0 hxv (bounds hev hlo hl) (bounds hev hhi hh) h0 h1 (by simp), ?_⟩
      simpa using V.d (i := i) (DV.nilsl (S := S))
    · obtain ⟨z, hzz, hz⟩ : ∃ z, z = j.size ∧ ∀ d ∈ ys, d.cells.length = z := ⟨_, rfl, hz1⟩
      refine ⟨_, run w ρ _ _ _ l hv hxv (bounds hev hlo hl) (bounds hev hhi hh) h0 h1 (by omega), .d ?_⟩
      have hlen : ((ys.take hv.toNat).drop l.toNat).length = hv.toNat - l.toNat := by simp; omega
      have hz' : ∀ d ∈ (ys.take hv.toNat).drop l.toNat, d.cells.length = z := fun d hd => hz d (List.mem_of_mem_take (List.mem_of_mem_drop hd))
      -- the piece's cells are the slice's
      obtain ⟨q1, q2⟩ := flat_take hz (n := hv.toNat) (by omega)
      obtain ⟨q3, q4⟩ := flat_take (l := ys.take hv.toNat) (fun d hd => hz d (List.mem_of_mem_take hd)) (n := l.toNat) (by simp; omega)
      have hcell : ∀ m (hm : m < (flat ((ys.take hv.toNat).drop l.toNat)).length), ∃ h : l.toNat * z + m < (flat ys).length, (flat ((ys.take hv.toNat).drop l.toNat))[m] = (flat ys)[l.toNat * z + m] := by
        intro m hm
        have e : flat ys = (flat ((ys.take hv.toNat).take l.toNat) ++ flat ((ys.take hv.toNat).drop l.toNat)) ++ flat (ys.drop hv.toNat) := by rw [← q3, ← q1]
        refine ⟨by rw [e]; simp only [List.length_append, q4]; omega, ?_⟩
        simp only [e]
        rw [List.getElem_append_left (by simp only [List.length_append, q4]; omega), List.getElem_append_right (by omega)]
        simp only [q4]
        congr 1
        omega
      by_cases hcap : cap = l.toNat
      · have e0 : (ys.take hv.toNat).drop l.toNat = [] := by
          apply List.eq_nil_of_length_eq_zero; omega
        have e3 : hv.toNat - l.toNat = 0 := by omega
        rw [if_pos hcap, e0, e3]
        have := DV.sl (S := S) (l := []) (z := z) (b := bl) (o := off) (cap := cap - l.toNat) f (by simp) (by simp [flat]) (by simp) (by simp [flat]) (by simp [flat])
        simpa using this
      · rw [if_neg hcap]
        simp only [Option.map_some, addr_add]
        have := DV.sl (S := S) (l := (ys.take hv.toNat).drop l.toNat) (z := z) (b := bl) (o := off + l.toNat * z) (cap := cap - l.toNat) (fun m => f (l.toNat * z + m)) hz'
          (fun c hc => by
            obtain ⟨d, hd, hdc⟩ := List.mem_flatMap.1 hc
            exact hg c (List.mem_flatMap.2 ⟨d, List.mem_of_mem_take (List.mem_of_mem_drop hd), hdc⟩)) (by omega)
          (fun m hm => by
            obtain ⟨h, _⟩ := hcell m hm
            rw [Nat.add_assoc]
            exact hsl _ h)
          (fun m hm => by
            obtain ⟨h, he⟩ := hcell m hm
            rw [he]
            exact hall _ h)
        rw [hlen] at this
        rw [← hzz]; exact this
  simp only [evOp] at h
  split at h <;> first | cases h | skip
  · rename_i b off len cap z' l hax hl
    cases hzb : Nat.beq j.size z' <;> rw [hzb] at h <;> try cases h
    simp only [cond_true, Option.bind_eq_some_iff, out] at h
    obtain ⟨hv, hh, h⟩ := h
    cases h
    obtain ⟨h0, h1, h2, h3⟩ := hs
    refine .pure (by simp [hop]) fun S i w ρ hev _ => ?_
    have hvx := argV hev hx hax
    generalize hxv : ρ x = u at hvx
    cases hvx with
    | sl hi' =>
      rename_i bb
      refine ⟨_, run w ρ _ _ _ l hv hxv (bounds hev hlo hl) (bounds hev hhi hh) h0 h1 h2, ?_⟩
      by_cases hc : cap = l.toNat
      · rw [if_pos hc]
        have : l = 0 := by omega
        subst this
        simpa using V.sl (S := S) hi'
      · rw [if_neg hc]
        simp only [Option.map_some, addr_add]
        exact .sl hi'
  · rename_i xs n l hax hl
    split at h
    · simp only [Option.bind_eq_some_iff, out] at h
      obtain ⟨hv, hh, h⟩ := h
      cases h
      obtain ⟨h1, h2⟩ := hs
      cases hl
      refine .pure (by simp [hop]) fun S i w ρ hev _ => ?_
      have hvx := argV hev hx hax
      generalize hxv : ρ x = u at hvx
      cases hvx with
      | win hd hn =>
        refine ⟨_, run w ρ _ _ _ 0 hv hxv (bounds hev hlo rfl) (bounds hev hhi hh) (by omega) h1 h2, ?_⟩
        by_cases hc : xs.length = 0
        · rw [if_pos (by simpa using hc)]
          have := V.win (S := S) (i := i) (n := hv.toNat) hd (by omega)
          simpa using this
        · rw [if_neg (by simpa using hc)]
          have := V.win (S := S) (i := i) (n := hv.toNat) hd (by omega)
          simpa [Addr.add] using this
    · simp only [Option.bind_eq_some_iff, out] at h
      obtain ⟨hv, hh, h⟩ := h
      cases h
      exact key _ _ l hv hax rfl hl hh hs
  · rename_i y l _ _ hax hl
    simp only [Option.bind_eq_some_iff, out] at h
    obtain ⟨ys, hys, hv, hh, h⟩ := h
    cases h
    exact key _ _ l hv hax hys hl hh hs
end
end Go.Proofs.Abs
