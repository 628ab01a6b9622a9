/- The rest of the operations. -/
import Derived.Test.YtgimibhacllcpaaAbs11
import Derived.Lib.ConvBytes
import Derived.Lib.SlBytesConst
import Derived.Laws.BytesArg
namespace Go.Proofs.Abs
open Go
section
variable {P : Program} {args : List (Nat × AV)} {H : AHeap} {o : Oper} {own : Bool} {nl : Nat} {q : Out}

theorem DV.plain {S : Seal} {d : D} {v : Value} (h : DV S d v) : ∀ c ∈ d.cells, c.isAgg = false := by
  intro c hc
  cases h with
  | agg hl hs _ => exact hs c hc
  | _ => simp [D.cells] at hc; subst hc; rfl

theorem flat_at {l : List D} {z : Nat} (hz : ∀ d ∈ l, d.cells.length = z) : ∀ {n m : Nat} (hn : n < l.length) (_ : m < z), ∃ h1 : n * z + m < (flat l).length, ∃ h2 : m < l[n].cells.length, (flat l)[n * z + m] = l[n].cells[m] := by
  induction l with
  | nil => intro n m hn; simp at hn
  | cons x r ih =>
    intro n m hn hm
    have hx := hz x List.mem_cons_self
    have hr : ∀ {n m : Nat} (hn : n < r.length) (_ : m < z), ∃ h1 : n * z + m < (flat r).length, ∃ h2 : m < r[n].cells.length, (flat r)[n * z + m] = r[n].cells[m] :=
      fun hn hm => ih (fun d hd => hz d (List.mem_cons_of_mem _ hd)) hn hm
    have hfl : flat (x :: r) = x.cells ++ flat r := rfl
    cases n with
    | zero =>
      refine ⟨by rw [hfl, List.length_append]; omega, by simp; omega, ?_⟩
      simp only [hfl, Nat.zero_mul, Nat.zero_add, List.getElem_cons_zero]
      rw [List.getElem_append_left (by omega)]
    | succ n =>
      obtain ⟨h1, h2, h3⟩ := hr (n := n) (m := m) (by simpa using hn) hm
      refine ⟨by rw [hfl, List.length_append, Nat.succ_mul]; omega, by simpa using h2, ?_⟩
      simp only [hfl, List.getElem_cons_succ]
      rw [List.getElem_append_right (by rw [Nat.succ_mul]; omega)]
      have : (n + 1) * z + m - x.cells.length = n * z + m := by rw [Nat.succ_mul]; omega
      simp only [this]
      exact h3

theorem ok_iaddr {t e : TypeId} {x k : Operand} {a b : Arg} {j : TypeInfo} (hop : o.op = .indexAddr t x k) (hx : argA x = some a) (hk : argA k = some b) (hu : und P t = .slice e) (hj : P.info? e = some j)
    (h : evOp own nl (evA args) H (.iaddr a b j.size) = some q) (hs : q.side) : OpT P (evL args) o q.hin q.r q.hout := by
  have hund := und_some hu (by simp)
  have hrun : ∀ (ρ : Operand → Value) (w : World) bl off len cap kk n, ρ x = .slice (some ⟨bl, off, none⟩) len cap → ρ k = .int kk n → 0 ≤ n → n < (len : Int) →
      (execOp ρ o).run P w = .ok (.value (.pointer (some ⟨bl, off + n.toNat * j.size, none⟩))) w := by
    intro ρ w bl off len cap kk n h1 h2 h3 h4
    simp only [execOp, hop, Instr.indexAt, h1, h2, asIntOf, Sem.run_bind, Sem.run_pure, Result.andThen_ok, run_und hund]
    rw [if_pos ⟨h3, h4⟩]
    simp only [Sem.run_bind, run_sizeOf hj, Result.andThen_ok, Sem.run_pure, addr_add]
  simp only [evOp] at h
  split at h
  · rename_i l off len cap z' kk n hax hbn
    cases hzb : Nat.beq j.size z' <;> rw [hzb] at h <;> try cases h
    obtain ⟨h1, h2⟩ := hs
    refine .pure (by simp [hop]) fun S i w ρ hev hh => ?_
    have hv := argV hev hx hax
    have hn := vInt (argV hev hk hbn)
    generalize hux : ρ x = u at hv
    cases hv with
    | sl hi => exact ⟨_, hrun ρ w _ _ _ _ _ _ hux hn h1 h2, .ptr hi⟩
  · rename_i y kk n hne hax hbn
    simp only [Option.bind_eq_some_iff, out] at h
    obtain ⟨l, hl, h⟩ := h
    cases h
    obtain ⟨h1, h2, h3⟩ := hs
    refine .pure (by simp [hop]) fun S i w ρ hev hh => ?_
    have hd := toSl_ok hl (argV hev hx hax)
    have hn := vInt (argV hev hk hbn)
    rcases dSlice hd with ⟨rfl, _⟩ | ⟨bl, off, cap, z, f, hv, hz, hg, hc, hsl, hall⟩ | ⟨rfl, _⟩
    case inr.inr => simp at h2; omega
    · simp at h2; omega
    · have hlt : n.toNat < l.length := by omega
      have hat : at' l n.toNat = l[n.toNat] := by simp [at', List.getD, hlt]
      have hzz : z = j.size := by rw [← h3, hat]; exact (hz _ (List.getElem_mem hlt)).symm
      subst hzz
      refine ⟨_, hrun ρ w _ _ _ _ _ _ hv hn h1 (by omega), ?_⟩
      rw [hat]
      rw [hat] at h3
      have := V.cp (S := S) (i := i) (x := l[n.toNat]) (b := bl) (o := off + n.toNat * j.size) (off := 0) (fun m => f (n.toNat * j.size + m)) (fun c hc => hg c (List.mem_flatMap.2 ⟨_, List.getElem_mem hlt, hc⟩))
        (fun m hm => by
          obtain ⟨q1, q2, q3⟩ := flat_at hz hlt (m := m) (by omega)
          rw [Nat.add_assoc]
          exact hsl _ q1)
        (fun m hm => by
          obtain ⟨q1, q2, q3⟩ := flat_at hz hlt (m := m) (by omega)
          rw [← q3]
          exact hall _ q1)
      simpa using this
  · cases h

theorem ok_idx {t : TypeId} {x k : Operand} {a b : Arg} (hop : o.op = .index t x k) (hx : argA x = some a) (hk : argA k = some b) (hu : und P t = .string)
    (h : evOp own nl (evA args) H (.idx a b) = some q) (hs : q.side) : OpT P (evL args) o q.hin q.r q.hout := by
  have hund := und_some hu (by simp)
  simp only [evOp] at h
  split at h <;> first | cases h | skip
  rename_i s kk n hax hbn
  obtain ⟨h1, h2⟩ := hs
  refine .pure (by simp [hop]) fun S i w ρ hev hh => ⟨_, ?_, .d .int⟩
  have hv := vStr (argV hev hx hax)
  have hn := vInt (argV hev hk hbn)
  have hlt : n.toNat < s.length := by omega
  have hq : (⟨s.toArray⟩ : ByteArray)[n.toNat]? = some (s.getD n.toNat 0) := by
    have h3 : n.toNat < (⟨s.toArray⟩ : ByteArray).size := by simpa [ByteArray.size] using hlt
    rw [getElem?_pos (⟨s.toArray⟩ : ByteArray) n.toNat h3]
    simp [List.getD, hlt, ByteArray.getElem_eq_getElem_data]
  simp only [execOp, hop, Instr.index, hv, hn, asIntOf, Sem.run_bind, Sem.run_pure, Result.andThen_ok, run_und hund, if_pos h1, hq]

theorem ok_fld {s : TypeId} {x : Operand} {f : Nat} {a : Arg} {fs : Array Field} {fd : Field} {j : TypeInfo} {d : TypeDesc} (hop : o.op = .field s x f) (hx : argA x = some a) (hu : und P s = .struct fs) (hfd : fs[f]? = some fd)
    (hj : P.info? fd.type = some j) (hd : P.underlying fd.type = some d) (h : evOp own nl (evA args) H (.fld a fd.offset j.size (isAggD d)) = some q) (hs : q.side) : OpT P (evL args) o q.hin q.r q.hout := by
  have hund := und_some hu (by simp)
  simp only [evOp] at h
  split at h <;> first | cases h | skip
  rename_i cs hcs
  have base : ∀ (S : Seal) (i : Emb) (w : World) (ρ : Operand → Value), (∀ x a, evL args x = some a → V S i a (ρ x)) → ∃ vs : List Value, cs.length = vs.length ∧ (∀ d ∈ cs, d.isAgg = false) ∧
      (∀ i (h1 : i < cs.length) (h2 : i < vs.length), DV S cs[i] vs[i]) ∧ (execOp ρ o).run P w = ((part fd.type vs.toArray fd.offset).run P w).andThen fun v w' => .ok (.value v) w' := by
    intro S i w ρ hev
    obtain ⟨vs, hv, h1, h2, h3⟩ := dAgg_cells (vD (argV hev hx hcs))
    refine ⟨vs, h1, h2, h3, ?_⟩
    simp only [execOp, hop, Instr.field, Sem.run_bind, run_und hund, Result.andThen_ok, hfd, hv, asAgg, Sem.run_pure]
  cases hg : isAggD d with
  | true =>
    rw [hg] at h
    cases h
    have hle : fd.offset + j.size ≤ cs.length := hs
    refine .pure (by simp [hop]) fun S i w ρ hev hh => ?_
    obtain ⟨vs, h1, h2, h3, h4⟩ := base S i w ρ hev
    refine ⟨.agg ((vs.drop fd.offset).take j.size).toArray, ?_, .d (.agg (by simp; omega) (fun d hd => h2 d (List.mem_of_mem_drop (List.mem_of_mem_take hd))) fun k k1 k2 => ?_)⟩
    · rw [h4]
      simp only [part, Sem.run_bind, run_isAgg hd, hg, if_true, run_sizeOf hj, Result.andThen_ok, Sem.run_pure]
      congr 3
      simp only [List.extract_toArray, List.extract_eq_take_drop]
      congr 2
      omega
    · have := h3 (fd.offset + k) (by simp at k1; omega) (by simp at k2; omega)
      simpa using this
  | false =>
    rw [hg] at h
    simp only [cond_false] at h
    split at h <;> first | cases h | skip
    rename_i c rest hdrop
    have hlt : fd.offset < cs.length := by
      rcases Nat.lt_or_ge fd.offset cs.length with h | h
      · exact h
      · rw [List.drop_eq_nil_of_le h] at hdrop; cases hdrop
    have hc : cs[fd.offset] = c := by
      rw [List.drop_eq_getElem_cons hlt] at hdrop
      injection hdrop
    refine .pure (by simp [hop]) fun S i w ρ hev hh => ?_
    obtain ⟨vs, h1, h2, h3, h4⟩ := base S i w ρ hev
    have hlt' : fd.offset < vs.length := by omega
    refine ⟨vs[fd.offset], ?_, .d (hc ▸ h3 _ hlt hlt')⟩
    rw [h4]
    simp [part, run_isAgg hd, hg, hlt']

theorem ok_mkfn {f : FuncId} {caps : Array Operand} {l : List Arg} {first : Array Operand} (hop : o.op = .makeFunc (.func f) first caps) (hfirst : first.size = 0) (hl : argsA caps.toList = some l)
    (h : evOp own nl (evA args) H (.mkfn f l) = some q) : OpT P (evL args) o q.hin q.r q.hout := by
  have all : ∀ {l : List Arg} {os : List Operand} {vs : List AV}, argsA os = some l → allAV (evA args) l = some vs → os.length = vs.length ∧ ∀ {S : Seal} {i : Emb} {ρ : Operand → Value},
      (∀ x a, evL args x = some a → V S i a (ρ x)) → ∀ k (h1 : k < vs.length) (h2 : k < os.length), V S i vs[k] (ρ os[k]) := by
    intro l
    induction l with
    | nil =>
      intro os vs h1 h2
      cases h2
      have := (argsA_all h1).1
      cases os <;> simp at this
      exact ⟨rfl, fun _ k h1 => by simp at h1⟩
    | cons a r ih =>
      intro os vs h1 h2
      simp only [allAV] at h2
      split at h2 <;> first | cases h2 | skip
      rename_i x l' hx hl'
      cases os with
      | nil => cases h1
      | cons y ys =>
        simp only [argsA] at h1
        split at h1 <;> first | cases h1 | skip
        rename_i hy hys
        obtain ⟨k1, k2⟩ := ih hys hl'
        refine ⟨by simp [k1], fun hev k h1 h2 => ?_⟩
        cases k with
        | zero => exact argV hev hy hx
        | succ k => exact k2 hev k (by simpa using h1) (by simpa using h2)
  have hf0 : first = #[] := by
    apply Array.eq_empty_of_size_eq_zero hfirst
  simp only [evOp] at h
  split at h <;> first | cases h | skip
  · rename_i hvs
    obtain ⟨h1, h2⟩ := all hl hvs
    refine .pure (by simp [hop]) fun S i w ρ hev hh => ⟨.func (.func f) #[] #[], ?_, .d .fn⟩
    have : caps = #[] := by
      apply Array.eq_empty_of_size_eq_zero; simpa using h1
    simp [execOp, hop, Instr.makeFunc, hf0, this]
  · rename_i vs hvs
    obtain ⟨h1, h2⟩ := all hl hvs
    refine .pure (by simp [hop]) fun S i w ρ hev hh => ⟨.func (.func f) #[] (caps.toList.map ρ).toArray, ?_, .fn (by simpa using h1.symm) fun k k1 k2 => ?_⟩
    · simp only [execOp, hop, Instr.makeFunc, hf0]
      have : Array.map ρ caps = (List.map ρ caps.toList).toArray := by apply Array.ext'; simp
      simp [this]
    · have := h2 hev k k1 (by simpa using k2)
      simpa using this

theorem ok_cvi {s d : TypeId} {x : Operand} {a : Arg} {k k0 : IntKind} (hop : o.op = .convert s d x) (hx : argA x = some a) (hs : und P s = .int k0) (hd : und P d = .int k)
    (h : evOp own nl (evA args) H (.cvi k a) = some q) : OpT P (evL args) o q.hin q.r q.hout := by
  have h1 := und_some hs (by simp)
  have h2 := und_some hd (by simp)
  simp only [evOp] at h
  split at h <;> first | cases h | skip
  rename_i k' n hn
  refine .pure (by simp [hop]) fun S i w ρ hev hh => ⟨_, ?_, .d .int⟩
  have hv := vInt (argV hev hx hn)
  simp only [execOp, hop, hv, convert, Sem.run_bind, run_und h1, run_und h2, Result.andThen_ok, Conv.intToInt]
  rfl

theorem ok_s2bs {s d e : TypeId} {x : Operand} {a : Arg} (hop : o.op = .convert s d x) (hx : argA x = some a) (hs : und P s = .string) (hd : und P d = .slice e) (he : und P e = .int .u8)
    (h : evOp own nl (evA args) H (.s2bs a) = some q) : OpT P (evL args) o q.hin q.r q.hout := by
  have h1 := und_some hs (by simp)
  have h2 := und_some hd (by simp)
  have h3 := und_some he (by simp)
  simp only [evOp] at h
  split at h <;> first | cases h | skip
  rename_i s' hn
  refine ⟨by simp [hop], fun S i w ρ hev hh _ => ?_⟩
  have hv := vStr (argV hev hx hn)
  simp only [execOp, hop, hv, Sem.run_bind, Lib.run_convert_string_bytes w s d e _ h1 h2 h3, Result.andThen_ok, Sem.run_pure, Ends]
  have hnb : NewBlk w (Lib.bytesWorld w e ⟨s'.toArray⟩) (Lib.bytesCells w e ⟨s'.toArray⟩) e _ :=
    ⟨Lib.bytesWorld_size w e _, fun b hb => Lib.bytesWorld_at_old w e _ b hb, Lib.bytesWorld_at_new w e _, by simp [Lib.bytesWorld, World.freeze, World.alloc, World.drew, -World.alloc_eq, -World.drew_eq], by simp [Lib.bytesWorld, World.freeze, World.alloc, World.drew, -World.alloc_eq, -World.drew_eq],
      by simp [Lib.bytesWorld, World.freeze, World.alloc, World.drew, -World.alloc_eq, -World.drew_eq]⟩
  have hsz : (⟨s'.toArray⟩ : ByteArray).size = s'.length := by simp [ByteArray.size]
  have hcap := grownCap_ge w s'.length 0 e
  refine post_seal (k := s'.length) hh hnb (.d ?_)
  have := dv_new (S := S) (i := i) (H := []) (w := w) (xs := s'.map byteD) (z := 1) (cap := grownCap w s'.length 0 e) (c := Lib.bytesCells w e ⟨s'.toArray⟩) (cs := s'.map fun b => .int .u8 b.toNat) hh
    (by intro d hd; simp at hd; obtain ⟨b, _, rfl⟩ := hd; rfl) (by rw [flat_bytes]; intro d hd; simp at hd; obtain ⟨b, _, rfl⟩ := hd; rfl) (by simp) (fun m hm => ?_) (fun m h1 h2 => ?_) (by simpa using hcap)
  · simp only [List.length_map, Nat.mul_one] at this
    rw [hsz]
    exact this
  · have hm' : m < s'.length := by simpa using hm
    have hm2 : m < (Array.map (fun b : UInt8 => Value.int .u8 (b.toNat : Int)) s'.toArray).size := by simpa using hm'
    simp only [Lib.bytesCells]
    rw [Array.getElem?_append_left hm2]
    simp [hm']
  · have : ∀ (k : Nat) (hk : k < (flat (s'.map byteD)).length), (flat (s'.map byteD))[k] = (s'.map byteD)[k]'(by rw [flat_bytes] at hk; exact hk) := by
      intro k hk
      simp only [flat_bytes]
    rw [this]
    simp only [List.getElem_map]
    exact .int

/-- parts one behind the other fill a row -/
theorem fold_set : ∀ (v : List Value) (k off : Nat) (cells : Array Value), off + k + v.length ≤ cells.size →
    ((v.zipIdx k).foldl (fun cs (x : Value × Nat) => cs.setIfInBounds (off + x.2) x.1) cells).size = cells.size ∧
    ∀ t, ((v.zipIdx k).foldl (fun cs (x : Value × Nat) => cs.setIfInBounds (off + x.2) x.1) cells)[t]? = if off + k ≤ t ∧ t < off + k + v.length then v[t - (off + k)]? else cells[t]?
  | [], k, off, cells, h => by
    refine ⟨rfl, fun t => ?_⟩
    rw [if_neg (by simp only [List.length_nil]; omega)]
    rfl
  | x :: r, k, off, cells, h => by
    simp only [List.length_cons] at h
    obtain ⟨h1, h2⟩ := fold_set r (k + 1) off (cells.setIfInBounds (off + k) x) (by rw [Array.size_setIfInBounds]; omega)
    simp only [List.zipIdx_cons, List.foldl_cons]
    refine ⟨by rw [h1]; simp, fun t => ?_⟩
    rw [h2 t]
    by_cases ht : t = off + k
    · subst ht
      rw [if_neg (by omega), if_pos (by simp)]
      have hlt : off + k < cells.size := by omega
      rw [Array.getElem?_setIfInBounds_self, if_pos hlt]
      simp
    · by_cases hr : off + (k + 1) ≤ t ∧ t < off + (k + 1) + r.length
      · rw [if_pos hr, if_pos (by simp; omega)]
        have : t - (off + k) = (t - (off + (k + 1))) + 1 := by omega
        rw [this]; simp
      · rw [if_neg hr, if_neg (by simp; omega)]
        exact Array.getElem?_setIfInBounds_ne (Ne.symm ht)

theorem fill_seq {z : Nat} : ∀ (vs : List Value) (k : Nat) (cells : Array Value), (∀ v ∈ vs, v.cells.size = z) → (k + vs.length) * z ≤ cells.size →
    ∃ out, Instr.fill (fun i => some (i * z, z)) cells ((List.range' k vs.length).zip vs) = some out ∧ out.size = cells.size ∧ (∀ t, t < k * z → out[t]? = cells[t]?) ∧
      (∀ n m (hn : n < vs.length), m < z → out[(k + n) * z + m]? = vs[n].cells[m]?) ∧ ∀ t, (k + vs.length) * z ≤ t → out[t]? = cells[t]?
  | [], k, cells, _, h => ⟨cells, rfl, rfl, fun _ _ => rfl, fun n m hn => by simp at hn, fun _ _ => rfl⟩
  | v :: r, k, cells, hv, h => by
    have hv0 := hv v List.mem_cons_self
    simp only [List.length_cons] at h
    have hm : (k + (r.length + 1)) * z = k * z + (r.length * z + z) := by rw [Nat.add_mul, Nat.succ_mul]
    have hm2 : (k + 1 + r.length) * z = k * z + (r.length * z + z) := by rw [Nat.add_mul, Nat.succ_mul]; omega
    have hle : k * z + v.cells.size ≤ cells.size := by omega
    obtain ⟨hs, hset⟩ := fold_set v.cells.toList 0 (k * z) cells (by simp; omega)
    generalize hC : (v.cells.toList.zipIdx 0).foldl (fun cs (x : Value × Nat) => cs.setIfInBounds (k * z + x.2) x.1) cells = C at hs hset
    obtain ⟨out, ho, h1, h2, h3, h4⟩ := fill_seq r (k + 1) C (fun u hu => hv u (List.mem_cons_of_mem _ hu)) (by omega)
    refine ⟨out, ?_, by omega, fun t ht => ?_, fun n m hn hmz => ?_, fun t ht => ?_⟩
    · simp only [List.length_cons, List.range'_succ, List.zip_cons_cons, Instr.fill]
      rw [if_neg (by simp [hv0]; omega)]
      have : Array.foldl (fun cs (x : Value × Nat) => cs.setIfInBounds (k * z + x.2) x.1) cells v.cells.zipIdx = C := by
        rw [← hC, ← Array.foldl_toList]
        congr 1
        simp
      have h' : (Array.foldl (fun cs x => match x with | (c, j) => cs.setIfInBounds (k * z + j) c) cells v.cells.zipIdx) = C := this
      rw [h']
      exact ho
    · rw [h2 t (by rw [Nat.succ_mul]; omega), hset t, if_neg (by omega)]
    · cases n with
      | zero =>
        rw [h2 _ (by rw [Nat.succ_mul]; simp; omega), hset, if_pos (by simp [hv0]; omega)]
        simp
      | succ n =>
        have := h3 n m (by simpa using hn) hmz
        rw [show k + 1 + n = k + (n + 1) by omega] at this
        simpa using this
    · simp only [List.length_cons] at ht
      rw [h4 t (by omega), hset t, if_neg (by simp [hv0]; omega)]
end
end Go.Proofs.Abs
