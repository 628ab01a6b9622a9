/- Rows that are made; pieces. -/
import Derived.Test.YtgimibhacllcpaaAbs12
namespace Go.Proofs.Abs
open Go
section
variable {P : Program} {args : List (Nat × AV)} {H : AHeap} {o : Oper} {own : Bool} {nl : Nat} {q : Out}

theorem all_ok : ∀ {l : List Arg} {os : List Operand} {vs : List AV}, argsA os = some l → allAV (evA args) l = some vs → os.length = vs.length ∧ ∀ {S : Seal} {i : Emb} {ρ : Operand → Value},
    (∀ x a, evL args x = some a → V S i a (ρ x)) → ∀ k (h1 : k < vs.length) (h2 : k < os.length), V S i vs[k] (ρ os[k]) := by
  intro l
  induction l with
  | nil =>
    intro os vs h1 h2
    cases h2
    have := (argsA_all h1).1
    cases os <;> simp at this
    exact ⟨rfl, fun _ k h1 => by simp at h1⟩
  | cons a r ih =>
    intro os vs h1 h2
    simp only [allAV] at h2
    split at h2 <;> first | cases h2 | skip
    rename_i x l' hx hl'
    cases os with
    | nil => cases h1
    | cons y ys =>
      simp only [argsA] at h1
      split at h1 <;> first | cases h1 | skip
      rename_i hy hys
      obtain ⟨k1, k2⟩ := ih hys hl'
      refine ⟨by simp [k1], fun hev k h1 h2 => ?_⟩
      cases k with
      | zero => exact argV hev hy hx
      | succ k => exact k2 hev k (by simpa using h1) (by simpa using h2)

theorem partsA_all : ∀ {ps : List (Nat × Operand)} {l : List (Nat × Arg)}, partsA ps = some l → argsA (ps.map (·.2)) = some (l.map (·.2)) ∧ ps.map (·.1) = l.map (·.1)
  | [], l, h => by cases h; exact ⟨rfl, rfl⟩
  | (n, x) :: r, l, h => by
    simp only [partsA] at h
    split at h <;> first | cases h | skip
    rename_i a l' ha hl
    obtain ⟨h1, h2⟩ := partsA_all hl
    exact ⟨by simp only [List.map_cons, argsA, ha, h1], by simp [h2]⟩

theorem natListBeq_eq : ∀ {a b : List Nat}, natListBeq a b = true → a = b
  | [], [], _ => rfl
  | [], _ :: _, h => by cases h
  | _ :: _, [], h => by cases h
  | a :: x, b :: y, h => by
    simp only [natListBeq] at h
    cases hb : Nat.beq a b <;> rw [hb] at h
    · cases h
    · rw [Nat.eq_of_beq_eq_true hb, natListBeq_eq h]

theorem toE_ok {S : Seal} {i : Emb} {x : AV} {d : D} {v : Value} (h : toE x = some d) (hv : V S i x v) : DV S d v := by
  cases x <;> simp only [toE] at h <;> first | (cases h; done) | (injection h with h; subst h) | skip
  · exact vD hv
  · cases hv <;> first | exact .nilsl | assumption
  · cases hv with | win h hn => exact dv_take h hn
  · cases hv; exact .nilsl
  · cases hv with | dn h => exact h
theorem toEs_ok : ∀ {l : List AV} {ds : List D}, toEs l = some ds → ds.length = l.length ∧ ∀ k (h1 : k < ds.length) (h2 : k < l.length), toE l[k] = some ds[k]
  | [], ds, h => by cases h; simp
  | x :: r, ds, h => by
    simp only [toEs] at h
    split at h <;> first | cases h | skip
    rename_i d l hd hl
    obtain ⟨h1, h2⟩ := toEs_ok hl
    refine ⟨by simp [h1], fun k k1 k2 => ?_⟩
    cases k with
    | zero => exact hd
    | succ k => exact h2 k (by simpa using k1) (by simpa using k2)
theorem cellsAll_ok {z : Nat} : ∀ {l : List AV} {cs : List AV}, cellsAll l = some cs → (∀ x ∈ l, (cellsAV x).map (·.length) = some z) → cs.length = l.length * z ∧
    ∀ n m (hn : n < l.length) (_ : m < z), ∃ c, cellsAV l[n] = some c ∧ ∃ h1 : n * z + m < cs.length, ∃ h2 : m < c.length, cs[n * z + m] = c[m]
  | [], cs, h, _ => by cases h; simp
  | x :: r, cs, h, hz => by
    simp only [cellsAll] at h
    split at h <;> first | cases h | skip
    rename_i c l hc hl
    obtain ⟨h1, h2⟩ := cellsAll_ok hl fun y hy => hz y (List.mem_cons_of_mem _ hy)
    have hcz : c.length = z := by
      have := hz x List.mem_cons_self
      rw [hc] at this
      simpa using this
    refine ⟨by simp [h1, hcz, Nat.succ_mul]; omega, fun n m hn hm => ?_⟩
    cases n with
    | zero => exact ⟨c, hc, by simp; omega, by omega, by simp only [Nat.zero_mul, Nat.zero_add]; rw [List.getElem_append_left (by omega)]⟩
    | succ n =>
      obtain ⟨c', q1, q2, q3, q4⟩ := h2 n m (by simpa using hn) hm
      refine ⟨c', q1, by rw [List.length_append, Nat.succ_mul]; omega, q3, ?_⟩
      rw [List.getElem_append_right (by rw [Nat.succ_mul]; omega)]
      have : (n + 1) * z + m - c.length = n * z + m := by rw [Nat.succ_mul]; omega
      simp only [this]
      exact q4

theorem dv_size {S : Seal} {d : D} {v : Value} (h : DV S d v) : v.cells.size = d.cells.length ∧ ∀ k (h1 : k < d.cells.length) (h2 : k < v.cells.size), DV S d.cells[k] v.cells[k] := by
  cases h with
  | agg hl hs hall => exact ⟨by simp [Value.cells, D.cells, hl], fun k h1 h2 => by simp only [D.cells, Value.cells, List.getElem_toArray]; exact hall k _ _⟩
  | _ =>
    refine ⟨by simp [Value.cells, D.cells], fun k h1 h2 => ?_⟩
    have hk : k = 0 := by simp [D.cells] at h1; omega
    subst hk
    simp only [Value.cells, D.cells, List.getElem_cons_zero]
    first
      | exact .int | exact .bool | exact .str | exact .nilsl | exact .emp | exact .nilp | exact .nilf | exact .nili | exact .nilm | exact .fn
      | (exact .sl (by assumption) (by assumption) (by assumption) (by assumption) (by assumption) (by assumption))

theorem ok_bslice {t e : TypeId} {n : Nat} {parts : Array (Nat × Operand)} {ps : List (Nat × Arg)} {zz : List D} {j : TypeInfo} (hop : o.op = .buildSlice t n parts) (hu : und P t = .slice e)
    (hps : partsA parts.toList = some ps) (hz : zeroA P e = some zz) (hj : P.info? e = some j) (h : evOp own nl (evA args) H (.bslice n j.size zz ps) = some q) (hs : q.side) :
    OpT P (evL args) o q.hin q.r q.hout := by
  have hund := und_some hu (by simp)
  obtain ⟨j', z0, hj', hz0, hcz⟩ := zeroA_inv hz
  rw [hj] at hj'
  cases hj'
  have hzz : zz.length = z0.cells.size := by simpa using (constDs_at hcz).1
  obtain ⟨hp1, hp2⟩ := partsA_all hps
  simp only [evOp] at h
  cases hb : natListBeq (ps.map (·.1)) (List.range n) <;> rw [hb] at h <;> try cases h
  have hidx := natListBeq_eq hb
  split at h <;> first | cases h | skip
  rename_i vs hvs
  obtain ⟨hlen, hall⟩ := all_ok hp1 hvs
  have hn : vs.length = n := by
    rw [← hlen]
    have : (ps.map (·.1)).length = n := by rw [hidx]; simp
    simp only [List.length_map] at this ⊢
    rw [← this]
    have h2 := congrArg List.length hp2
    simpa using h2
  -- the run
  have run : ∀ (S : Seal) (i : Emb) (w : World) (ρ : Operand → Value), (∀ x a, evL args x = some a → V S i a (ρ x)) → (∀ k (h2 : k < (parts.toList.map (·.2)).length), (ρ (parts.toList.map (·.2))[k]).cells.size = j.size) →
      n * j.size ≤ 16777216 → zz.length = j.size →
      ∃ C : Array Value, C.size = n * j.size ∧ (∀ k m (h2 : k < (parts.toList.map (·.2)).length), m < j.size → C[k * j.size + m]? = (ρ (parts.toList.map (·.2))[k]).cells[m]?) ∧
        (execOp ρ o).run P w = .ok (.value (.slice (some ⟨w.heap.size, 0, none⟩) n n)) (w.alloc (.cells C e)) := by
    intro S i w ρ hev hsz hle hzl
    have hpl : (parts.toList.map (·.2)).length = n := by rw [hlen]; exact hn
    let us := (parts.toList.map (·.2)).map ρ
    have hus : us.length = n := by simp only [us, List.length_map]; simpa using hpl
    have hcs : ∀ v ∈ us, v.cells.size = j.size := by
      intro v hv
      obtain ⟨k, hk, rfl⟩ := List.getElem_of_mem hv
      have h1 := hsz k (by simpa [us] using hk)
      simp only [us, List.getElem_map] at h1 ⊢
      exact h1
    let zc : Array Value := if n * j.size = 0 then #[] else z0.cells
    let C0 : Array Value := (Array.range (n * j.size)).map (fun x => zc[x % zc.size]!)
    have hC0 : C0.size = n * j.size := by simp [C0]
    obtain ⟨C, hC, q1, q2, q3, q4⟩ := fill_seq (z := j.size) us 0 C0 hcs (by rw [hus, Nat.zero_add, hC0]; exact Nat.le_refl _)
    refine ⟨C, by omega, fun k m h2 hm => ?_, ?_⟩
    · have := q3 k m (by rw [hus]; omega) hm
      simpa [us] using this
    · have hparts : (parts.map fun (p : Nat × Operand) => (p.1, ρ p.2)).toList = (List.range' 0 us.length).zip us := by
        have h1 : parts.toList.map (·.1) = List.range n := by rw [hp2]; exact hidx
        rw [hus, ← List.range_eq_range', ← h1]
        simp only [us, Array.toList_map]
        rw [List.map_map]
        rw [List.zip_map']
        rfl
      simp only [execOp, hop, Instr.buildSlice, Sem.run_bind, run_und hund, Result.andThen_ok, run_sizeOf hj]
      rw [if_neg (by omega)]
      have hC' : Instr.fill (fun i => some (i * j.size, j.size)) ((Array.range (n * j.size)).map (fun x => zc[x % zc.size]!)) (parts.map fun (p : Nat × Operand) => (p.1, ρ p.2)).toList = some C := by
        rw [hparts]; exact hC
      by_cases hnz : n * j.size = 0
      · have hzc : zc = #[] := by simp only [zc, if_pos hnz]
        rw [hzc] at hC'
        rw [if_pos hnz]
        simp only [Sem.run_bind, Sem.run_pure, Result.andThen_ok]
        rw [hC']
        rfl
      · have hzc : zc = z0.cells := by simp only [zc, if_neg hnz]
        rw [hzc] at hC'
        rw [if_neg hnz]
        simp only [Sem.run_bind, Sem.run_pure, Result.andThen_ok, run_zeroValue hj hz0]
        rw [hC']
        rfl
  cases own with
  | false =>
    simp only [cond_false] at h
    split at h <;> first | cases h | skip
    rename_i ds hds
    obtain ⟨hzl, hle, hcells⟩ := hs
    obtain ⟨hd1, hd2⟩ := toEs_ok hds
    refine ⟨by simp [hop], fun S i w ρ hev hh _ => ?_⟩
    have hel : ∀ k (h1 : k < ds.length) (h2 : k < (parts.toList.map (·.2)).length), DV S ds[k] (ρ (parts.toList.map (·.2))[k]) := fun k h1 h2 =>
      toE_ok (hd2 k h1 (by omega)) (hall hev k (by omega) h2)
    obtain ⟨C, hC1, hC2, hC3⟩ := run S i w ρ hev (fun k h2 => by
      have h1 : k < ds.length := by omega
      rw [(dv_size (hel k h1 h2)).1, hcells _ (List.getElem_mem h1)]) hle hzl
    rw [hC3]
    refine post_seal (k := ds.length * j.size) hh (newblk_alloc w C e) (.d ?_)
    have hnl : ds.length = n := by omega
    have hfl := flat_len hcells
    have hCs : C.toList.length = ds.length * j.size := by simp [hC1, hnl]
    have := dv_new (S := S) (i := i) (H := []) (w := w) (xs := ds) (cap := n) (c := C) (cs := C.toList) hh hcells (fun d hd => ?_) hCs (fun m hm => by simp at hm; simp [hm]) (fun m h1 h2 => ?_) (by omega)
    · rw [hnl] at this ⊢
      exact this
    · obtain ⟨d', hd', hdc⟩ := List.mem_flatMap.1 hd
      obtain ⟨k, hk, rfl⟩ := List.getElem_of_mem hd'
      exact (hel k hk (by omega)).plain d hdc
    · have hjz : 0 < j.size := by
        rcases Nat.eq_zero_or_pos j.size with h0 | h0
        · rw [hfl, h0] at h1; simp at h1
        · exact h0
      have hdiv : m / j.size < ds.length := by rw [hfl] at h1; exact (Nat.div_lt_iff_lt_mul hjz).2 h1
      have hmod : m % j.size < j.size := Nat.mod_lt _ hjz
      have hm : m / j.size * j.size + m % j.size = m := by rw [Nat.mul_comm]; exact Nat.div_add_mod m j.size
      obtain ⟨q1, q2, q3⟩ := flat_at hcells hdiv hmod
      have h3 := hC2 (m / j.size) (m % j.size) (by omega) hmod
      have h4 := dv_size (hel (m / j.size) hdiv (by omega))
      have h5 := h4.2 (m % j.size) q2 (by omega)
      simp only [hm] at q3 h3
      rw [q3]
      have h6 : m < C.size := by simpa using h2
      have h7 : C.toList[m] = (ρ (parts.toList.map (·.2))[m / j.size]).cells[m % j.size]'(by omega) := by
        rw [getElem?_pos C m h6] at h3
        rw [getElem?_pos _ _ (by omega)] at h3
        simpa using h3
      rw [h7]
      exact h5
  | true =>
    simp only [cond_true] at h
    split at h <;> first | cases h | skip
    rename_i cs hcs
    obtain ⟨hzl, hle, hcells⟩ := hs
    obtain ⟨hk1, hk2⟩ := cellsAll_ok hcs hcells
    refine ⟨by simp [hop], fun S i w ρ hev hh hf => ?_⟩
    have hsize : ∀ k (h2 : k < (parts.toList.map (·.2)).length), (ρ (parts.toList.map (·.2))[k]).cells.size = j.size := fun k h2 => by
      have h1 : k < vs.length := by omega
      have h3 := hcells _ (List.getElem_mem h1)
      simp only [Option.map_eq_some_iff] at h3
      obtain ⟨c, hc, hcl⟩ := h3
      rw [(cellsAV_ok hc (hall hev k h1 h2)).1, hcl]
    obtain ⟨C, hC1, hC2, hC3⟩ := run S i w ρ hev hsize hle hzl
    rw [hC3]
    refine post_own hh (newblk_alloc w C e) (hf nl (by simp [AHeap.keys]) (by simp [AHeap.keys])) (by rw [hC1, hk1, hn]) (fun m h1 h2 => ?_) (.sl (by simp [Emb.set]))
    have hjz : 0 < j.size := by
      rcases Nat.eq_zero_or_pos j.size with h0 | h0
      · rw [hk1, h0] at h1; simp at h1
      · exact h0
    have hdiv : m / j.size < vs.length := by rw [hk1] at h1; exact (Nat.div_lt_iff_lt_mul hjz).2 h1
    have hmod : m % j.size < j.size := Nat.mod_lt _ hjz
    have hm : m / j.size * j.size + m % j.size = m := by rw [Nat.mul_comm]; exact Nat.div_add_mod m j.size
    obtain ⟨c, q1, q2, q3, q4⟩ := hk2 (m / j.size) (m % j.size) hdiv hmod
    have h3 := hC2 (m / j.size) (m % j.size) (by omega) hmod
    have h4 := cellsAV_ok q1 (hall hev (m / j.size) hdiv (by omega))
    have h5 := h4.2 (m % j.size) q3 (by rw [hsize _ (by omega)]; exact hmod)
    simp only [hm] at q4 h3
    rw [q4]
    have h7 : C[m] = (ρ (parts.toList.map (·.2))[m / j.size]).cells[m % j.size]'(by rw [hsize _ (by omega)]; exact hmod) := by
      rw [getElem?_pos C m h2] at h3
      rw [getElem?_pos _ _ (by rw [hsize _ (by omega)]; exact hmod)] at h3
      simpa using h3
    rw [h7]
    exact h5
end
end Go.Proofs.Abs
