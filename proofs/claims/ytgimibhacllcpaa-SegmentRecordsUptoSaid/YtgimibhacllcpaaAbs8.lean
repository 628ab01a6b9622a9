/- Operations that read memory. -/
import Derived.Test.YtgimibhacllcpaaAbs7
namespace Go.Proofs.Abs
open Go
section
variable {P : Program} {args : List (Nat × AV)} {H : AHeap} {o : Oper} {own : Bool} {nl : Nat} {q : Out}

theorem lkH_mem {H : AHeap} {l : Nat} {x : AObj} (h : lkH H l = some x) : (l, x) ∈ H := by
  induction H with
  | nil => cases h
  | cons p r ih =>
    obtain ⟨k, v⟩ := p
    simp only [lkH] at h
    cases hb : Nat.beq k l with
    | true =>
      rw [hb] at h
      cases h
      cases Nat.eq_of_beq_eq_true hb
      exact List.mem_cons_self
    | false =>
      rw [hb] at h
      exact List.mem_cons_of_mem _ (ih h)

theorem run_isAgg {t : TypeId} {d : TypeDesc} {w : World} (h : P.underlying t = some d) : (isAgg t).run P w = .ok (isAggD d) w := by
  unfold isAgg
  rw [Sem.run_bind, run_und h]
  cases d <;> rfl

theorem run_loadAgg {t : TypeId} {d : TypeDesc} {j : TypeInfo} {w : World} {b off : Nat} {f : Nat → Value} (hd : P.underlying t = some d) (hj : P.info? t = some j) (ha : isAggD d = true)
    (h : ∀ k, k < j.size → w.cell? ⟨b, off + k, none⟩ = some (f k)) : (loadVar t ⟨b, off, none⟩).run P w = .ok (.agg ((List.range j.size).map f).toArray) w := by
  unfold loadVar
  rw [Sem.run_bind, run_isAgg hd, Result.andThen_ok, ha]
  simp only [if_true, Sem.run_bind, run_sizeOf hj, Result.andThen_ok]
  rw [run_loadCells w _ j.size f (fun k hk => by rw [addr_add]; exact h k hk)]
  rfl
theorem run_loadOne {t : TypeId} {d : TypeDesc} {w : World} {a : Addr} {v : Value} (hd : P.underlying t = some d) (ha : isAggD d = false) (h : w.cell? a = some v) :
    (loadVar t a).run P w = .ok v w := by
  unfold loadVar
  rw [Sem.run_bind, run_isAgg hd, Result.andThen_ok, ha]
  simp [h]

theorem dAgg_cells {S : Seal} {l : List D} {v : Value} (h : DV S (.agg l) v) : ∃ vs : List Value, v = .agg vs.toArray ∧ l.length = vs.length ∧ (∀ d ∈ l, d.isAgg = false) ∧
    ∀ i (h1 : i < l.length) (h2 : i < vs.length), DV S l[i] vs[i] := by
  cases h with
  | agg hl hs h => exact ⟨_, rfl, hl, hs, h⟩

/-- cells that read as data make a struct -/
theorem mk_dagg {S : Seal} {l : List D} {f : Nat → Value} (hs : ∀ d ∈ l, d.isAgg = false) (h : ∀ m (hm : m < l.length), DV S l[m] (f m)) :
    DV S (.agg l) (.agg ((List.range l.length).map f).toArray) := by
  refine .agg (by simp) hs fun i h1 h2 => ?_
  have := h i h1
  simpa using this

/-- no struct lies in a cell -/
def notAgg : Value → Bool
  | .agg _ => false
  | _ => true

theorem toD_ok {S : Seal} {i : Emb} {x : AV} {d : D} {v : Value} (h : toD x = some d) (hv : V S i x v) : DV S d v ∧ d.isAgg = false := by
  cases x <;> simp only [toD] at h <;> try cases h
  case d y =>
    cases hy : y.isAgg <;> rw [hy] at h <;> cases h
    exact ⟨vD hv, hy⟩
  case nils => cases hv; exact ⟨.nilsl, rfl⟩
  case ap => cases hv <;> first | exact ⟨.nilsl, rfl⟩ | exact ⟨by assumption, rfl⟩
  case win => cases hv with | win h hn => exact ⟨dv_take h hn, rfl⟩
  case dn => cases hv with | dn h => exact ⟨h, rfl⟩

theorem toDs_ok {S : Seal} {i : Emb} {f : Nat → Value} : ∀ {l : List AV} {ds : List D} (k : Nat), toDs l = some ds → (∀ m (hm : m < l.length), V S i l[m] (f (k + m))) →
    ds.length = l.length ∧ (∀ d ∈ ds, d.isAgg = false) ∧ ∀ m (hm : m < ds.length), DV S ds[m] (f (k + m))
  | [], ds, k, h, _ => by cases h; simp
  | x :: r, ds, k, h, hv => by
    simp only [toDs] at h
    split at h <;> first | cases h | skip
    rename_i d l hd hl
    obtain ⟨h1, h2⟩ := toD_ok hd (hv 0 (by simp))
    obtain ⟨h3, h4, h5⟩ := toDs_ok (f := f) (k + 1) hl fun m hm => by
      have := hv (m + 1) (by simpa using hm)
      rw [show k + 1 + m = k + (m + 1) by omega]
      exact this
    refine ⟨by simp [h3], by simpa using ⟨h2, h4⟩, fun m hm => ?_⟩
    cases m with
    | zero => exact h1
    | succ m =>
      have := h5 m (by simpa using hm)
      rw [show k + (m + 1) = k + 1 + m by omega]
      exact this

theorem mkAgg_ok {S : Seal} {i : Emb} {f : Nat → Value} {l : List AV} (hv : ∀ m (hm : m < l.length), V S i l[m] (f m)) : V S i (mkAgg l) (.agg ((List.range l.length).map f).toArray) := by
  unfold mkAgg
  split
  · rename_i ds hds
    obtain ⟨h1, h2, h3⟩ := toDs_ok (f := f) 0 hds fun m hm => by simpa using hv m hm
    rw [← h1]
    exact .d (mk_dagg h2 fun m hm => by simpa using h3 m hm)
  · refine .agg (by simp) fun j h1 h2 => ?_
    simpa using hv j h1

/-- what is loaded -/
theorem loadA_ok {H : AHeap} {x : AV} {g : Bool} {t : TypeId} {d : TypeDesc} {j : TypeInfo} (hd : P.underlying t = some d) (hj : P.info? t = some j) (hg : isAggD d = g)
    (h : loadA H x j.size g = some q) (hs : q.side) {S : Seal} {i : Emb} {w : World} {v : Value} (hv : V S i x v) (hh : HeapRel S i q.hin w) :
    ∃ u, (Instr.loadAt t v).run P w = .ok u w ∧ V S i q.r u ∧ q.hin = q.hout := by
  unfold loadA at h
  split at h
  · -- sealed cells
    rename_i y off
    cases hv with
    | cp f hga hsl hcl =>
      rename_i b o
      have hcell : ∀ m, m < y.cells.length → w.cell? ⟨b, o + m, none⟩ = some (f m) := fun m hm => hh.cell _ _ (hsl m hm)
      cases g with
      | true =>
        simp only [cond_true] at h
        cases hc : (Nat.beq off 0 && Nat.beq y.cells.length j.size) with
        | true =>
          rw [hc] at h
          cases h
          have h0 : off = 0 := Nat.eq_of_beq_eq_true (by simp [Bool.and_eq_true] at hc; simpa using hc.1)
          have h1 : y.cells.length = j.size := Nat.eq_of_beq_eq_true (by simp [Bool.and_eq_true] at hc; simpa using hc.2)
          subst h0
          have hr := run_loadAgg (P := P) (w := w) (b := b) (off := o) (f := f) hd hj hg fun k hk => hcell k (h1 ▸ hk)
          refine ⟨_, by simp only [Instr.loadAt, Instr.sureAddr, Sem.run_bind, Sem.run_pure, Result.andThen_ok]; exact hr, ?_, rfl⟩
          rw [← h1]
          -- y is a struct
          have hy : y.isAgg = true := hs
          cases y <;> simp only [D.isAgg] at hy <;> try cases hy
          rename_i l
          exact .d (mk_dagg hga hcl)
        | false =>
          rw [hc] at h
          cases h
          obtain ⟨hy, hle⟩ := hs
          have hr := run_loadAgg (P := P) (w := w) (b := b) (off := o + off) (f := fun k => f (off + k)) hd hj hg fun k hk => by
            rw [Nat.add_assoc]; exact hcell _ (by omega)
          refine ⟨_, by simp only [Instr.loadAt, Instr.sureAddr, Sem.run_bind, Sem.run_pure, Result.andThen_ok]; exact hr, ?_, rfl⟩
          have hl : ((y.cells.drop off).take j.size).length = j.size := by simp; omega
          have := mk_dagg (S := S) (l := (y.cells.drop off).take j.size) (f := fun k => f (off + k)) (fun d hd => hga d (List.mem_of_mem_drop (List.mem_of_mem_take hd))) fun m hm => by
            have := hcl (off + m) (by omega)
            simpa using this
          rw [hl] at this
          exact .d this
      | false =>
        simp only [cond_false] at h
        split at h <;> first | cases h | skip
        rename_i c rest hdrop
        have hlt : off < y.cells.length := by
          rcases Nat.lt_or_ge off y.cells.length with h | h
          · exact h
          · rw [List.drop_eq_nil_of_le h] at hdrop; cases hdrop
        have hc : y.cells[off] = c := by
          rw [List.drop_eq_getElem_cons hlt] at hdrop
          injection hdrop
        have hr := run_loadOne (P := P) (w := w) (a := ⟨b, o + off, none⟩) hd hg (hcell off hlt)
        refine ⟨_, by simp only [Instr.loadAt, Instr.sureAddr, Sem.run_bind, Sem.run_pure, Result.andThen_ok]; exact hr, ?_, rfl⟩
        exact .d (hc ▸ hcl off hlt)
  · -- a block of our own
    rename_i l off
    split at h <;> first | cases h | skip
    rename_i L hL
    cases hv with
    | ptr hi =>
      rename_i b
      have hmem : ∀ q' : Out, q'.hin = [(l, .cells L)] → HeapRel S i q'.hin w → ∃ c : Array Value, c.size = L.length ∧ (∀ k (h1 : k < L.length) (h2 : k < c.size), V S i L[k] c[k]) ∧
          ∀ k (h2 : k < c.size), w.cell? ⟨b, k, none⟩ = some c[k] := by
        intro q' hq' hh'
        rw [hq'] at hh'
        rcases hh'.obj l (.cells L) List.mem_cons_self with ⟨b', hb', c, e, hc, hsz, hval, _⟩ | ⟨hn, _⟩
        · rw [hi] at hb'
          cases hb'
          refine ⟨c, hsz, hval, fun k h2 => ?_⟩
          simp [World.cell?, hc, h2]
        · rw [hi] at hn; cases hn
      cases g with
      | true =>
        simp only [cond_true] at h
        cases h
        obtain ⟨c, hsz, hval, hcell⟩ := hmem _ rfl hh
        have hle : off + j.size ≤ L.length := hs
        have hr := run_loadAgg (P := P) (w := w) (b := b) (off := off) (f := fun k => c.getD (off + k) undef) hd hj hg fun k hk => by
          have h2 : off + k < c.size := by omega
          rw [hcell _ h2]; simp [h2]
        refine ⟨_, by simp only [Instr.loadAt, Instr.sureAddr, Sem.run_bind, Sem.run_pure, Result.andThen_ok]; exact hr, ?_, rfl⟩
        have hl : ((L.drop off).take j.size).length = j.size := by simp; omega
        have := mkAgg_ok (S := S) (i := i) (l := (L.drop off).take j.size) (f := fun k => c.getD (off + k) undef) fun m hm => by
          have h1 : off + m < L.length := by omega
          have h2 : off + m < c.size := by omega
          have := hval (off + m) h1 h2
          simpa [h2] using this
        rw [hl] at this
        exact this
      | false =>
        simp only [cond_false] at h
        split at h <;> first | cases h | skip
        rename_i x rest hdrop
        obtain ⟨c, hsz, hval, hcell⟩ := hmem _ rfl hh
        have hlt : off < L.length := by
          rcases Nat.lt_or_ge off L.length with h | h
          · exact h
          · rw [List.drop_eq_nil_of_le h] at hdrop; cases hdrop
        have hx : L[off] = x := by
          rw [List.drop_eq_getElem_cons hlt] at hdrop
          injection hdrop
        have h2 : off < c.size := by omega
        have hr := run_loadOne (P := P) (w := w) (a := ⟨b, off, none⟩) hd hg (hcell off h2)
        refine ⟨_, by simp only [Instr.loadAt, Instr.sureAddr, Sem.run_bind, Sem.run_pure, Result.andThen_ok]; exact hr, hx ▸ hval off hlt h2, rfl⟩
  · cases h

theorem ok_load {t : TypeId} {x : Operand} (hop : o.op = .load t x) (h : evOp own nl (evA args) H (compOp P o.op) = some q) (hs : q.side) : OpT P (evL args) o q.hin q.r q.hout := by
  rw [hop] at h
  simp only [compOp] at h
  cases hx : argA x <;> rw [hx] at h <;> try cases h
  simp only [szK, aggK] at h
  split at h <;> first | cases h | skip
  rename_i j hj
  split at h <;> first | cases h | skip
  rename_i d hd
  simp only [evOp, Option.bind_eq_some_iff] at h
  obtain ⟨y, hy, h⟩ := h
  refine ⟨by simp [hop], fun S i w ρ hev hh _ => ?_⟩
  obtain ⟨u, hr, hv, hq⟩ := loadA_ok hd hj rfl h hs (argV hev hx hy) hh
  simp only [execOp, hop, Sem.run_bind, hr, Result.andThen_ok]
  rw [← hq]
  exact postSame hv hh

theorem ok_nilchk {x : Operand} (hop : o.op = .nilCheck x) (h : evOp own nl (evA args) H (compOp P o.op) = some q) : OpT P (evL args) o q.hin q.r q.hout := by
  rw [hop] at h
  simp only [compOp] at h
  cases hx : argA x <;> rw [hx] at h <;> try cases h
  simp only [evOp] at h
  split at h <;> first | cases h | skip
  all_goals
    rename_i hb
    refine .pure (by simp [hop]) fun S i w ρ hev hh => ⟨ρ x, ?_, argV hev hx hb⟩
    have hv := argV hev hx hb
    generalize hu : ρ x = u at hv
    first
      | (cases hv; simp only [execOp, hop, hu]; rfl)
      | (cases vD hv; simp only [execOp, hop, hu]; rfl)

theorem ok_faddr {s : TypeId} {x : Operand} {f : Nat} (hop : o.op = .fieldAddr s x f) (h : evOp own nl (evA args) H (compOp P o.op) = some q) : OpT P (evL args) o q.hin q.r q.hout := by
  rw [hop] at h
  simp only [compOp] at h
  split at h <;> first | cases h | skip
  rename_i a fs hx hund
  split at h <;> first | cases h | skip
  rename_i fd hfd
  simp only [szK] at h
  split at h <;> first | cases h | skip
  rename_i j hj
  split at h <;> first | cases h | skip
  rename_i hz
  have hu := und_some hund (by simp)
  simp only [evOp] at h
  have hrun : ∀ (ρ : Operand → Value) (w : World) b off, ρ x = .pointer (some ⟨b, off, none⟩) → (execOp ρ o).run P w = .ok (.value (.pointer (some ⟨b, off + fd.offset, none⟩))) w := by
    intro ρ w b off hv
    simp only [execOp, hop, hv, Instr.fieldAt, Sem.run_bind, run_und hu, Result.andThen_ok, hfd, Instr.sureAddr, fieldPlace, run_sizeOf hj, hz, if_false, Sem.run_pure, addr_add]
  split at h <;> first | cases h | skip
  · rename_i y off hy
    refine .pure (by simp [hop]) fun S i w ρ hev hh => ?_
    have hv := argV hev hx hy
    generalize hu' : ρ x = u at hv
    cases hv with
    | cp f hg hs hc => exact ⟨_, hrun ρ w _ _ hu', by rw [Nat.add_assoc]; exact .cp f hg hs hc⟩
  · rename_i l off hy
    refine .pure (by simp [hop]) fun S i w ρ hev hh => ?_
    have hv := argV hev hx hy
    generalize hu' : ρ x = u at hv
    cases hv with
    | ptr hi => exact ⟨_, hrun ρ w _ _ hu', .ptr hi⟩
end
end Go.Proofs.Abs
