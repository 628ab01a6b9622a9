/- All operations together. -/
import Derived.Test.YtgimibhacllcpaaAbs15
namespace Go.Proofs.Abs
open Go
section
variable {P : Program} {args : List (Nat × AV)} {H : AHeap} {o : Oper} {own : Bool} {nl : Nat} {q : Out}

theorem flat_scalar : ∀ {l : List D}, (∀ d ∈ l, d.isAgg = false) → flat l = l
  | [], _ => rfl
  | x :: r, h => by
    show x.cells ++ flat r = _
    have hx := h x List.mem_cons_self
    rw [flat_scalar fun d hd => h d (List.mem_cons_of_mem _ hd)]
    cases x <;> first | rfl | (simp [D.isAgg] at hx; done)

theorem ok_bs2bs {s d e1 e : TypeId} {x : Operand} {a : Arg} (hop : o.op = .convert s d x) (hx : argA x = some a) (hs' : und P s = .slice e1) (hd : und P d = .slice e) (he : und P e = .int .u8) (hsd : s = d)
    (h : evOp own nl (evA args) H (.bs2bs a) = some q) (hs : q.side) : OpT P (evL args) o q.hin q.r q.hout := by
  have h1 := und_some hs' (by simp)
  have h2 := und_some hd (by simp)
  have h3 := und_some he (by simp)
  subst hsd
  rw [h1] at h2
  cases h2
  simp only [evOp] at h
  split at h <;> first | cases h | skip
  rename_i l n cap hax
  split at h <;> first | cases h | skip
  rename_i L hL
  split at h <;> first | cases h | skip
  rename_i ds hds
  obtain ⟨hn, hcap⟩ := hs
  refine ⟨by simp [hop], fun S i w ρ hev hh _ => ?_⟩
  have hv := argV hev hx hax
  generalize hxv : ρ x = u at hv
  cases hv with
  | sl hi =>
    rename_i b
    rcases hh.obj l (.cells L) List.mem_cons_self with ⟨b', hb', c, e', hc, hsz, hval, hns⟩ | ⟨hno, _⟩
    case inr => rw [hi] at hno; cases hno
    rw [hi] at hb'
    cases hb'
    have hsh : w.shape? b = some (e', c.size) := by simp [World.shape?, hc]
    obtain ⟨t1, t2, t3⟩ := toDs_ok (S := S) (i := i) (f := fun k => c.getD k undef) 0 hds fun m hm => by
      have := hval m hm (by omega)
      have h2 : m < c.size := by omega
      simpa [h2] using this
    let w' := w.freeze ⟨b, c.size, none⟩ 1
    have hrun : (execOp ρ o).run P w = .ok (.value (.slice (some ⟨b, 0, none⟩) n cap)) w' := by
      simp [execOp, hop, hxv, convert, run_und h1, run_und h3, markStringish, hsh, w']
    rw [hrun]
    have hlt := hh.dom l b hi
    have hold : ∀ k, k ≠ b → w'.heap[k]? = w.heap[k]? := by
      intro k hk
      simp only [w', World.freeze]
      rw [if_neg (by decide)]
      simp [Array.getElem?_modify, Ne.symm hk]
    have hnew : w'.heap[b]? = some (.cells c e' (c.size, c.size + 1)) := by
      simp only [w', World.freeze]
      rw [if_neg (by decide)]
      simp [Array.getElem?_modify, hc]
    have hsize : w'.heap.size = w.heap.size := by
      simp only [w', World.freeze]
      rw [if_neg (by decide)]
      simp
    have hblk : blk i [(l, .cells L)] b := ⟨l, _, List.mem_cons_self, hi⟩
    have hup : S.le (S.ext b 0 c.size c) := by
      refine ⟨fun a v ha => ?_, fun b n h => h⟩
      simp only [Seal.ext]
      rw [if_neg]
      · exact ha
      · rintro ⟨q1, _⟩
        rw [hns a q1] at ha; cases ha
    have hfl := flat_scalar t2
    refine ⟨S.ext b 0 c.size c, i, ?_, ⟨fun a v ha => ?_, fun m n' hm => ?_, fun l' o' hm => (by cases hm), fun l1 o1 l2 o2 b' hm => (by cases hm), fun l' b' hb => (by rw [hsize]; exact hh.dom l' b' hb)⟩, fun _ _ h => h,
      ⟨hup, by rw [hsize]; exact Nat.le_refl _, fun k _ hk => hold k fun hkb => hk (hkb ▸ hblk), fun a v ha => ?_, fun _ _ h => .inl h, fun b' ⟨l', o', hm, _⟩ => (by cases hm), ?_, ?_, ?_⟩, fun _ _ h => .inl h⟩
    · have hdv : DV (S.ext b 0 c.size c) (.sl ds) (.slice (some ⟨b, 0, none⟩) ds.length cap) := by
        refine .sl (z := 1) (fun k => c.getD k undef) (fun d hd => ?_) (by rw [hfl]; exact t2) (by omega) (fun m hm => ?_) (fun m hm => ?_)
        · have := t2 d hd
          cases d <;> first | rfl | (simp [D.isAgg] at this; done)
        · rw [hfl] at hm
          have hmc : m < c.size := by omega
          simp only [Seal.ext]
          rw [if_pos ⟨trivial, trivial, Nat.zero_le _, by show 0 + m < _; omega⟩]
          simp [hmc]
        · have hm' : m < ds.length := by rw [hfl] at hm; exact hm
          have he : (flat ds)[m] = ds[m] := by simp only [hfl]
          rw [he]
          have := (t3 m hm').mono hup
          simpa using this
      rw [hn]
      exact .d hdv
    · simp only [Seal.ext] at ha
      split at ha
      · rename_i hq
        obtain ⟨q1, q2, q3, q4⟩ := hq
        unfold World.cell?
        rw [q1, hnew]
        simp [q2, ha]
      · rename_i hq
        have hb : a.block ≠ b := by
          intro hb
          rw [hns a hb] at ha; cases ha
        have := hh.cell a v ha
        unfold World.cell? at *
        rw [hold _ hb]; exact this
    · by_cases hb : m = b
      · subst hb
        obtain ⟨c0, e0, f0, q0, qs0⟩ := hh.size m n' hm
        rw [hc] at q0
        cases q0
        exact ⟨c, e', _, hnew, qs0⟩
      · rw [hold m hb]; exact hh.size m n' hm
    · simp only [Seal.ext] at ha
      split at ha
      · rename_i hq; rw [hq.1]; exact .inr (.inl hblk)
      · exact .inl ha
    · simp only [w', World.freeze]; rw [if_neg (by decide)]
    · simp only [w', World.freeze]; rw [if_neg (by decide)]
    · simp only [w', World.freeze]; rw [if_neg (by decide)]

theorem evOp_bad : evOp own nl (evA args) H .bad = some q → False := by simp [evOp]

theorem ok_conv {s d : TypeId} {x : Operand} (hop : o.op = .convert s d x) (h : evOp own nl (evA args) H (compOp P o.op) = some q) (hs : q.side) : OpT P (evL args) o q.hin q.r q.hout := by
  rw [hop] at h
  simp only [compOp] at h
  cases hx : argA x <;> rw [hx] at h <;> try cases h
  simp only [compConv] at h
  split at h <;> first | cases h | skip
  · rename_i h1 h2; exact ok_cvi hop hx h1 h2 h
  · rename_i e h1 h2
    split at h <;> first | cases h | skip
    rename_i h3
    exact ok_bs2s hop hx h1 h2 h3 h hs
  · rename_i e h1 h2
    split at h <;> first | cases h | skip
    · rename_i h3; exact ok_s2bs hop hx h1 h2 h3 h
  · rename_i e1 e2 h1 h2
    split at h <;> first | cases h | skip
    rename_i h3
    split at h <;> first | cases h | skip
    rename_i h4
    exact ok_bs2bs hop hx h1 h2 h3 h4 h hs

theorem ok_call {c : Call} (hop : o.op = .call c) (h : evOp own nl (evA args) H (compOp P o.op) = some q) (hs : q.side) : OpT P (evL args) o q.hin q.r q.hout := by
  rw [hop] at h
  simp only [compOp] at h
  rcases compCall_inv (P := P) (c := c) with hb | hk
  · rw [hb] at h; exact (evOp_bad h).elim
  · generalize hao : compCall P c = ao at h hk
    cases hk with
    | len hc ha hx ht hu => exact ok_len hop hc ha hx ht hu h
    | slen hc ha hx ht hu => exact ok_slen hop hc ha hx ht hu h
    | cap hc ha hx ht hu => exact ok_cap hop hc ha hx ht hu h
    | app hc ha hx hy ht hu hu2 hz hj => exact ok_app hop hc ha hx hy ht hu hu2 hz hj h hs
    | copy => simp [evOp] at h
    | grow => simp [evOp] at h
    | max hc ha => exact ok_mm (b := true) hop hc ha h
    | min hc ha => exact ok_mm (b := false) hop hc ha h
    | call => simp [evOp] at h

/-- WHAT THE EVALUATION SAYS IS SO -/
theorem evOp_ok {ao : AOp} (h : evOp own nl (evA args) H ao = some q) (hs : q.side) : AOpT P ao args q.hin q.r q.hout := by
  refine ⟨fun x hx hb => ?_, fun o hao => ?_⟩
  · subst hx; rw [hb] at h; exact evOp_bad h
  subst hao
  cases hop : o.op with
  | move x => exact ok_mv (.inl hop) h
  | assign x => exact ok_mv (.inr hop) h
  | pick c a b => exact ok_pick hop h
  | alloc t => exact ok_alloc hop h
  | box t x => exact ok_box hop h
  | build t parts =>
    rw [hop] at h
    simp only [compOp] at h
    split at h <;> first | exact (evOp_bad h).elim | skip
    rename_i fs zz ps hu hz hps
    split at h <;> first | exact (evOp_bad h).elim | skip
    rename_i hall
    split at h <;> first | exact (evOp_bad h).elim | skip
    rename_i l hl
    exact ok_build hop hu hz hps hall hl h hs
  | buildSlice t n parts =>
    rw [hop] at h
    simp only [compOp] at h
    split at h <;> first | exact (evOp_bad h).elim | skip
    rename_i e ps hu hps
    split at h <;> first | exact (evOp_bad h).elim | skip
    rename_i zz hz
    simp only [szK] at h
    split at h <;> first | exact (evOp_bad h).elim | skip
    rename_i j hj
    exact ok_bslice hop hu hps hz hj h hs
  | load t x => exact ok_load hop h hs
  | store t x v => exact ok_store hop h hs
  | nilCheck x => exact ok_nilchk hop h
  | binOp op t x y t' => exact ok_bin hop h hs
  | unOp op t x => exact ok_un hop h
  | convert s d x => exact ok_conv hop h hs
  | makeFunc fn first caps =>
    rw [hop] at h
    cases fn with
    | func f =>
      simp only [compOp] at h
      split at h <;> first | exact (evOp_bad h).elim | skip
      rename_i hf
      split at h <;> first | exact (evOp_bad h).elim | skip
      rename_i l hl
      exact ok_mkfn hop hf hl h
    | _ => exact (evOp_bad h).elim
  | makeSlice t l c =>
    rw [hop] at h
    simp only [compOp] at h
    split at h <;> first | exact (evOp_bad h).elim | skip
    rename_i e a b hu hl hc
    split at h <;> first | exact (evOp_bad h).elim | skip
    rename_i zz hz
    simp only [sbK] at h
    split at h <;> first | exact (evOp_bad h).elim | skip
    rename_i j hj
    exact ok_mksl hop hu hl hc hz hj h hs
  | slice t x lo hi mx =>
    rw [hop] at h
    simp only [compOp] at h
    split at h <;> first | exact (evOp_bad h).elim | skip
    · rename_i a la ha hx hlo hhi hmx hu
      cases mx with
      | some m => simp only [oargA, Option.map_eq_some_iff] at hmx; obtain ⟨_, _, hmx⟩ := hmx; cases hmx
      | none => exact ok_ssl hop hx hlo hhi hu h hs
    · rename_i a la ha ma e hx hlo hhi hmx hu
      simp only [szK] at h
      split at h <;> first | exact (evOp_bad h).elim | skip
      rename_i j hj
      cases mx with
      | some m =>
        simp only [oargA, Option.map_eq_some_iff] at hmx
        obtain ⟨_, _, rfl⟩ := hmx
        simp [evOp] at h
      | none =>
        cases hmx
        exact ok_slc hop hx hlo hhi hu hj h hs
  | fieldAddr s x f => exact ok_faddr hop h
  | field s x f =>
    rw [hop] at h
    simp only [compOp] at h
    split at h <;> first | exact (evOp_bad h).elim | skip
    rename_i a fs hx hu
    split at h <;> first | exact (evOp_bad h).elim | skip
    rename_i fd hfd
    simp only [szK, aggK] at h
    split at h <;> first | exact (evOp_bad h).elim | skip
    rename_i j hj
    split at h <;> first | exact (evOp_bad h).elim | skip
    rename_i d hd
    exact ok_fld hop hx hu hfd hj hd h hs
  | indexAddr t x k =>
    rw [hop] at h
    simp only [compOp] at h
    split at h <;> first | exact (evOp_bad h).elim | skip
    · rename_i a b e hx hk hu
      simp only [szK] at h
      split at h <;> first | exact (evOp_bad h).elim | skip
      rename_i j hj
      exact ok_iaddr hop hx hk hu hj h hs
    · simp only [szK] at h
      split at h <;> first | exact (evOp_bad h).elim | (simp [evOp] at h; done)
  | index t x k =>
    rw [hop] at h
    simp only [compOp] at h
    split at h <;> first | exact (evOp_bad h).elim | skip
    · rename_i a b hx hk hu
      exact ok_idx hop hx hk hu h hs
    · simp only [szK, aggK] at h
      split at h <;> first | exact (evOp_bad h).elim | skip
      split at h <;> first | exact (evOp_bad h).elim | (simp [evOp] at h; done)
  | extract x k => exact ok_ext hop h
  | call c => exact ok_call hop h hs
  | _ => rw [hop] at h; exact (evOp_bad h).elim
end
end Go.Proofs.Abs
