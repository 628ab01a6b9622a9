/- Several texts of one proof, one behind the other. -/
import Derived.Test.YtnhjiioiejpbgaaDoorAbsxa
import Derived.Laws.Tables
import Derived.RangeFuncLeaves
import Derived.RangeFuncRecord
import Derived.Orders
import Derived.ProofKit
import Derived.Below
import Derived.OpenShut
set_option linter.unusedSimpArgs false
set_option linter.unusedVariables false
section
/- Structs that are built; texts of bytes; the least and the most. -/
namespace Go.Proofs.Abs
open Go
section
variable {P : Program} {args : List (Nat × AV)} {H : AHeap} {o : Oper} {own : Bool} {nl : Nat} {q : Out}

theorem mmL_ok {S : Seal} {i : Emb} {w : World} {b : Bool} : ∀ {vs : List AV} {us : List Value} {k k' : IntKind} {n n' : Int}, mmL b (k, n) vs = some (k', n') → vs.length = us.length →
    (∀ j (h1 : j < vs.length) (h2 : j < us.length), V S i vs[j] us[j]) → (us.foldlM (if b then Builtin.max2 else Builtin.min2) (.int k n)).run P w = .ok (.int k' n') w
  | [], us, k, k', n, n', h, hl, _ => by
    cases us <;> simp at hl
    cases h
    rfl
  | v :: vs, us, k, k', n, n', h, hl, hv => by
    cases us with
    | nil => simp at hl
    | cons u us =>
      unfold mmL at h
      split at h <;> first | cases h | skip
      · rename_i heq; cases heq
      · rename_i k1 n1 k2 m r h1 h2
        cases h1
        cases h2
        have hu := vInt (hv 0 (by simp) (by simp))
        simp only [List.getElem_cons_zero] at hu
        subst hu
        have hrec := mmL_ok (w := w) (us := us) h (by simpa using hl) fun j h1 h2 => by
          have := hv (j + 1) (by simpa using h1) (by simpa using h2)
          simpa using this
        rw [List.foldlM_cons, Sem.run_bind]
        cases b with
        | true =>
          have : ((if true = true then Builtin.max2 else Builtin.min2) (.int k n) (.int k2 m)).run P w = .ok (.int k (max n m)) w := by
            simp only [if_true, Builtin.max2]
            have : (if m > n then m else n) = max n m := by split <;> omega
            rw [this]; rfl
          rw [this, Result.andThen_ok]
          exact hrec
        | false =>
          have : ((if false = true then Builtin.max2 else Builtin.min2) (.int k n) (.int k2 m)).run P w = .ok (.int k (min n m)) w := by
            simp only [Bool.false_eq_true, if_false, Builtin.min2]
            have : (if m < n then m else n) = min n m := by split <;> omega
            rw [this]; rfl
          rw [this, Result.andThen_ok]
          exact hrec

theorem ok_mm {c : Call} {l : List Arg} {b : Bool} (hop : o.op = .call c) (hc : c.callee = .builtin (if b then .max else .min)) (hl : argsA c.args.toList = some l) (h : evOp own nl (evA args) H (.mm b l) = some q) :
    OpT P (evL args) o q.hin q.r q.hout := by
  simp only [evOp] at h
  split at h <;> first | cases h | skip
  rename_i k n hkn
  simp only [Option.bind_eq_some_iff] at hkn
  obtain ⟨vs, hvs, hm⟩ := hkn
  obtain ⟨hlen, hall⟩ := all_ok hl hvs
  refine .pure (by simp [hop]) fun S i w ρ hev hh => ⟨_, ?_, .d .int⟩
  cases vs with
  | nil => cases hm
  | cons v vs =>
    cases hos : c.args.toList with
    | nil => rw [hos] at hlen; simp at hlen
    | cons x xs =>
      unfold mmA at hm
      split at hm <;> first | cases hm | skip
      rename_i k0 n0 r heq
      cases heq
      have hlen' : c.args.toList.length = (AV.d (.int k0 n0) :: vs).length := hlen
      have h0 := vInt (hall hev 0 (by simp) (by rw [hlen]; simp))
      simp only [hos, List.getElem_cons_zero] at h0
      have hf := mmL_ok (P := P) (w := w) (us := xs.map ρ) hm (by rw [hos] at hlen; simpa using hlen.symm) fun j h1 h2 => by
        have := hall hev (j + 1) (by simpa using h1) (by rw [hlen]; simpa using h1)
        simp only [hos, List.getElem_cons_succ] at this
        simpa using this
      have hargs : (Array.map ρ c.args).toList = .int k0 n0 :: xs.map ρ := by simp [hos, h0]
      cases b with
      | true =>
        simp only [execOp, hop, resolve, hc, if_true, Sem.run_bind, Sem.run_pure, Result.andThen_ok, invoke, builtin, Builtin.max_, hargs]
        simp only [if_true] at hf
        rw [hf]; rfl
      | false =>
        simp only [execOp, hop, resolve, hc, Bool.false_eq_true, if_false, Sem.run_bind, Sem.run_pure, Result.andThen_ok, invoke, builtin, Builtin.min_, hargs]
        simp only [Bool.false_eq_true, if_false] at hf
        rw [hf]; rfl

theorem ok_bs2s {s d e : TypeId} {x : Operand} {a : Arg} (hop : o.op = .convert s d x) (hx : argA x = some a) (hs' : und P s = .slice e) (hd : und P d = .string) (he : und P e = .int .u8)
    (h : evOp own nl (evA args) H (.bs2s a) = some q) (hs : q.side) : OpT P (evL args) o q.hin q.r q.hout := by
  have h1 := und_some hs' (by simp)
  have h2 := und_some hd (by simp)
  have h3 := und_some he (by simp)
  simp only [evOp] at h
  split at h <;> first | cases h | skip
  rename_i l hl
  simp only [Option.bind_eq_some_iff] at hl
  obtain ⟨y, hy, hl⟩ := hl
  have hb : ∀ d ∈ l, isByte d := hs
  refine .pure (by simp [hop]) fun S i w ρ hev hh => ?_
  have hdv := toSl_ok hl (argV hev hx hy)
  have hcells : ∀ d ∈ l, d.cells = [d] := by
    intro d hd
    have := hb d hd
    cases d <;> first | rfl | (simp [isByte] at this; done)
  have hflat : flat l = l := by
    have gen : ∀ r : List D, (∀ d ∈ r, d.cells = [d]) → flat r = r := by
      intro r
      induction r with
      | nil => intro _; rfl
      | cons x r ih =>
        intro hr
        show x.cells ++ flat r = _
        rw [hr x List.mem_cons_self, ih fun d hd => hr d (List.mem_cons_of_mem _ hd)]
        rfl
    exact gen l hcells
  let xs : List Int := l.map fun d => match d with
    | .int _ n => n
    | _ => 0
  have hstr : strOfNums xs = ⟨(l.map byteOf).toArray⟩ := by
    unfold strOfNums
    congr 2
    simp only [xs, List.map_map]
    apply List.map_congr_left
    intro d hd
    have := hb d hd
    cases d <;> first | rfl | (simp [isByte] at this; done)
  rcases dSlice hdv with ⟨rfl, hv⟩ | ⟨bl, off, cap, z, f, hv, hz, hg, hc, hsl, hall⟩ | ⟨rfl, a0, hv⟩
  case inr.inr =>
    have hl0 : (loadCells a0 0).run P w = .ok (([] : List Int).map (Value.int .u8)).toArray w := by
      have := run_loadCells_list (P := P) w a0 ([] : List Value) (fun j v hj => by simp at hj)
      simpa using this
    refine ⟨.string (strOfNums []), ?_, ?_⟩
    · simp only [execOp, hop, hv, Sem.run_bind]
      rw [run_convert_bytes_string (P := P) w s d e (some a0) 0 0 h1 h3 h2, run_bytesToString (P := P) w a0 0 0 [] hl0]
      rfl
    · exact .d .str
  · refine ⟨.string ⟨#[]⟩, ?_, .d .str⟩
    simp only [execOp, hop, hv, Sem.run_bind]
    rw [run_convert_bytes_nil (P := P) (w := w) s e h1 h3 0 0 d h2]
    rfl
  · refine ⟨.string (strOfNums xs), ?_, ?_⟩
    · simp only [execOp, hop, hv, Sem.run_bind]
      rw [run_convert_bytes_arg (P := P) (w := w) s e h1 h3 bl off l.length cap xs (by simp [xs]) (fun k hk => ?_) d h2]
      · rfl
      · have hk' : k < (flat l).length := by rw [hflat]; exact hk
        rw [hh.cell _ _ (hsl k hk')]
        have := hall k hk'
        have he : (flat l)[k] = l[k] := by simp only [hflat]
        rw [he] at this
        have hby := hb l[k] (List.getElem_mem hk)
        generalize hlk : l[k] = y at *
        cases y <;> simp only [isByte] at hby <;> try cases hby
        rename_i kk n
        have hk8 : kk = .u8 := by cases kk <;> first | rfl | cases hby
        subst hk8
        rw [dInt this]
        have : xs.getD k 0 = n := by
          simp only [xs, List.getD, List.getElem?_map, List.getElem?_eq_getElem hk, hlk, Option.map_some, Option.getD_some]
        rw [this]
    · rw [hstr]; exact .d .str

theorem fold_set0 (v : Array Value) (off : Nat) (cells : Array Value) (h : off + v.size ≤ cells.size) :
    (v.zipIdx.foldl (fun cs (x : Value × Nat) => match x with | (c, j) => cs.setIfInBounds (off + j) c) cells).size = cells.size ∧
    ∀ t, (v.zipIdx.foldl (fun cs (x : Value × Nat) => match x with | (c, j) => cs.setIfInBounds (off + j) c) cells)[t]? = if off ≤ t ∧ t < off + v.size then v[t - off]? else cells[t]? := by
  have := fold_set v.toList 0 off cells (by simpa using h)
  have he : Array.foldl (fun cs (x : Value × Nat) => cs.setIfInBounds (off + x.2) x.1) cells v.zipIdx = (v.toList.zipIdx 0).foldl (fun cs (x : Value × Nat) => cs.setIfInBounds (off + x.2) x.1) cells := by
    rw [← Array.foldl_toList]
    congr 1
    simp
  have he' : (v.zipIdx.foldl (fun cs (x : Value × Nat) => match x with | (c, j) => cs.setIfInBounds (off + j) c) cells) = (v.toList.zipIdx 0).foldl (fun cs (x : Value × Nat) => cs.setIfInBounds (off + x.2) x.1) cells := he
  rw [he']
  simpa using this

theorem fill_build {fs : Array Field} {place : Nat → Option (Nat × Nat)} (hplace : ∀ (n : Nat) (f : Field) (j : TypeInfo), fs[n]? = some f → P.info? f.type = some j → place n = some (f.offset, j.size)) {S : Seal} {i : Emb} {ρ : Operand → Value}
    (hev : ∀ x a, evL args x = some a → V S i a (ρ x)) : ∀ {parts : List (Nat × Operand)} {ps : List (Nat × Arg)} {pl : List (Nat × Nat × Arg)} {L L' : List AV} {s : Prop} {cells : Array Value},
    partsA parts = some ps → placesA P fs ps = some pl → buildF (evA args) L pl = some (L', s) → s → cells.size = L.length → (∀ k (h1 : k < L.length) (h2 : k < cells.size), V S i L[k] cells[k]) →
    ∃ C, Instr.fill place cells (parts.map fun p => (p.1, ρ p.2)) = some C ∧ C.size = L'.length ∧ ∀ k (h1 : k < L'.length) (h2 : k < C.size), V S i L'[k] C[k]
  | [], ps, pl, L, L', s, cells, h1, h2, h3, _, hsz, hv => by
    cases h1
    cases h2
    cases h3
    exact ⟨cells, rfl, hsz, hv⟩
  | (n, x) :: r, ps, pl, L, L', s, cells, h1, h2, h3, hs, hsz, hv => by
    simp only [partsA] at h1
    split at h1 <;> first | cases h1 | skip
    rename_i a l ha hl
    simp only [placesA] at h2
    split at h2 <;> first | cases h2 | skip
    rename_i f l' hf hl'
    simp only [Option.map_eq_some_iff] at h2
    obtain ⟨j, hj, rfl⟩ := h2
    simp only [buildF] at h3
    split at h3 <;> first | cases h3 | skip
    rename_i cs hcs
    split at h3 <;> first | cases h3 | skip
    rename_i L2 s2 hrec
    obtain ⟨⟨q1, q2⟩, q3⟩ := hs
    simp only [Option.bind_eq_some_iff] at hcs
    obtain ⟨y, hy, hcs⟩ := hcs
    obtain ⟨c1, c2⟩ := cellsAV_ok hcs (argV hev ha hy)
    obtain ⟨u1, u2⟩ := upd_at L f.offset cs (by omega)
    obtain ⟨g1, g2⟩ := fold_set0 (ρ x).cells f.offset cells (by omega)
    have hp := hplace n f j hf hj
    generalize hC : ((ρ x).cells.zipIdx.foldl (fun cs (x : Value × Nat) => match x with | (c, j) => cs.setIfInBounds (f.offset + j) c) cells) = C1 at g1 g2
    obtain ⟨C, hC1, hC2, hC3⟩ := fill_build hplace hev (cells := C1) hl hl' hrec q3 (by omega) fun k k1 k2 => by
      have hk := g2 k
      rw [getElem?_pos C1 k k2] at hk
      rw [u2 k k1]
      split
      · rename_i hb
        rw [if_pos (by omega)] at hk
        rw [getElem?_pos (ρ x).cells (k - f.offset) (by omega)] at hk
        injection hk with hk
        rw [hk]
        exact c2 _ _ _
      · rename_i hb
        rw [if_neg (by omega)] at hk
        rw [getElem?_pos cells k (by omega)] at hk
        injection hk with hk
        rw [hk]
        have h3 : k < L.length := by omega
        simpa [List.getD, h3] using hv k h3 (by omega)
    refine ⟨C, ?_, hC2, hC3⟩
    simp only [List.map_cons, Instr.fill, hp]
    rw [if_neg (by simp; omega)]
    rw [hC]
    exact hC1

theorem ok_build {t : TypeId} {parts : Array (Nat × Operand)} {fs : Array Field} {zz : List D} {ps : List (Nat × Arg)} {pl : List (Nat × Nat × Arg)} (hop : o.op = .build t parts) (hu : und P t = .struct fs)
    (hz : zeroA P t = some zz) (hps : partsA parts.toList = some ps) (hall : fs.toList.all (fun (f : Field) => (P.info? f.type).isSome) = true) (hpl : placesA P fs ps = some pl)
    (h : evOp own nl (evA args) H (.build zz pl) = some q) (hs : q.side) : OpT P (evL args) o q.hin q.r q.hout := by
  have hund := und_some hu (by simp)
  obtain ⟨j0, z0, hj0, hz0, hcz⟩ := zeroA_inv hz
  obtain ⟨hzz0, hzat⟩ := constDs_at hcz
  simp only [evOp] at h
  split at h <;> first | cases h | skip
  rename_i L s hL
  refine .pure (by simp [hop]) fun S i w ρ hev hh => ?_
  -- where each field lies
  let pls : List (Nat × Nat) := fs.toList.map fun (f : Field) => (f.offset, ((P.info? f.type).map (·.size)).getD 0)
  have hpls : fs.toList.mapM (fun (f : Field) => (P.info? f.type).map fun i => (f.offset, i.size)) = some pls := by
    have gen : ∀ l : List Field, l.all (fun (f : Field) => (P.info? f.type).isSome) = true → l.mapM (fun (f : Field) => (P.info? f.type).map fun i => (f.offset, i.size)) = some (l.map fun (f : Field) => (f.offset, ((P.info? f.type).map (·.size)).getD 0)) := by
      intro l
      induction l with
      | nil => intro _; rfl
      | cons f r ih =>
        intro h
        simp only [List.all_cons, Bool.and_eq_true] at h
        obtain ⟨j, hj⟩ := Option.isSome_iff_exists.1 h.1
        simp only [List.mapM_cons, hj, Option.map_some, ih h.2, List.map_cons, Option.getD_some]
        rfl
    exact gen _ hall
  have hplace : ∀ (n : Nat) (f : Field) (j : TypeInfo), fs[n]? = some f → P.info? f.type = some j → pls.toArray[n]? = some (f.offset, j.size) := by
    intro n f j hf hj
    simp only [pls, List.getElem?_toArray, List.getElem?_map, Array.getElem?_toList, hf, Option.map_some, hj, Option.getD_some]
  obtain ⟨C, hC1, hC2, hC3⟩ := fill_build (place := (pls.toArray[·]?)) (cells := z0.cells) hplace hev hps hpl hL hs (by simpa using hzz0.symm) fun k h1 h2 => by
    have := zAV_ok (S := S) (i := i) (hzat k (by simpa using h1) (by simpa using h2))
    simpa using this
  have hmk := mkAgg_ok (S := S) (i := i) (l := L) (f := fun k => C.getD k undef) fun m hm => by
    have := hC3 m hm (by omega)
    have h2 : m < C.size := by omega
    simpa [h2] using this
  have hCC : ((List.range L.length).map fun k => C.getD k undef).toArray = C := by
    apply Array.ext
    · simp [hC2]
    · intro k h1 h2
      simp [h2]
  rw [hCC] at hmk
  refine ⟨.agg C, ?_, hmk⟩
  have hbuilt : P.built t (parts.map fun (p : Nat × Operand) => (p.1, ρ p.2)).toList = some C := by
    simp only [Program.built, hj0, hund, hz0, hpls, Array.toList_map]
    exact hC1
  have := run_build (P := P) w t (parts.map fun (p : Nat × Operand) => (p.1, ρ p.2)) C hbuilt
  simp only [execOp, hop, Sem.run_bind]
  have he : (Instr.build t (parts.map fun x => match x with | (i, x) => (i, ρ x))).run P w = .ok (.agg C) w := this
  rw [he]
  rfl
end
end Go.Proofs.Abs
end
section
/- All operations together. -/
namespace Go.Proofs.Abs
open Go
section
variable {P : Program} {args : List (Nat × AV)} {H : AHeap} {o : Oper} {own : Bool} {nl : Nat} {q : Out}

theorem flat_scalar : ∀ {l : List D}, (∀ d ∈ l, d.isAgg = false) → flat l = l
  | [], _ => rfl
  | x :: r, h => by
    show x.cells ++ flat r = _
    have hx := h x List.mem_cons_self
    rw [flat_scalar fun d hd => h d (List.mem_cons_of_mem _ hd)]
    cases x <;> first | rfl | (simp [D.isAgg] at hx; done)

theorem ok_bs2bs {s d e1 e : TypeId} {x : Operand} {a : Arg} (hop : o.op = .convert s d x) (hx : argA x = some a) (hs' : und P s = .slice e1) (hd : und P d = .slice e) (he : und P e = .int .u8) (hsd : s = d)
    (h : evOp own nl (evA args) H (.bs2bs a) = some q) (hs : q.side) : OpT P (evL args) o q.hin q.r q.hout := by
  have h1 := und_some hs' (by simp)
  have h2 := und_some hd (by simp)
  have h3 := und_some he (by simp)
  subst hsd
  rw [h1] at h2
  cases h2
  simp only [evOp] at h
  split at h <;> first | cases h | skip
  rename_i l n cap hax
  split at h <;> first | cases h | skip
  rename_i L hL
  split at h <;> first | cases h | skip
  rename_i ds hds
  obtain ⟨hn, hcap⟩ := hs
  refine ⟨by simp [hop], fun S i w ρ hev hh _ => ?_⟩
  have hv := argV hev hx hax
  generalize hxv : ρ x = u at hv
  cases hv with
  | sl hi =>
    rename_i b
    rcases hh.obj l (.cells L) List.mem_cons_self with ⟨b', hb', c, e', hc, hsz, hval, hns⟩ | ⟨hno, _⟩
    case inr => rw [hi] at hno; cases hno
    rw [hi] at hb'
    cases hb'
    have hsh : w.shape? b = some (e', c.size) := by simp [World.shape?, hc]
    obtain ⟨t1, t2, t3⟩ := toDs_ok (S := S) (i := i) (f := fun k => c.getD k undef) 0 hds fun m hm => by
      have := hval m hm (by omega)
      have h2 : m < c.size := by omega
      simpa [h2] using this
    let w' := w.freeze ⟨b, c.size, none⟩ 1
    have hrun : (execOp ρ o).run P w = .ok (.value (.slice (some ⟨b, 0, none⟩) n cap)) w' := by
      simp [execOp, hop, hxv, convert, run_und h1, run_und h3, markStringish, hsh, w']
    rw [hrun]
    have hlt := hh.dom l b hi
    have hold : ∀ k, k ≠ b → w'.heap[k]? = w.heap[k]? := by
      intro k hk
      simp only [w', World.freeze]
      rw [if_neg (by decide)]
      simp [Array.getElem?_modify, Ne.symm hk]
    have hnew : w'.heap[b]? = some (.cells c e' (c.size, c.size + 1)) := by
      simp only [w', World.freeze]
      rw [if_neg (by decide)]
      simp [Array.getElem?_modify, hc]
    have hsize : w'.heap.size = w.heap.size := by
      simp only [w', World.freeze]
      rw [if_neg (by decide)]
      simp
    have hblk : blk i [(l, .cells L)] b := ⟨l, _, List.mem_cons_self, hi⟩
    have hup : S.le (S.ext b 0 c.size c) := by
      refine ⟨fun a v ha => ?_, fun b n h => h⟩
      simp only [Seal.ext]
      rw [if_neg]
      · exact ha
      · rintro ⟨q1, _⟩
        rw [hns a q1] at ha; cases ha
    have hfl := flat_scalar t2
    refine ⟨S.ext b 0 c.size c, i, ?_, ⟨fun a v ha => ?_, fun m n' hm => ?_, fun l' o' hm => (by cases hm), fun l1 o1 l2 o2 b' hm => (by cases hm), fun l' b' hb => (by rw [hsize]; exact hh.dom l' b' hb), fun a v h => hup.cell _ _ (hh.gr a v h)⟩, fun _ _ h => h,
      ⟨hup, by rw [hsize]; exact Nat.le_refl _, fun k _ hk => hold k fun hkb => hk (hkb ▸ hblk), fun a v ha => ?_, fun _ _ h => .inl h, fun b' ⟨l', o', hm, _⟩ => (by cases hm), ?_, ?_, ?_⟩, fun _ _ h => .inl h⟩
    · have hdv : DV (S.ext b 0 c.size c) (.sl ds) (.slice (some ⟨b, 0, none⟩) ds.length cap) := by
        refine .sl (z := 1) (fun k => c.getD k undef) (fun d hd => ?_) (by rw [hfl]; exact t2) (by omega) (fun m hm => ?_) (fun m hm => ?_)
        · have := t2 d hd
          cases d <;> first | rfl | (simp [D.isAgg] at this; done)
        · rw [hfl] at hm
          have hmc : m < c.size := by omega
          simp only [Seal.ext]
          rw [if_pos ⟨trivial, trivial, Nat.zero_le _, by show 0 + m < _; omega⟩]
          simp [hmc]
        · have hm' : m < ds.length := by rw [hfl] at hm; exact hm
          have he : (flat ds)[m] = ds[m] := by simp only [hfl]
          rw [he]
          have := (t3 m hm').mono hup
          simpa using this
      rw [hn]
      exact .d hdv
    · simp only [Seal.ext] at ha
      split at ha
      · rename_i hq
        obtain ⟨q1, q2, q3, q4⟩ := hq
        unfold World.cell?
        rw [q1, hnew]
        simp [q2, ha]
      · rename_i hq
        have hb : a.block ≠ b := by
          intro hb
          rw [hns a hb] at ha; cases ha
        have := hh.cell a v ha
        unfold World.cell? at *
        rw [hold _ hb]; exact this
    · by_cases hb : m = b
      · subst hb
        obtain ⟨c0, e0, f0, q0, qs0⟩ := hh.size m n' hm
        rw [hc] at q0
        cases q0
        exact ⟨c, e', _, hnew, qs0⟩
      · rw [hold m hb]; exact hh.size m n' hm
    · simp only [Seal.ext] at ha
      split at ha
      · rename_i hq; rw [hq.1]; exact .inr (.inl hblk)
      · exact .inl ha
    · simp only [w', World.freeze]; rw [if_neg (by decide)]
    · simp only [w', World.freeze]; rw [if_neg (by decide)]
    · simp only [w', World.freeze]; rw [if_neg (by decide)]

theorem evOp_bad : evOp own nl (evA args) H .bad = some q → False := by simp [evOp]

theorem ok_conv {s d : TypeId} {x : Operand} (hop : o.op = .convert s d x) (h : evOp own nl (evA args) H (compOp P o.op) = some q) (hs : q.side) : OpT P (evL args) o q.hin q.r q.hout := by
  rw [hop] at h
  simp only [compOp] at h
  cases hx : argA x <;> rw [hx] at h <;> try cases h
  simp only [compConv] at h
  split at h <;> first | cases h | skip
  · rename_i h1 h2; exact ok_cvi hop hx h1 h2 h
  · rename_i e h1 h2
    split at h <;> first | cases h | skip
    rename_i h3
    exact ok_bs2s hop hx h1 h2 h3 h hs
  · rename_i e h1 h2
    split at h <;> first | cases h | skip
    · rename_i h3; exact ok_s2bs hop hx h1 h2 h3 h
  · rename_i e1 e2 h1 h2
    split at h <;> first | cases h | skip
    rename_i h3
    split at h <;> first | cases h | skip
    rename_i h4
    exact ok_bs2bs hop hx h1 h2 h3 h4 h hs

theorem ok_call {c : Call} (hop : o.op = .call c) (h : evOp own nl (evA args) H (compOp P o.op) = some q) (hs : q.side) : OpT P (evL args) o q.hin q.r q.hout := by
  rw [hop] at h
  simp only [compOp] at h
  rcases compCall_inv (P := P) (c := c) with hb | hk
  · rw [hb] at h; exact (evOp_bad h).elim
  · generalize hao : compCall P c = ao at h hk
    cases hk with
    | len hc ha hx ht hu => exact ok_len hop hc ha hx ht hu h
    | slen hc ha hx ht hu => exact ok_slen hop hc ha hx ht hu h
    | cap hc ha hx ht hu => exact ok_cap hop hc ha hx ht hu h
    | app hc ha hx hy ht hu hu2 hz hj => exact ok_app hop hc ha hx hy ht hu hu2 hz hj h hs
    | copy => simp [evOp] at h
    | grow => simp [evOp] at h
    | max hc ha => exact ok_mm (b := true) hop hc ha h
    | min hc ha => exact ok_mm (b := false) hop hc ha h
    | call => simp [evOp] at h

/-- WHAT THE EVALUATION SAYS IS SO -/
theorem evOp_ok {ao : AOp} (h : evOp own nl (evA args) H ao = some q) (hs : q.side) : AOpT P ao args q.hin q.r q.hout := by
  refine ⟨fun x hx hb => ?_, fun o hao => ?_⟩
  · subst hx; rw [hb] at h; exact evOp_bad h
  subst hao
  cases hop : o.op with
  | move x => exact ok_mv (.inl hop) h
  | assign x => exact ok_mv (.inr hop) h
  | pick c a b => exact ok_pick hop h
  | alloc t => exact ok_alloc hop h
  | box t x => exact ok_box hop h
  | build t parts =>
    rw [hop] at h
    simp only [compOp] at h
    split at h <;> first | exact (evOp_bad h).elim | skip
    rename_i fs zz ps hu hz hps
    split at h <;> first | exact (evOp_bad h).elim | skip
    rename_i hall
    split at h <;> first | exact (evOp_bad h).elim | skip
    rename_i l hl
    exact ok_build hop hu hz hps hall hl h hs
  | buildSlice t n parts =>
    rw [hop] at h
    simp only [compOp] at h
    split at h <;> first | exact (evOp_bad h).elim | skip
    rename_i e ps hu hps
    split at h <;> first | exact (evOp_bad h).elim | skip
    rename_i zz hz
    simp only [szK] at h
    split at h <;> first | exact (evOp_bad h).elim | skip
    rename_i j hj
    exact ok_bslice hop hu hps hz hj h hs
  | load t x => exact ok_load hop h hs
  | store t x v => exact ok_store hop h hs
  | nilCheck x => exact ok_nilchk hop h
  | binOp op t x y t' => exact ok_bin hop h hs
  | unOp op t x => exact ok_un hop h
  | convert s d x => exact ok_conv hop h hs
  | makeFunc fn first caps =>
    rw [hop] at h
    cases fn with
    | func f =>
      simp only [compOp] at h
      split at h <;> first | exact (evOp_bad h).elim | skip
      rename_i hf
      split at h <;> first | exact (evOp_bad h).elim | skip
      rename_i l hl
      exact ok_mkfn hop hf hl h
    | _ => exact (evOp_bad h).elim
  | makeSlice t l c =>
    rw [hop] at h
    simp only [compOp] at h
    split at h <;> first | exact (evOp_bad h).elim | skip
    rename_i e a b hu hl hc
    split at h <;> first | exact (evOp_bad h).elim | skip
    rename_i zz hz
    simp only [sbK] at h
    split at h <;> first | exact (evOp_bad h).elim | skip
    rename_i j hj
    exact ok_mksl hop hu hl hc hz hj h hs
  | slice t x lo hi mx =>
    rw [hop] at h
    simp only [compOp] at h
    split at h <;> first | exact (evOp_bad h).elim | skip
    · rename_i a la ha hx hlo hhi hmx hu
      cases mx with
      | some m => simp only [oargA, Option.map_eq_some_iff] at hmx; obtain ⟨_, _, hmx⟩ := hmx; cases hmx
      | none => exact ok_ssl hop hx hlo hhi hu h hs
    · rename_i a la ha ma e hx hlo hhi hmx hu
      simp only [szK] at h
      split at h <;> first | exact (evOp_bad h).elim | skip
      rename_i j hj
      cases mx with
      | some m =>
        simp only [oargA, Option.map_eq_some_iff] at hmx
        obtain ⟨_, _, rfl⟩ := hmx
        simp [evOp] at h
      | none =>
        cases hmx
        exact ok_slc hop hx hlo hhi hu hj h hs
  | fieldAddr s x f => exact ok_faddr hop h
  | field s x f =>
    rw [hop] at h
    simp only [compOp] at h
    split at h <;> first | exact (evOp_bad h).elim | skip
    rename_i a fs hx hu
    split at h <;> first | exact (evOp_bad h).elim | skip
    rename_i fd hfd
    simp only [szK, aggK] at h
    split at h <;> first | exact (evOp_bad h).elim | skip
    rename_i j hj
    split at h <;> first | exact (evOp_bad h).elim | skip
    rename_i d hd
    exact ok_fld hop hx hu hfd hj hd h hs
  | indexAddr t x k =>
    rw [hop] at h
    simp only [compOp] at h
    split at h <;> first | exact (evOp_bad h).elim | skip
    · rename_i a b e hx hk hu
      simp only [szK] at h
      split at h <;> first | exact (evOp_bad h).elim | skip
      rename_i j hj
      exact ok_iaddr hop hx hk hu hj h hs
    · simp only [szK] at h
      split at h <;> first | exact (evOp_bad h).elim | (simp [evOp] at h; done)
  | index t x k =>
    rw [hop] at h
    simp only [compOp] at h
    split at h <;> first | exact (evOp_bad h).elim | skip
    · rename_i a b hx hk hu
      exact ok_idx hop hx hk hu h hs
    · simp only [szK, aggK] at h
      split at h <;> first | exact (evOp_bad h).elim | skip
      split at h <;> first | exact (evOp_bad h).elim | (simp [evOp] at h; done)
  | extract x k => exact ok_ext hop h
  | call c => exact ok_call hop h hs
  | makeMap t r =>
    exfalso
    rw [hop] at h
    cases r <;> simp [compOp, evOp] at h
  | lookup t x i ok =>
    exfalso
    rw [hop] at h
    cases ok
    · exact evOp_bad h
    · simp only [compOp] at h
      repeat' split at h
      all_goals simp [evOp] at h
  | mapUpdate t x k v =>
    exfalso
    rw [hop] at h
    simp only [compOp] at h
    repeat' split at h
    all_goals simp [evOp] at h
  | _ => rw [hop] at h; exact (evOp_bad h).elim
end
end Go.Proofs.Abs
end
section
/- Calls of functions that have a body; what a function's body comes to. -/
namespace Go.Proofs.Abs
open Go
section
variable {P : Program}

theorem run_enter {o : Oper} {c : Call} {f : Operand} {g : FuncId} {caps : Array Value} (hop : o.op = .call c) (hc : c.callee = .value f) {ρ : Operand → Value} (hρ : ρ f = .func (.func g) #[] caps)
    (hE : ∃ fn, P.funcs[g]? = some fn ∧ (fn.name == "runtime.NumGoroutine") = false ∧ fn.body.isSome = true) (w : World) :
    (execOp ρ o).run P w = .ok (.enter g (c.args.map ρ ++ caps)) w := by
  obtain ⟨fn, hf, hn, hb⟩ := hE
  have h1 : ¬ fn.name = "runtime.NumGoroutine" := by simpa using hn
  have h2 : ¬ fn.body = none := by cases hx : fn.body <;> simp_all
  unfold execOp
  simp [hop, resolve, hc, hρ, Deferred.ofValue, invoke, callFunc, hf, h1, h2]

theorem compBin_call {op : BinOp} {t : TypeId} {x y g : Arg} {l : List Arg} : compBin P op t x y = .call g l → False := by
  intro h
  unfold compBin at h
  repeat' (first | cases h | split at h)
theorem compConv_call {s d : TypeId} {x g : Arg} {l : List Arg} : compConv P s d x = .call g l → False := by
  intro h
  unfold compConv at h
  repeat' (first | cases h | split at h)

theorem compOp_call {op : Op} {g : Arg} {l : List Arg} (h : compOp P op = .call g l) : ∃ c f, op = .call c ∧ c.callee = .value f ∧ argA f = some g ∧ argsA c.args.toList = some l := by
  cases op with
  | call c =>
    simp only [compOp] at h
    rcases compCall_inv (P := P) (c := c) with hb | hk
    · rw [hb] at h; cases h
    · rw [h] at hk
      cases hk with
      | call hc hf ha => exact ⟨c, _, rfl, hc, hf, ha⟩
  | binOp op t x y _ =>
    simp only [compOp] at h
    split at h
    · exact (compBin_call h).elim
    · cases h
  | convert s d x =>
    simp only [compOp] at h
    split at h
    · exact (compConv_call h).elim
    · cases h
  | makeFunc fn first caps =>
    cases fn with
    | func f =>
      simp only [compOp] at h
      repeat' (first | cases h | split at h)
    | _ => cases h
  | makeMap t r => exfalso; cases r <;> simp [compOp] at h
  | lookup t x i ok =>
    exfalso
    cases ok
    · cases h
    · simp only [compOp] at h
      repeat' (first | cases h | split at h)
  | _ =>
    simp only [compOp, szK, sbK, aggK] at h
    repeat' (first | cases h | split at h)

/-- THE CALL OF A GO FUNCTION -/
theorem AOpT.call {args : List (Nat × AV)} {H H' : AHeap} {r : AV} {g : Arg} {l : List Arg} {f : FuncId} {vs : List AV} (hg : evA args g = some (.d (.fn f))) (hl : allAV (evA args) l = some vs)
    (h : ACalls P f vs H r H') : AOpT P (.call g l) args H r H' := by
  refine ⟨fun x hx hb => (by subst hx; cases hb), fun o hao => ?_⟩
  obtain ⟨c, fo, hop, hc, hfo, ha⟩ := compOp_call hao
  refine ⟨by simp [hop], fun S i w ρ hev hh hfr => ?_⟩
  obtain ⟨k1, k2⟩ := all_ok ha hl
  have hρ : ρ fo = .func (.func f) #[] #[] := by
    have := argV hev hfo hg
    generalize ρ fo = u at this
    cases vD this; rfl
  rw [run_enter hop hc hρ h.1]
  have hcall := h.2 S i w ((c.args.map ρ).toList) (by simp [← k1]) (fun j h1 h2 => by
    have := k2 hev j h1 (by omega)
    simpa using this) hh hfr
  rw [show (c.args.map ρ).toList.toArray = c.args.map ρ from Array.toArray_toList] at hcall
  simpa [Ends] using hcall

/-- .. and of a closure -/
theorem AOpT.callC {args : List (Nat × AV)} {H H' : AHeap} {r : AV} {g : Arg} {l : List Arg} {f : FuncId} {vs cs : List AV} (hg : evA args g = some (.fn f cs)) (hl : allAV (evA args) l = some vs)
    (h : ACalls P f (vs ++ cs) H r H') : AOpT P (.call g l) args H r H' := by
  refine ⟨fun x hx hb => (by subst hx; cases hb), fun o hao => ?_⟩
  obtain ⟨c, fo, hop, hc, hfo, ha⟩ := compOp_call hao
  refine ⟨by simp [hop], fun S i w ρ hev hh hfr => ?_⟩
  obtain ⟨k1, k2⟩ := all_ok ha hl
  have hv := argV hev hfo hg
  generalize hu : ρ fo = u at hv
  cases hv with
  | fn hlen hcs =>
    rename_i ws
    rw [run_enter hop hc hu h.1]
    have hcall := h.2 S i w ((c.args.map ρ).toList ++ ws) (by simp [← k1, hlen]) (fun j h1 h2 => by
      by_cases hj : j < vs.length
      · have := k2 hev j hj (by omega)
        have h3 : j < (c.args.map ρ).toList.length := by simp; simp at k1; omega
        rw [List.getElem_append_left hj, List.getElem_append_left h3]
        simpa using this
      · have h3 : ¬ j < (c.args.map ρ).toList.length := by simp; simp at k1; omega
        have e : (c.args.map ρ).toList.length = vs.length := by simp; simp at k1; omega
        rw [List.getElem_append_right (by omega), List.getElem_append_right (by omega)]
        simp only [e]
        exact hcs _ _ _) hh hfr
    rw [show ((c.args.map ρ).toList ++ ws).toArray = c.args.map ρ ++ ws.toArray by apply Array.ext' ; simp] at hcall
    simpa [Ends] using hcall

/-- what is read at the end -/
def resOne (l : List (Nat × AV)) (H : AHeap) : ARes → Option (AV × Prop)
  | .tmp t => (lk l t).bind fun x => some (x, True)
  | .cell t z g => (lk l t).bind fun x => (loadA H x z g).bind fun q => some (q.r, q.side)
  | .bad => none
def resAll (l : List (Nat × AV)) (H : AHeap) : List ARes → Option (List AV × Prop)
  | [] => some ([], True)
  | x :: r => (resOne l H x).bind fun (v, s) => (resAll l H r).bind fun (vs, ss) => some (v :: vs, s ∧ ss)
def resV : List AV → AV
  | [x] => x
  | l => .tup l

theorem loadA_hin {H : AHeap} {x : AV} {z : Nat} {g : Bool} {q : Out} (h : loadA H x z g = some q) : ∀ y ∈ q.hin, y ∈ H := by
  unfold loadA at h
  split at h
  · cases g
    · simp only [cond_false] at h
      split at h <;> cases h
      intro y hy; cases hy
    · simp only [cond_true] at h
      generalize hb : (Nat.beq _ 0 && _) = bb at h
      cases bb <;> cases h <;> (intro y hy; cases hy)
  · split at h
    · rename_i hL
      cases g
      · simp only [cond_false] at h
        split at h <;> cases h
        intro y hy
        cases List.mem_singleton.1 hy
        exact lkH_mem hL
      · simp only [cond_true] at h
        cases h
        intro y hy
        cases List.mem_singleton.1 hy
        exact lkH_mem hL
    · cases h
  · cases h
theorem loadA_ptr {H : AHeap} {x : AV} {z : Nat} {g : Bool} {q : Out} (h : loadA H x z g = some q) {S : Seal} {i : Emb} {v : Value} (hv : V S i x v) : ∃ a, v = .pointer (some a) := by
  unfold loadA at h
  split at h
  · cases hv; exact ⟨_, rfl⟩
  · cases hv; exact ⟨_, rfl⟩
  · cases h

def resultOf (tmps : Array Value) : ResultVar → Sem Value
  | .tmp t => pure (tmps.getD t undef)
  | .cell a t => do loadVar t (← asAddr (tmps.getD a undef))

theorem resOne_ok {S : Seal} {i : Emb} {a : AAct} {ca : Act} {H : AHeap} {w : World} (ha : ActRel S i a ca) (hh : HeapRel S i H w) {rv : ResultVar} {x : AV} {s : Prop}
    (h : resOne a.l H (match rv with
      | .tmp t => .tmp t
      | .cell t ty => match P.info? ty, P.underlying ty with
        | some j, some d => .cell t j.size (isAggD d)
        | _, _ => .bad) = some (x, s)) (hs : s) : ∃ v, (resultOf ca.tmps rv).run P w = .ok v w ∧ V S i x v := by
  cases rv with
  | tmp t =>
    simp only [resOne, Option.bind_eq_some_iff] at h
    obtain ⟨y, hy, h⟩ := h
    cases h
    exact ⟨_, by simp [resultOf], ha.get t _ hy⟩
  | cell t ty =>
    simp only at h
    split at h <;> first | cases h | skip
    rename_i j d hj hd
    simp only [resOne, Option.bind_eq_some_iff] at h
    obtain ⟨y, hy, q, hq, h⟩ := h
    cases h
    have hv := ha.get t _ hy
    obtain ⟨u, h1, h2, _⟩ := loadA_ok hd hj rfl hq hs hv (hh.perm (loadA_hin hq))
    obtain ⟨ad, had⟩ := loadA_ptr hq hv
    refine ⟨u, ?_, h2⟩
    simp only [resultOf]
    rw [had] at h1 ⊢
    simpa [Instr.loadAt, Instr.sureAddr, asAddr] using h1

theorem resAll_ok {S : Seal} {i : Emb} {a : AAct} {ca : Act} {H : AHeap} {w : World} (ha : ActRel S i a ca) (hh : HeapRel S i H w) : ∀ {rs : List ResultVar} {xs : List AV} {s : Prop},
    resAll a.l H (rs.map fun
      | .tmp t => .tmp t
      | .cell t ty => match P.info? ty, P.underlying ty with
        | some j, some d => .cell t j.size (isAggD d)
        | _, _ => .bad) = some (xs, s) → s → ∃ vs : List Value, (rs.mapM (resultOf ca.tmps)).run P w = .ok vs w ∧ xs.length = vs.length ∧ ∀ j (h1 : j < xs.length) (h2 : j < vs.length), V S i xs[j] vs[j]
  | [], xs, s, h, hs => by
    cases h
    exact ⟨[], by simp, rfl, fun j h1 => by simp at h1⟩
  | rv :: rs, xs, s, h, hs => by
    simp only [List.map_cons, resAll, Option.bind_eq_some_iff] at h
    obtain ⟨⟨x, s1⟩, h1, ⟨ys, s2⟩, h2, h⟩ := h
    cases h
    obtain ⟨v, k1, k2⟩ := resOne_ok (P := P) ha hh h1 hs.1
    obtain ⟨vs, k3, k4, k5⟩ := resAll_ok ha hh h2 hs.2
    refine ⟨v :: vs, by simp [List.mapM_cons, k1, k3], by simp [k4], fun j h1 h2 => ?_⟩
    cases j with
    | zero => exact k2
    | succ j => exact k5 j (by simpa using h1) (by simpa using h2)

theorem results_run {S : Seal} {i : Emb} {a : AAct} {ca : Act} {H : AHeap} {w : World} (ha : ActRel S i a ca) (hh : HeapRel S i H w) {fn : Func} {xs : List AV} {s : Prop}
    (h : resAll a.l H (compFunc P fn).res = some (xs, s)) (hs : s) : ∃ v, (results fn ca.tmps).run P w = .ok v w ∧ V S i (resV xs) v := by
  obtain ⟨vs, h1, h2, h3⟩ := resAll_ok (P := P) ha hh (rs := fn.results.toList) h hs
  have hr : (fn.results.mapM (resultOf ca.tmps)).run P w = .ok vs.toArray w := by
    rw [Array.mapM_eq_mapM_toList]
    simp [h1]
  have he : results fn ca.tmps = (do
      let us ← fn.results.mapM (resultOf ca.tmps)
      pure (if h : us.size = 1 then us[0] else .tuple us)) := by
    unfold results
    congr 1
  rw [he, Sem.run_bind, hr, Result.andThen_ok]
  refine ⟨_, Sem.run_pure .., ?_⟩
  clear h hr h1 he
  match xs, vs, h2, h3 with
  | [x], [v], _, h3 => simpa [resV] using h3 0 (by simp) (by simp)
  | [], [], _, h3 => exact .tup rfl h3
  | x :: y :: r, u :: v :: q, h2, h3 => exact .tup h2 h3

/-- the list of slots at the start -/
def startL : Nat → List AV → List (Nat × AV)
  | _, [] => []
  | k, x :: r => (k, x) :: startL (k + 1) r
theorem startL_get : ∀ {l : List AV} {k t : Nat} {x : AV}, lk (startL k l) t = some x → ∃ j, ∃ h : j < l.length, t = k + j ∧ l[j] = x
  | [], k, t, x, h => by cases h
  | y :: r, k, t, x, h => by
    simp only [startL, lk] at h
    cases hb : Nat.beq k t with
    | true =>
      rw [hb] at h
      cases h
      exact ⟨0, by simp, (Nat.eq_of_beq_eq_true hb).symm, rfl⟩
    | false =>
      rw [hb] at h
      obtain ⟨j, hj, rfl, hx⟩ := startL_get h
      exact ⟨j + 1, by simpa using hj, by omega, by simpa using hx⟩

/-- less is said -/
def Sub (x y : AV) : Prop := ∀ S i v, V S i x v → V S i y v
theorem Sub.refl (x : AV) : Sub x x := fun _ _ _ h => h
theorem Sub.sl {x : AV} {l : List D} (h : toSl x = some l) : Sub x (.d (.sl l)) := fun _ _ _ hv => .d (toSl_ok h hv)
theorem Sub.any (x : AV) : Sub x .any := fun _ _ _ _ => .any

/-- how a body ends well -/
def DoneS (rs : List ARes) (r : AV) (H' : AHeap) : Exit → AAct → AHeap → Nat → Prop := fun e a H _ =>
  (e = .normal ∨ e = .ret) ∧ ∃ xs s, resAll a.l H rs = some (xs, s) ∧ s ∧ Sub (resV xs) r ∧ ∀ x ∈ H', x ∈ H
def Done (rs : List ARes) (r : AV) (H' : AHeap) : Exit → AAct → AHeap → Nat → Prop := fun e a H _ =>
  (e = .normal ∨ e = .ret) ∧ ∃ xs s, resAll a.l H rs = some (xs, s) ∧ s ∧ r = resV xs ∧ ∀ x ∈ H', x ∈ H

theorem cell_putDef {w : World} {D : Nat} {o o' : Obj} {a : Addr} {v : Value} (hD : w.heap[D]? = some o) (ho : ∀ c e f, o ≠ .cells c e f) (h : w.cell? a = some v) : (w.putObj D o').cell? a = some v := by
  have hne : a.block ≠ D := by
    intro he
    unfold World.cell? at h
    rw [he, hD] at h
    cases o <;> simp_all
  unfold World.cell? at *
  rw [World.putObj_heap_other hne]
  exact h
/-- a mark is taken -/
theorem take_mark {S S' : Seal} {i i' : Emb} {H H' : AHeap} {w w' : World} {D : Nat} (hh : HeapRel S' i' H' w') (t : Tr S i H w S' i' H' w') (hD : w.heap.size ≤ D) (hd : w'.heap[D]? = some (.deferred (some []))) :
    HeapRel S' i' H' (w'.putObj D (.deferred none)) ∧ Tr S i H w S' i' H' (w'.putObj D (.deferred none)) := by
  have hne : ∀ l o b, (l, o) ∈ H' → i' l = some b → b ≠ D := by
    rintro l o b hm hb rfl
    rcases hh.obj l o hm with ⟨b', hb', hr⟩ | ⟨hn, _⟩
    · rw [hb] at hb'; cases hb'
      exact hr.notDef _ hd
    · rw [hb] at hn; cases hn
  refine ⟨⟨fun a v h => cell_putDef hd (by simp) (hh.cell a v h), fun b n h => ?_, fun l o hm => ?_, hh.inj, fun l b hb => (by simpa using hh.dom l b hb), hh.gr⟩,
    ⟨t.up, by simpa using t.grow, fun b hb hx => (World.putObj_heap_other (by omega)).trans (t.old b hb hx), t.newSeal, t.newEmb, t.sub, t.os, t.out, t.tape⟩⟩
  · obtain ⟨c, e, f, hc, hs⟩ := hh.size b n h
    exact ⟨c, e, f, (World.putObj_heap_other (by rintro rfl; rw [hd] at hc; cases hc)).trans hc, hs⟩
  · rcases hh.obj l o hm with ⟨b, hb, hr⟩ | hr
    · exact .inl ⟨b, hb, hr.later (.refl _) (fun _ _ h => h) (World.putObj_heap_other (hne l o b hm hb)) (fun a v h _ => h)⟩
    · exact .inr hr

/-- A FUNCTION, BY ITS BODY -/
theorem acalls_of_bodyS {k : FuncId} {F : AFunc} (hF : HasF P k F) {args : List AV} {H H' : AHeap} {r : AV} (n : Nat) (hargs : ∀ x ∈ args, x.lt n) (hH : ∀ l o, (l, o) ∈ H → l < n ∧ o.lt n)
    (hr : r.lb fun l => l < n ∨ l ∈ H'.keys ∧ l ∉ H.keys) (hH' : ∀ l o, (l, o) ∈ H' → (l < n ∨ l ∉ H.keys) ∧ o.lb fun l => l < n ∨ l ∈ H'.keys ∧ l ∉ H.keys) (hn : args.length ≤ F.n)
    (hb : AWc P none n F.body ⟨F.n, startL 0 args⟩ H n (DoneS F.res r H')) : ACalls P k args H r H' := by
  obtain ⟨fn, hfn, hname, hsome, hcomp⟩ := hF
  obtain ⟨c, hc⟩ := Option.isSome_iff_exists.1 hsome
  refine ⟨⟨fn, hfn, hname, hsome⟩, fun S i w vs hlen hvs hh hnew => ?_⟩
  have hbody : compCode P c = F.body := by rw [← hcomp]; simp [compFunc, hc]
  have hFn : fn.ntmps = F.n := by rw [← hcomp]; rfl
  have hw := hb c hbody S (i.cut n) w { tmps := vs.toArray ++ Array.replicate (fn.ntmps - vs.toArray.size) undef, defers := [] } ?_ ?_ (fun l b h => (Emb.cut_some h).1)
  rotate_left
  · refine ⟨by simp [hFn]; omega, fun t x hx => ?_⟩
    obtain ⟨j, hj, rfl, rfl⟩ := startL_get hx
    have := (hvs j hj (by omega)).cut (hargs _ (List.getElem_mem hj))
    have h2 : j < vs.length := by omega
    simpa [h2, Array.getElem?_append] using this
  · refine ⟨hh.cell, hh.size, fun l o hm => ?_, fun l o l' o' b x y hl hl' => hh.inj l o l' o' b x y (Emb.cut_some hl).2 (Emb.cut_some hl').2,
      fun l b hl => hh.dom l b (Emb.cut_some hl).2, hh.gr⟩
    obtain ⟨hl, ho⟩ := hH l o hm
    rcases hh.obj l o hm with ⟨b, hb, hr⟩ | ⟨hn, ho'⟩
    case inr => exact .inr ⟨by rw [Emb.cut_of hl]; exact hn, ho'⟩
    refine .inl ⟨b, by rw [Emb.cut_of hl]; exact hb, ?_⟩
    exact hr.relabel (fun _ hl => Emb.cut_of hl) ho
  refine callsIn_wide (n := 0) |>.1 (callsIn_of_wp_marks hfn hc trivial (wpIn_mono hw ?_))
  rintro ex ca' w' ⟨a', H'', n'', S', i'', ⟨hex, xs, s, hres, hs, hsubr, hsub⟩, ra, ⟨bs, hnd, hdf, hbs⟩, rh, rn, re, rt⟩
  have main : ∀ (bs : List Nat) (w' : World), bs.Nodup → (∀ D ∈ bs, w.heap.size ≤ D ∧ w'.heap[D]? = some (.deferred (some []))) → HeapRel S' i'' H'' w' → Tr S (i.cut n) H w S' i'' H'' w' →
      LeavesInM Fence.wide 0 P fn ca'.tmps (fun e w' => ∃ v, e = .returned v ∧ Post S i H w r H' v w') (bs.map markOf ++ []) .returning w' := by
    intro bs
    induction bs with
    | cons D bs ih =>
      intro w' hnd hbs rh rt
      obtain ⟨h1, h2⟩ := hbs D List.mem_cons_self
      obtain ⟨k1, k2⟩ := take_mark rh rt h1 h2
      refine ⟨by simp, .inl ⟨D, _, rfl, run_takeDeferred h2, ih _ (List.nodup_cons.1 hnd).2 (fun E hE => ⟨(hbs E (List.mem_cons_of_mem _ hE)).1, ?_⟩) k1 k2⟩⟩
      rw [World.putObj_heap_other]
      · exact (hbs E (List.mem_cons_of_mem _ hE)).2
      · rintro rfl; exact (List.nodup_cons.1 hnd).1 hE
    | nil =>
    intro w' _ _ rh rt
    obtain ⟨v, hv1, hv2⟩ := results_run (P := P) (fn := fn) ra rh (by rw [hcomp]; exact hres) hs
    refine ⟨v, hv1, v, rfl, ?_⟩
    have hv2 := hsubr _ _ _ hv2
    classical
    let j : Emb := fun l => if l ∈ H'.keys ∧ l ∉ H.keys then i'' l else i l
    have hj : ∀ l, (l < n ∨ l ∈ H'.keys ∧ l ∉ H.keys) → j l = i'' l := by
      intro l hl
      simp only [j]
      split
      · rfl
      · rename_i hno
        rcases hl with hl | hl
        · rw [re l hl, Emb.cut_of hl]
        · exact absurd hl hno
    have hjle : i.le j := by
      intro l b hl
      simp only [j]
      split
      · rename_i hy
        rw [hnew l hy.1 hy.2] at hl; cases hl
      · exact hl
    have hk : ∀ l o, (l, o) ∈ H' → j l = i'' l := by
      intro l o hm
      refine hj l ?_
      rcases (hH' l o hm).1 with h | h
      · exact .inl h
      · exact .inr ⟨mem_keys.2 ⟨o, hm⟩, h⟩
    have hblk : ∀ b, blk (i.cut n) H b → blk i H b := fun b ⟨l, o, hx, hb⟩ => ⟨l, o, hx, (Emb.cut_some hb).2⟩
    have hjd : ∀ l b, j l = some b → i l = some b ∨ (l ∈ H'.keys ∧ l ∉ H.keys ∧ i'' l = some b) := by
      intro l b hl
      simp only [j] at hl
      split at hl
      · rename_i hy; exact .inr ⟨hy.1, hy.2, hl⟩
      · exact .inl hl
    refine ⟨S', j, hv2.relabel hj hr, ⟨rh.cell, rh.size, fun l o hm => ?_, fun l o l' o' b x y hl hl' => ?_, fun l b hl => ?_, rh.gr⟩, hjle, ⟨rt.up, rt.grow, fun b hb hx => rt.old b hb fun h => hx (hblk b h),
      fun a v hv => (rt.newSeal a v hv).imp id (Or.imp (hblk _) id), fun l b hb => ?_, fun b ⟨l, o, hm, hb⟩ => ?_, rt.os, rt.out, rt.tape⟩, fun l b hl => (hjd l b hl).imp id fun h => ⟨h.1, h.2.1⟩⟩
    · rw [hk l o hm]
      rcases rh.obj l o (hsub _ hm) with ⟨b, hb, hro⟩ | ⟨h1, h2⟩
      · refine .inl ⟨b, hb, ?_⟩
        exact hro.relabel hj (hH' l _ hm).2
      · exact .inr ⟨h1, h2⟩
    · rw [hk l o x] at hl
      rw [hk l' o' y] at hl'
      exact rh.inj l o l' o' b (hsub _ x) (hsub _ y) hl hl'
    · rcases hjd l b hl with h | ⟨_, _, h⟩
      · exact Nat.lt_of_lt_of_le (hh.dom l b h) rt.grow
      · exact rh.dom l b h
    · rcases hjd l b hb with h | ⟨_, _, h⟩
      · exact .inl h
      · exact (rt.newEmb l b h).imp (fun h => (Emb.cut_some h).2) (Or.imp (hblk b) id)
    · rw [hk l o hm] at hb
      exact (rt.sub b ⟨l, o, hsub _ hm, hb⟩).imp (hblk b) id
  have hgo : LeavesInM Fence.wide 0 P fn ca'.tmps (fun e w' => ∃ v, e = .returned v ∧ Post S i H w r H' v w') ca'.defers .returning w' := by
    rw [hdf]
    exact main bs w' hnd hbs rh rt
  rcases hex with rfl | rfl
  · exact hgo
  · exact hgo
end
end Go.Proofs.Abs
end
section
/- A region is run: its evaluation at once, calls by what is known of them. -/
namespace Go.Proofs.Abs
open Go
section
variable {P : Program}

theorem evOp_hin {args : List (Nat × AV)} {H : AHeap} {own : Bool} {nl : Nat} {q : Out} {ao : AOp} (h : evOp own nl (evA args) H ao = some q) : ∀ y ∈ q.hin, y ∈ H := by
  have hnil : ∀ {q : Out}, q.hin = [] → ∀ y ∈ q.hin, y ∈ H := fun h y hy => by rw [h] at hy; cases hy
  have hone : ∀ {q : Out} {l : Nat} {x : AObj}, lkH H l = some x → q.hin = [(l, x)] → ∀ y ∈ q.hin, y ∈ H := fun h h' y hy => by
    rw [h'] at hy
    cases List.mem_singleton.1 hy
    exact lkH_mem h
  cases ao with
  | load x z g =>
    simp only [evOp, Option.bind_eq_some_iff] at h
    obtain ⟨y, _, h⟩ := h
    exact loadA_hin h
  | store x v z =>
    simp only [evOp] at h
    split at h <;> first | cases h | skip
    split at h <;> first | cases h | skip
    exact hone (by assumption) rfl
  | app x y z b zz =>
    simp only [evOp] at h
    split at h <;> first | cases h | skip
    · cases own <;> cases h <;> exact hnil rfl
    · generalize Nat.beq z _ = bb at h
      cases bb
      · cases h
      · simp only [cond_true] at h
        split at h <;> first | cases h | skip
        exact hone (by assumption) rfl
    · generalize Nat.beq z _ = bb at h
      cases bb
      · cases h
      · simp only [cond_true] at h
        split at h <;> first | cases h | skip
        exact hone (by assumption) rfl
  | bs2bs x =>
    simp only [evOp] at h
    split at h <;> first | cases h | skip
    split at h <;> first | cases h | skip
    split at h <;> first | cases h | skip
    exact hone (by assumption) rfl
  | bslice n z zz ps =>
    simp only [evOp] at h
    cases hb : natListBeq (ps.map (·.1)) (List.range n) <;> rw [hb] at h
    · cases h
    · simp only [cond_true] at h
      split at h <;> first | cases h | skip
      cases own
      · simp only [cond_false] at h
        split at h <;> cases h
        exact hnil rfl
      · simp only [cond_true] at h
        split at h <;> cases h
        exact hnil rfl
  | mksl l c z b zz =>
    simp only [evOp] at h
    split at h <;> first | cases h | skip
    cases own <;> cases h <;> exact hnil rfl
  | iaddr x i z =>
    simp only [evOp] at h
    split at h
    · generalize Nat.beq z _ = bb at h
      cases bb <;> cases h
      exact hnil rfl
    · simp only [Option.bind_eq_some_iff, out] at h
      obtain ⟨_, _, h⟩ := h
      cases h
      exact hnil rfl
    · cases h
  | slc x lo hi mx z =>
    cases mx with
    | some m => cases h
    | none =>
      simp only [evOp] at h
      split at h <;> first | cases h | skip
      · generalize Nat.beq z _ = bb at h
        cases bb
        · cases h
        · simp only [cond_true, Option.bind_eq_some_iff, out] at h
          obtain ⟨_, _, h⟩ := h
          cases h
          exact hnil rfl
      · split at h
        · simp only [Option.bind_eq_some_iff, out] at h
          obtain ⟨_, _, h⟩ := h
          cases h
          exact hnil rfl
        · simp only [Option.bind_eq_some_iff, out] at h
          obtain ⟨_, _, h⟩ := h
          cases h
          exact hnil rfl
      · simp only [Option.bind_eq_some_iff, out] at h
        obtain ⟨_, _, _, _, h⟩ := h
        cases h
        exact hnil rfl
  | fld x o z g =>
    simp only [evOp] at h
    split at h <;> first | cases h | skip
    cases g
    · simp only [cond_false] at h
      split at h <;> cases h
      exact hnil rfl
    · cases h
      exact hnil rfl
  | _ =>
    simp only [evOp, out] at h
    repeat' (first | cases h | (simp only [Option.bind_eq_some_iff] at h; obtain ⟨_, _, h⟩ := h) | split at h)
    all_goals first | exact hnil rfl | skip

/-- what a call comes to, as it is said -/
structure Cres where
  r : AV
  hin : AHeap := []
  hout : AHeap := []

def dstOK (d : Option Nat) (N : Nat) : Bool := match d with
  | none => true
  | some t => Nat.blt t N
def putL (d : Option Nat) (x : AV) (l : List (Nat × AV)) : List (Nat × AV) := match d with
  | none => l
  | some t => (t, x) :: l
def hasK (l : Nat) : AHeap → Bool
  | [] => false
  | (k, _) :: r => bif Nat.beq k l then true else hasK l r
def topK (c : Nat) : AHeap → Nat
  | [] => c
  | (l, _) :: r => topK (bif Nat.blt l c then c else l + 1) r
def newOK (c : Nat) (hin : AHeap) : AHeap → Bool
  | [] => true
  | (l, _) :: r => bif (bif Nat.ble c l then true else hasK l hin) then newOK c hin r else false
def restK (hin hout : AHeap) : AHeap → AHeap
  | [] => []
  | (l, o) :: r => bif hasK l hin then restK hin hout r else bif hasK l hout then restK hin hout r else (l, o) :: restK hin hout r
def appK : AHeap → AHeap → AHeap
  | [], H => H
  | x :: r, H => x :: appK r H

theorem hasK_iff {l : Nat} {H : AHeap} : hasK l H = true ↔ l ∈ H.keys := by
  induction H with
  | nil => simp [hasK, AHeap.keys]
  | cons p r ih =>
    obtain ⟨k, o⟩ := p
    simp only [hasK, AHeap.keys, List.map_cons, List.mem_cons]
    cases hb : Nat.beq k l with
    | true => simp [Nat.eq_of_beq_eq_true hb]
    | false =>
      have : ¬ l = k := fun h => by rw [h, Nat.beq_refl] at hb; cases hb
      simp only [cond_false, this, false_or]
      exact ih
theorem topK_le {H : AHeap} : ∀ {c : Nat}, c ≤ topK c H ∧ ∀ l ∈ H.keys, l < topK c H := by
  induction H with
  | nil => intro c; simp [topK, AHeap.keys]
  | cons p r ih =>
    obtain ⟨k, o⟩ := p
    intro c
    simp only [topK, AHeap.keys, List.map_cons, List.mem_cons]
    obtain ⟨h1, h2⟩ := ih (c := bif Nat.blt k c then c else k + 1)
    have hk : c ≤ (bif Nat.blt k c then c else k + 1) ∧ k < (bif Nat.blt k c then c else k + 1) := by
      cases hb : Nat.blt k c with
      | true => simp only [cond_true]; exact ⟨Nat.le_refl _, Nat.le_of_ble_eq_true hb⟩
      | false =>
        simp only [cond_false]
        have : ¬ k < c := by
          intro h
          have : Nat.blt k c = true := Nat.ble_eq_true_of_le h
          rw [hb] at this; cases this
        omega
    refine ⟨by omega, ?_⟩
    rintro l (rfl | hl)
    · omega
    · exact h2 l hl
theorem newOK_iff {c : Nat} {hin H : AHeap} (h : newOK c hin H = true) : ∀ l ∈ H.keys, c ≤ l ∨ l ∈ hin.keys := by
  induction H with
  | nil => intro l hl; cases hl
  | cons p r ih =>
    obtain ⟨k, o⟩ := p
    simp only [newOK] at h
    cases hb : (bif Nat.ble c k then true else hasK k hin) with
    | false => rw [hb] at h; cases h
    | true =>
      rw [hb] at h
      intro l hl
      simp only [AHeap.keys, List.map_cons, List.mem_cons] at hl
      rcases hl with rfl | hl
      · cases hc : Nat.ble c l with
        | true => exact .inl (Nat.le_of_ble_eq_true hc)
        | false => rw [hc] at hb; exact .inr (hasK_iff.1 hb)
      · exact ih h l hl
theorem appK_eq {A H : AHeap} : appK A H = A ++ H := by
  induction A with
  | nil => rfl
  | cons x r ih => simp [appK, ih]
theorem restK_eq {hin hout H : AHeap} : restK hin hout H = restH (hin.keys ++ hout.keys) H := by
  induction H with
  | nil => rfl
  | cons p r ih =>
    obtain ⟨k, o⟩ := p
    simp only [restK]
    have hmem : ∀ b, (hin.keys ++ hout.keys).elem k = b → restH (hin.keys ++ hout.keys) ((k, o) :: r) = bif b then restH (hin.keys ++ hout.keys) r else (k, o) :: restH (hin.keys ++ hout.keys) r := by
      intro b hb
      simp only [restH, List.filter_cons, hb]
      cases b <;> rfl
    cases h1 : hasK k hin with
    | true =>
      rw [hmem true (by simp [hasK_iff.1 h1])]
      exact ih
    | false =>
      have h1' : k ∉ hin.keys := fun h => by rw [hasK_iff.2 h] at h1; cases h1
      cases h2 : hasK k hout with
      | true =>
        rw [hmem true (by simp [hasK_iff.1 h2])]
        exact ih
      | false =>
        have h2' : k ∉ hout.keys := fun h => by rw [hasK_iff.2 h] at h2; cases h2
        rw [hmem false (by simp [h1', h2'])]
        simp [ih]

structure RunOut where
  l : List (Nat × AV)
  H : AHeap
  c : Nat
  side : Prop

/-- after one operation -/
def stepR (N : Nat) (d : Option Nat) (c : Nat) (l : List (Nat × AV)) (H : AHeap) (r : AV) (hin hout : AHeap) (k : Nat → List (Nat × AV) → AHeap → Option RunOut) : Option RunOut :=
  bif dstOK d N then (bif newOK c hin hout then k (topK c hout) (putL d r l) (appK hout (restK hin hout H)) else none) else none
def addS (s : Prop) : Option RunOut → Option RunOut
  | some o => some ⟨o.l, o.H, o.c, s ∧ o.side⟩
  | none => none

def callOf : AV → List AV → Option (FuncId × List AV)
  | .d (.fn f), vs => some (f, vs)
  | .fn f cs, vs => some (f, vs ++ cs)
  | _, _ => none

def runReg (P : Program) (N : Nat) (own : Nat → Bool) : List AOper → Nat → List Cres → Nat → List (Nat × AV) → AHeap → Option RunOut
  | [], _, _, c, l, H => some ⟨l, H, c, True⟩
  | ⟨d, op, g, _⟩ :: os, k, cs, c, l, H =>
    match gOn g l with
    | none => none
    | some false => stepR N d c l H (.tup []) [] [] fun c l H => runReg P N own os (k + 1) cs c l H
    | some true => match op with
      | .call gg as => (match evA l gg, allAV (evA l) as, cs with
        | some fv, some vs, q :: cs' => (match callOf fv vs with
          | some (f, ws) => addS (ACalls P f ws q.hin q.r q.hout ∧ ∀ x ∈ q.hin, x ∈ H) (stepR N d c l H q.r q.hin q.hout fun c l H => runReg P N own os (k + 1) cs' c l H)
          | none => none)
        | _, _, _ => none)
      | op => (match evOp (own k) c (evA l) H op with
        | some q => addS q.side (stepR N d c l H q.r q.hin q.hout fun c l H => runReg P N own os (k + 1) cs c l H)
        | none => none)

def RegOK (P : Program) (aops : List AOper) (N k m : Nat) (c : Nat) (l : List (Nat × AV)) (H : AHeap) (o : RunOut) : Prop :=
  ∀ n L, n ≤ c → (∀ x ∈ L, x < c) → ∃ rs : List Rec, rs.map (·.idx) = List.range' k m ∧ (∀ r ∈ rs, RecOK P aops r) ∧ chain rs ⟨N, l⟩ H ⟨N, o.l⟩ o.H ∧ freshL n L rs ∧ c ≤ o.c ∧ ∀ x ∈ rs.flatMap newLab, x < o.c

theorem addS_some {s : Prop} {x : Option RunOut} {o : RunOut} (h : addS s x = some o) (hs : o.side) : s ∧ ∃ o', x = some o' ∧ o'.side ∧ o'.l = o.l ∧ o'.H = o.H ∧ o'.c = o.c := by
  unfold addS at h
  split at h
  · cases h
    exact ⟨hs.1, _, rfl, hs.2, rfl, rfl, rfl⟩
  · cases h

theorem step_ok {aops : List AOper} {N k m c : Nat} {d : Option Nat} {l : List (Nat × AV)} {H : AHeap} {r : AV} {hin hout : AHeap} {K : Nat → List (Nat × AV) → AHeap → Option RunOut} {o : RunOut}
    (h : stepR N d c l H r hin hout K = some o) (hok : RecOK P aops ⟨k, d, l, hin, hout, r⟩) (hsub : ∀ x ∈ hin, x ∈ H)
    (hK : ∀ c' l' H', K c' l' H' = some o → RegOK P aops N (k + 1) m c' l' H' o) : RegOK P aops N k (m + 1) c l H o := by
  unfold stepR at h
  cases hd : dstOK d N with
  | false => rw [hd] at h; cases h
  | true =>
    rw [hd] at h
    simp only [cond_true] at h
    cases hn : newOK c hin hout with
    | false => rw [hn] at h; cases h
    | true =>
      rw [hn] at h
      simp only [cond_true] at h
      intro n L hnc hL
      obtain ⟨t1, t2⟩ := topK_le (c := c) (H := hout)
      have hnew : ∀ x ∈ newLab ⟨k, d, l, hin, hout, r⟩, c ≤ x ∧ x < topK c hout := by
        intro x hx
        obtain ⟨h1, h2⟩ := mem_newLab.1 hx
        refine ⟨?_, t2 x h1⟩
        rcases newOK_iff hn x h1 with h | h
        · exact h
        · exact absurd h h2
      obtain ⟨rs, r1, r2, r3, r4, r5, r6⟩ := hK _ _ _ h n (newLab ⟨k, d, l, hin, hout, r⟩ ++ L) (by omega) (fun x hx => by
        rcases List.mem_append.1 hx with hx | hx
        · exact (hnew x hx).2
        · have := hL x hx; omega)
      refine ⟨⟨k, d, l, hin, hout, r⟩ :: rs, by simp [r1, List.range'], fun x hx => ?_, ⟨⟨fun _ _ h => h, hsub, fun t ht => ?_⟩, ?_⟩, ⟨fun x hx => ?_, r4⟩, by omega, fun x hx => ?_⟩
      · rcases List.mem_cons.1 hx with rfl | hx
        · exact hok
        · exact r2 x hx
      · dsimp only at ht
        subst ht
        exact Nat.le_of_ble_eq_true hd
      · have e1 : (AAct.put ⟨N, l⟩ d r) = ⟨N, putL d r l⟩ := by cases d <;> rfl
        have e2 : stepH ⟨k, d, l, hin, hout, r⟩ H = appK hout (restK hin hout H) := by rw [appK_eq, restK_eq]; rfl
        rw [e1, e2]
        exact r3
      · obtain ⟨h1, h2⟩ := hnew x hx
        refine ⟨by omega, fun hx' => ?_⟩
        have := hL x hx'
        omega
      · rcases List.mem_append.1 (by simpa using hx : x ∈ newLab ⟨k, d, l, hin, hout, r⟩ ++ rs.flatMap newLab) with hx | hx
        · have := (hnew x hx).2; omega
        · exact r6 x hx

theorem runReg_ok {aops : List AOper} {N : Nat} {own : Nat → Bool} : ∀ (os pre : List AOper) (cs : List Cres) (c : Nat) (l : List (Nat × AV)) (H : AHeap) (o : RunOut), pre ++ os = aops →
    runReg P N own os pre.length cs c l H = some o → o.side → RegOK P aops N pre.length os.length c l H o
  | [], pre, cs, c, l, H, o, _, h, hs => by
    cases h
    intro n L hn hL
    exact ⟨[], rfl, fun r hr => (by cases hr), ⟨rfl, rfl⟩, trivial, Nat.le_refl _, fun x hx => (by simp at hx)⟩
  | ⟨d, op, g, af⟩ :: os, pre, cs, c, l, H, o, hpre, h, hs => by
    have hget : aops[pre.length]? = some ⟨d, op, g, af⟩ := by rw [← hpre]; simp
    have ih : ∀ (o' : RunOut), o'.side → o'.l = o.l → o'.H = o.H → o'.c = o.c → ∀ cs' c' l' H', runReg P N own os (pre.length + 1) cs' c' l' H' = some o' → RegOK P aops N (pre.length + 1) os.length c' l' H' o' := by
      intro o' hs' e1 e2 e3 cs' c' l' H' h'
      have := runReg_ok (aops := aops) os (pre ++ [⟨d, op, g, af⟩]) cs' c' l' H' o' (by rw [← hpre]; simp) (by simpa using h') hs'
      simpa using this
    have back : ∀ {o' : RunOut} {k m c l H}, o'.l = o.l → o'.H = o.H → o'.c = o.c → RegOK P aops N k m c l H o' → RegOK P aops N k m c l H o := by
      intro o' k m c l H e1 e2 e3 h
      unfold RegOK at *
      rw [e1, e2, e3] at h
      exact h
    simp only [runReg] at h
    split at h
    · cases h
    · rename_i hg
      exact step_ok h ⟨_, hget, rfl, .inr ⟨hg, rfl, rfl, rfl⟩⟩ (fun x hx => by cases hx) fun c' l' H' h' => ih o hs rfl rfl rfl _ c' l' H' h'
    · rename_i hg
      split at h
      · rename_i gg as
        split at h <;> first | cases h | skip
        rename_i fv vs q cs' hfv hvs
        split at h <;> first | cases h | skip
        rename_i f ws hcall
        obtain ⟨⟨h1, h2⟩, o', ho', hs', e1, e2, e3⟩ := addS_some h hs
        refine back e1 e2 e3 (step_ok ho' ⟨_, hget, rfl, .inl ⟨hg, ?_⟩⟩ h2 fun c' l' H' h' => ih o' hs' e1 e2 e3 _ c' l' H' h')
        unfold callOf at hcall
        split at hcall <;> cases hcall
        · exact AOpT.call hfv hvs h1
        · exact AOpT.callC hfv hvs h1
      · split at h <;> first | cases h | skip
        rename_i q hq
        obtain ⟨h1, o', ho', hs', e1, e2, e3⟩ := addS_some h hs
        exact back e1 e2 e3 (step_ok ho' ⟨_, hget, rfl, .inl ⟨hg, evOp_ok hq h1⟩⟩ (evOp_hin hq) fun c' l' H' h' => ih o' hs' e1 e2 e3 _ c' l' H' h')

/-- A REGION IS RUN -/
theorem AWc.run {ro : Option Nat} {m n N : Nat} {aops : List AOper} {l l' : List (Nat × AV)} {H H' : AHeap} {n' : Nat} {s : Prop} {Q : Exit → AAct → AHeap → Nat → Prop} (cs : List Cres) (own : Nat → Bool) (hm : m ≤ n)
    (h : runReg P N own aops 0 cs n l H = some ⟨l', H', n', s⟩) (hs : s) (hQ : Q .normal ⟨N, l'⟩ H' n') : AWc P ro m (.region false aops) ⟨N, l⟩ H n Q := by
  obtain ⟨rs, r1, r2, r3, r4, r5, r6⟩ := runReg_ok aops [] cs n l H _ rfl h hs n [] (Nat.le_refl _) (fun x hx => by cases hx)
  exact .region rs (by rw [r1, List.range_eq_range']; simp) r2 r3 r4 r5 r6 hm hQ
end
end Go.Proofs.Abs
end
section
/- Labels are renamed; less is said of a value; what is nothing yet may be appended to. -/
namespace Go.Proofs.Abs
open Go

mutual
def AV.ren (s : Nat → Nat) : AV → AV
  | .d x => .d x
  | .cp x off => .cp x off
  | .ptr l off => .ptr (s l) off
  | .sl l off len cap z => .sl (s l) off len cap z
  | .ap l z xs => .ap (s l) z xs
  | .win xs n => .win xs n
  | .nils => .nils
  | .agg l => .agg (AV.renL s l)
  | .tup l => .tup (AV.renL s l)
  | .fn f l => .fn f (AV.renL s l)
  | .mp l => .mp (s l)
  | .lf l => .lf (s l)
  | .dn xs => .dn xs
  | .row l z n => .row (s l) z n
  | .apo l z xs => .apo (s l) z xs
  | .any => .any
def AV.renL (s : Nat → Nat) : List AV → List AV
  | [] => []
  | x :: r => AV.ren s x :: AV.renL s r
end
theorem renL_eq {s : Nat → Nat} : ∀ {l : List AV}, AV.renL s l = l.map (AV.ren s)
  | [] => by rw [AV.renL]; rfl
  | x :: r => by rw [AV.renL, renL_eq]; rfl

theorem V.unren {S : Seal} {i : Emb} {s : Nat → Nat} {y : AV} {v : Value} (h : V S i y v) : ∀ {x : AV}, x.ren s = y → V S (fun l => i (s l)) x v := by
  have len : ∀ {l : List AV} {m : List AV}, AV.renL s l = m → l.length = m.length := fun e => by rw [← e, renL_eq]; simp
  have get : ∀ {l m : List AV} (e : AV.renL s l = m) (j : Nat) (h1 : j < l.length) (h2 : j < m.length), (l[j]).ren s = m[j] := by
    intro l m e j h1 h2
    subst e
    simp [renL_eq]
  induction h with
  | d h => intro x hx; cases x <;> simp only [AV.ren, reduceCtorEq, AV.d.injEq] at hx; subst hx; exact .d h
  | cp f hg hs h => intro x hx; cases x <;> simp only [AV.ren, reduceCtorEq, AV.cp.injEq] at hx; obtain ⟨rfl, rfl⟩ := hx; exact .cp f hg hs h
  | ptr h => intro x hx; cases x <;> simp only [AV.ren, reduceCtorEq, AV.ptr.injEq] at hx; obtain ⟨rfl, rfl⟩ := hx; exact .ptr h
  | sl h => intro x hx; cases x <;> simp only [AV.ren, reduceCtorEq, AV.sl.injEq] at hx; obtain ⟨rfl, rfl, rfl, rfl, rfl⟩ := hx; exact .sl h
  | apn => intro x hx; cases x <;> simp only [AV.ren, reduceCtorEq, AV.ap.injEq] at hx; obtain ⟨rfl, rfl, rfl⟩ := hx; exact .apn
  | ap h hd hz hn hc => intro x hx; cases x <;> simp only [AV.ren, reduceCtorEq, AV.ap.injEq] at hx; obtain ⟨rfl, rfl, rfl⟩ := hx; exact .ap h hd hz hn hc
  | win h hn => intro x hx; cases x <;> simp only [AV.ren, reduceCtorEq, AV.win.injEq] at hx; obtain ⟨rfl, rfl⟩ := hx; exact .win h hn
  | nils => intro x hx; cases x <;> simp only [AV.ren, reduceCtorEq] at hx; exact .nils
  | agg hl h ih =>
    intro x hx; cases x <;> simp only [AV.ren, reduceCtorEq, AV.agg.injEq] at hx
    exact .agg ((len hx).trans hl) fun j h1 h2 => ih j (by rw [← len hx]; exact h1) h2 (get hx j h1 (by rw [← len hx]; exact h1))
  | tup hl h ih =>
    intro x hx; cases x <;> simp only [AV.ren, reduceCtorEq, AV.tup.injEq] at hx
    exact .tup ((len hx).trans hl) fun j h1 h2 => ih j (by rw [← len hx]; exact h1) h2 (get hx j h1 (by rw [← len hx]; exact h1))
  | fn hl h ih =>
    intro x hx; cases x <;> simp only [AV.ren, reduceCtorEq, AV.fn.injEq] at hx
    obtain ⟨rfl, hx⟩ := hx
    exact .fn ((len hx).trans hl) fun j h1 h2 => ih j (by rw [← len hx]; exact h1) h2 (get hx j h1 (by rw [← len hx]; exact h1))
  | mp h => intro x hx; cases x <;> simp only [AV.ren, reduceCtorEq, AV.mp.injEq] at hx; subst hx; exact .mp h
  | lf h => intro x hx; cases x <;> simp only [AV.ren, reduceCtorEq, AV.lf.injEq] at hx; subst hx; exact .lf h
  | dn h => intro x hx; cases x <;> simp only [AV.ren, reduceCtorEq, AV.dn.injEq] at hx; subst hx; exact .dn h
  | rown => intro x hx; cases x <;> simp only [AV.ren, reduceCtorEq, AV.row.injEq] at hx; obtain ⟨rfl, rfl, rfl⟩ := hx; exact .rown
  | row h hn hc hl => intro x hx; cases x <;> simp only [AV.ren, reduceCtorEq, AV.row.injEq] at hx; obtain ⟨rfl, rfl, rfl⟩ := hx; exact .row h hn hc hl
  | apo h hd hz hn hc hl => intro x hx; cases x <;> simp only [AV.ren, reduceCtorEq, AV.apo.injEq] at hx; obtain ⟨rfl, rfl, rfl⟩ := hx; exact .apo h hd hz hn hc hl
  | any => intro x hx; cases x <;> simp only [AV.ren, reduceCtorEq] at hx; exact .any

theorem V.ren {S : Seal} {i : Emb} {s : Nat → Nat} {x : AV} {v : Value} (h : V S (fun l => i (s l)) x v) : V S i (x.ren s) v := by
  generalize hj : (fun l => i (s l)) = j at h
  have hj' : ∀ l, j l = i (s l) := fun l => by rw [← hj]
  clear hj
  have get : ∀ {l : List AV} {vs : List Value}, (∀ j (h1 : j < l.length) (h2 : j < vs.length), V S i (l[j].ren s) vs[j]) → ∀ j (h1 : j < (AV.renL s l).length) (h2 : j < vs.length), V S i (AV.renL s l)[j] vs[j] := by
    intro l vs h j h1 h2
    have := h j (by simpa [renL_eq] using h1) h2
    simpa [renL_eq] using this
  induction h with
  | d h => rw [AV.ren]; exact .d h
  | cp f hg hs h => rw [AV.ren]; exact .cp f hg hs h
  | ptr h => rw [AV.ren]; exact .ptr (hj' _ ▸ h)
  | sl h => rw [AV.ren]; exact .sl (hj' _ ▸ h)
  | apn => rw [AV.ren]; exact .apn
  | ap h hd hz hn hc => rw [AV.ren]; exact .ap (hj' _ ▸ h) hd hz hn hc
  | win h hn => rw [AV.ren]; exact .win h hn
  | nils => rw [AV.ren]; exact .nils
  | agg hl h ih => rw [AV.ren]; exact .agg (by simpa [renL_eq] using hl) (get ih)
  | tup hl h ih => rw [AV.ren]; exact .tup (by simpa [renL_eq] using hl) (get ih)
  | fn hl h ih => rw [AV.ren]; exact .fn (by simpa [renL_eq] using hl) (get ih)
  | mp h => rw [AV.ren]; exact .mp (hj' _ ▸ h)
  | lf h => rw [AV.ren]; exact .lf (hj' _ ▸ h)
  | dn h => rw [AV.ren]; exact .dn h
  | rown => rw [AV.ren]; exact .rown
  | row h hn hc hl => rw [AV.ren]; exact .row (hj' _ ▸ h) hn hc hl
  | apo h hd hz hn hc hl => rw [AV.ren]; exact .apo (hj' _ ▸ h) hd hz hn hc hl
  | any => rw [AV.ren]; exact .any

def AObj.ren (s : Nat → Nat) : AObj → AObj
  | .cells l => .cells (AV.renL s l)
  | .tok n => .tok n
  | .rowD ds => .rowD ds
  | .rowP ds => .rowP ds
  | .row l => .row (AV.renL s l)
  | .tokv n ds => .tokv n ds
  | .mp es => .mp es
  | .lp N sl ps asg bd st pend => .lp N (sl.map fun x => (x.1, x.2.ren s)) ps asg bd st pend
theorem AObj.nil0_ren {s : Nat → Nat} {o : AObj} : (o.ren s).nil0 ↔ o.nil0 := by
  cases o with
  | cells l => exact Iff.rfl
  | tok n => exact Iff.rfl
  | rowD ds => exact Iff.rfl
  | rowP ds => exact Iff.rfl
  | row l => cases l <;> simp [AObj.ren, AObj.nil0, renL_eq]
  | tokv n ds => exact Iff.rfl
  | mp es => exact Iff.rfl
  | lp N sl ps asg bd st pend => exact Iff.rfl
def AHeap.ren (s : Nat → Nat) : AHeap → AHeap
  | [] => []
  | (l, o) :: r => (s l, o.ren s) :: AHeap.ren s r
theorem AHeap.ren_eq {s : Nat → Nat} : ∀ {H : AHeap}, H.ren s = H.map fun x => (s x.1, x.2.ren s)
  | [] => rfl
  | (l, o) :: r => by rw [AHeap.ren, AHeap.ren_eq]; rfl
theorem mem_ren {s : Nat → Nat} {H : AHeap} {l : Nat} {o : AObj} (h : (l, o) ∈ H) : (s l, o.ren s) ∈ H.ren s := by
  rw [AHeap.ren_eq]; exact List.mem_map.2 ⟨_, h, rfl⟩
theorem of_mem_ren {s : Nat → Nat} {H : AHeap} {l : Nat} {o : AObj} (h : (l, o) ∈ H.ren s) : ∃ k p, (k, p) ∈ H ∧ s k = l ∧ p.ren s = o := by
  rw [AHeap.ren_eq] at h
  obtain ⟨⟨k, p⟩, hm, he⟩ := List.mem_map.1 h
  cases he
  exact ⟨k, p, hm, rfl, rfl⟩
theorem keys_ren {s : Nat → Nat} {H : AHeap} {l : Nat} : l ∈ (H.ren s).keys ↔ ∃ k ∈ H.keys, s k = l := by
  constructor
  · intro h
    obtain ⟨o, ho⟩ := mem_keys.1 h
    obtain ⟨k, p, hm, hk, _⟩ := of_mem_ren ho
    exact ⟨k, mem_keys.2 ⟨p, hm⟩, hk⟩
  · rintro ⟨k, hk, rfl⟩
    obtain ⟨o, ho⟩ := mem_keys.1 hk
    exact mem_keys.2 ⟨_, mem_ren ho⟩

theorem ObjRel.unren {S : Seal} {i : Emb} {s : Nat → Nat} {w : World} {b : Nat} {o : AObj} (h : ObjRel S i w b (o.ren s)) : ObjRel S (fun l => i (s l)) w b o := by
  cases o with
  | cells L =>
    obtain ⟨c, e, hc, hs, hv, hf⟩ := h
    have hl : (AV.renL s L).length = L.length := by rw [renL_eq]; simp
    refine ⟨c, e, hc, hs.trans hl, fun j h1 h2 => ?_, hf⟩
    exact (hv j (by rw [hl]; exact h1) h2).unren (by simp [renL_eq])
  | tok n => exact h
  | rowP ds => exact h
  | tokv n ds => exact h
  | rowD ds => obtain ⟨c, e, hc, hs, hv, hf⟩ := h; exact ⟨c, e, hc, hs, fun j h1 h2 => (hv j h1 h2).unren (by rw [List.getElem_map]; rfl), hf⟩
  | row L =>
    obtain ⟨c, e, hc, hs, hv, hf⟩ := h
    have hl : (AV.renL s L).length = L.length := by rw [renL_eq]; simp
    refine ⟨c, e, hc, hl ▸ hs, fun j h1 h2 => ?_, hf⟩
    exact (hv j (by rw [hl]; exact h1) h2).unren (by simp [renL_eq])
  | mp es => exact h
  | lp N sl ps asg bd st pend =>
    obtain ⟨r, hr, h1, h2, h3, h4, h5, h6, hv, hf⟩ := h
    exact ⟨r, hr, h1, h2, h3, h4, h5, h6, fun x hx => (hv (x.1, x.2.ren s) (List.mem_map.2 ⟨x, hx, rfl⟩)).unren rfl, hf⟩
theorem ObjRel.ren {S : Seal} {i : Emb} {s : Nat → Nat} {w : World} {b : Nat} {o : AObj} (h : ObjRel S (fun l => i (s l)) w b o) : ObjRel S i w b (o.ren s) := by
  cases o with
  | cells L =>
    obtain ⟨c, e, hc, hs, hv, hf⟩ := h
    have hl : (AV.renL s L).length = L.length := by rw [renL_eq]; simp
    refine ⟨c, e, hc, hs.trans hl.symm, fun j h1 h2 => ?_, hf⟩
    have := (hv j (by rw [← hl]; exact h1) h2).ren
    simpa [renL_eq] using this
  | tok n => exact h
  | rowP ds => exact h
  | tokv n ds => exact h
  | rowD ds => obtain ⟨c, e, hc, hs, hv, hf⟩ := h; exact ⟨c, e, hc, hs, fun j h1 h2 => (by have := (hv j h1 h2).ren; rw [List.getElem_map] at this ⊢; exact this), hf⟩
  | row L =>
    obtain ⟨c, e, hc, hs, hv, hf⟩ := h
    have hl : (AV.renL s L).length = L.length := by rw [renL_eq]; simp
    refine ⟨c, e, hc, hl.symm ▸ hs, fun j h1 h2 => ?_, hf⟩
    have := (hv j (by rw [← hl]; exact h1) h2).ren
    simpa [renL_eq] using this
  | mp es => exact h
  | lp N sl ps asg bd st pend =>
    obtain ⟨r, hr, h1, h2, h3, h4, h5, h6, hv, hf⟩ := h
    refine ⟨r, hr, h1, h2, h3, h4, h5, h6, fun x hx => ?_, hf⟩
    obtain ⟨y, hy, rfl⟩ := List.mem_map.1 hx
    exact (hv y hy).ren

section
variable {P : Program} {ro : Option Nat} {a : AAct} {H : AHeap} {n m : Nat} {Q : Exit → AAct → AHeap → Nat → Prop}

/-- LABELS ARE RENAMED and things are dropped -/
theorem AWc.rename {c : ACode} {a' : AAct} {H' : AHeap} {k : Nat} (s : Nat → Nat) (hm : m ≤ k) (hs : ∀ l, l < m → s l = l) (hs' : ∀ l, l < k → l ∈ H'.keys ∨ s l = l)
    (hinj : ∀ l l', l ∈ H'.keys → l' ∈ H'.keys → s l = s l' → l = l') (hn' : a'.n = a.n) (ha : ∀ t x, lk a'.l t = some x → lk a.l t = some (x.ren s) ∧ x.lt k)
    (hH : ∀ l o, (l, o) ∈ H' → (s l, o.ren s) ∈ H ∧ l < k ∧ o.lt k) (h : AWc P ro m c a' H' k Q) : AWc P ro m c a H n Q := by
  intro cc hcc S i w ca hact hh hn
  let j : Emb := Emb.cut (fun l => i (s l)) k
  have hj : ∀ l b, j l = some b → l < k ∧ i (s l) = some b := fun l b h => Emb.cut_some h
  have hjl : ∀ l, l < k → j l = i (s l) := fun l h => Emb.cut_of h
  have h1 : ActRel S j a' ca := ⟨hact.size.trans hn'.symm, fun t x hx => (((hact.get t _ (ha t x hx).1).unren rfl).cut (ha t x hx).2)⟩
  have h2 : HeapRel S j H' w := by
    refine ⟨hh.cell, hh.size, fun l o hm => ?_, fun l o l' o' b x y hl hl' => ?_, fun l b hl => hh.dom _ b (hj l b hl).2, hh.gr⟩
    · obtain ⟨h0, hl, ho⟩ := hH l o hm
      rcases hh.obj _ _ h0 with ⟨b, hb, hr⟩ | ⟨hn, ho'⟩
      · refine .inl ⟨b, by rw [hjl l hl]; exact hb, ?_⟩
        have hr' := hr.unren
        exact hr'.relabel (K := (· < k)) (fun l hl => Emb.cut_of hl) ho
      · exact .inr ⟨by rw [hjl l hl]; exact hn, AObj.nil0_ren.1 ho'⟩
    · obtain ⟨k1, e1⟩ := hj l b hl
      obtain ⟨k2, e2⟩ := hj l' b hl'
      exact hinj l l' (mem_keys.2 ⟨o, x⟩) (mem_keys.2 ⟨o', y⟩) (hh.inj _ _ _ _ b (hH l o x).1 (hH l' o' y).1 e1 e2)
  have hblk : ∀ b, blk j H' b → blk i H b := by
    rintro b ⟨l, o, hx, hb⟩
    exact ⟨s l, o.ren s, (hH l o hx).1, (hj l b hb).2⟩
  refine wpIn_mono (h cc hcc S j w ca h1 h2 fun l b hl => (hj l b hl).1) ?_
  rintro ex ca' w' ⟨a'', H'', n'', S'', i'', q, ra, rd, rh, rn, re, rt⟩
  refine ⟨a'', H'', n'', S'', i'', q, ra, rd, rh, rn, fun l hl => ?_, ?_⟩
  · rw [re l hl, hjl l (Nat.lt_of_lt_of_le hl hm), hs l hl]
  · refine ⟨rt.up, rt.grow, fun b hb hx => rt.old b hb fun h => hx (hblk b h), fun a v hv => (rt.newSeal a v hv).imp id (Or.imp (hblk _) id),
      fun l b hb => ?_, fun b hb => (rt.sub b hb).imp (hblk b) id, rt.os, rt.out, rt.tape⟩
    rcases rt.newEmb l b hb with h | h | h
    · obtain ⟨k1, e1⟩ := hj l b h
      rcases hs' l k1 with hk | hk
      · obtain ⟨o, ho⟩ := mem_keys.1 hk
        exact .inr (.inl ⟨s l, _, (hH l o ho).1, e1⟩)
      · rw [hk] at e1; exact .inl e1
    · exact .inr (.inl (hblk b h))
    · exact .inr (.inr h)

theorem ACalls.args {f : FuncId} {xs ys : List AV} {r : AV} {H' : AHeap} (h : ACalls P f ys H r H') (hl : xs.length = ys.length) (hs : ∀ j (h1 : j < xs.length) (h2 : j < ys.length), Sub xs[j] ys[j]) : ACalls P f xs H r H' :=
  ⟨h.1, fun S i w vs hvs hv hh hf => h.2 S i w vs (hl ▸ hvs) (fun j h1 h2 => hs j (by omega) h1 _ _ _ (hv j (by omega) h2)) hh hf⟩

theorem ACalls.res {f : FuncId} {xs : List AV} {r r' : AV} {H' : AHeap} (h : ACalls P f xs H r H') (hs : Sub r r') : ACalls P f xs H r' H' :=
  ⟨h.1, fun S i w vs hvs hv hh hf => Calls.mono (h.2 S i w vs hvs hv hh hf) fun e w' ⟨v, he, S', i', h1, h2⟩ => ⟨v, he, S', i', hs _ _ _ h1, h2⟩⟩

/-- LABELS OF A CALL ARE RENAMED -/
theorem ACalls.rename {f : FuncId} {xs : List AV} {r : AV} {H' : AHeap} (h : ACalls P f xs H r H') (s : Nat → Nat) (K : Nat) (hinj : ∀ a, a < K → ∀ b, b < K → s a = s b → a = b)
    (hr : r.lt K) (hK : ∀ l o, (l, o) ∈ H → l < K) (hK' : ∀ l o, (l, o) ∈ H' → l < K ∧ o.lt K) : ACalls P f (xs.map (AV.ren s)) (H.ren s) (r.ren s) (H'.ren s) := by
  have kH : ∀ {l}, l ∈ H.keys → l < K := fun hl => by obtain ⟨o, ho⟩ := mem_keys.1 hl; exact hK _ _ ho
  have kH' : ∀ {l}, l ∈ H'.keys → l < K := fun hl => by obtain ⟨o, ho⟩ := mem_keys.1 hl; exact (hK' _ _ ho).1
  refine ⟨h.1, fun S i w vs hvs hv hh hf => ?_⟩
  have hnew : ∀ l, l ∈ H'.keys → l ∉ H.keys → s l ∈ (H'.ren s).keys ∧ s l ∉ (H.ren s).keys := by
    intro l h1 h2
    refine ⟨keys_ren.2 ⟨l, h1, rfl⟩, fun hx => ?_⟩
    obtain ⟨k, hk, he⟩ := keys_ren.1 hx
    exact h2 (hinj k (kH hk) l (kH' h1) he ▸ hk)
  have hc := h.2 S (fun l => i (s l)) w vs (by simpa using hvs) (fun j h1 h2 => by
    have := hv j (by simpa using h1) h2
    exact this.unren (by simp)) ?_ (fun l h1 h2 => hf _ (hnew l h1 h2).1 (hnew l h1 h2).2)
  · refine Calls.mono hc fun e w' ⟨v, he, S', i', h1, h2, h3, h4, h5⟩ => ⟨v, he, ?_⟩
    classical
    let j : Emb := fun m => if hx : ∃ l, l ∈ H'.keys ∧ l ∉ H.keys ∧ s l = m then i' (Classical.choose hx) else i m
    have jnew : ∀ l, l ∈ H'.keys → l ∉ H.keys → j (s l) = i' l := by
      intro l k1 k2
      have hx : ∃ l', l' ∈ H'.keys ∧ l' ∉ H.keys ∧ s l' = s l := ⟨l, k1, k2, rfl⟩
      simp only [j]
      rw [dif_pos hx]
      obtain ⟨c1, c2, c3⟩ := Classical.choose_spec hx
      rw [hinj _ (kH' c1) l (kH' k1) c3]
    have jold : ∀ l, l < K → ¬ (l ∈ H'.keys ∧ l ∉ H.keys) → j (s l) = i' l := by
      intro l hl hno
      have hx : ¬ ∃ l', l' ∈ H'.keys ∧ l' ∉ H.keys ∧ s l' = s l := by
        rintro ⟨l', c1, c2, c3⟩
        have := hinj l' (kH' c1) l hl c3
        subst this
        exact hno ⟨c1, c2⟩
      simp only [j]
      rw [dif_neg hx]
      cases hi : i' l with
      | none =>
        cases h0 : i (s l) with
        | none => rfl
        | some b => rw [h3 l b h0] at hi; cases hi
      | some b =>
        rcases h5 l b hi with h | h
        · exact h
        · exact absurd h hno
    have jall : ∀ l, l < K → j (s l) = i' l := fun l hl => by
      by_cases hx : l ∈ H'.keys ∧ l ∉ H.keys
      · exact jnew l hx.1 hx.2
      · exact jold l hl hx
    have jup : i.le j := by
      intro m b hb
      simp only [j]
      split
      · rename_i hx
        obtain ⟨c1, c2, c3⟩ := Classical.choose_spec hx
        have := hf _ (hnew _ c1 c2).1 (hnew _ c1 c2).2
        rw [c3] at this
        rw [this] at hb; cases hb
      · exact hb
    have jinv : ∀ m b, j m = some b → i m = some b ∨ ∃ l, l ∈ H'.keys ∧ l ∉ H.keys ∧ s l = m ∧ i' l = some b := by
      intro m b hb
      simp only [j] at hb
      split at hb
      · rename_i hx
        obtain ⟨c1, c2, c3⟩ := Classical.choose_spec hx
        exact .inr ⟨_, c1, c2, c3, hb⟩
      · exact .inl hb
    have hblk : ∀ b, blk (fun l => i (s l)) H b → blk i (H.ren s) b := fun b ⟨l, o, hm, hb⟩ => ⟨s l, _, mem_ren hm, hb⟩
    refine ⟨S', j, V.ren (h1.relabel (K := (· < K)) (fun l hl => jall l hl) hr), ⟨h2.cell, h2.size, fun l o hm => ?_, fun l o l' o' b x y hl hl' => ?_, fun l b hl => ?_, h2.gr⟩, jup,
      ⟨h4.up, h4.grow, fun b hb hx => h4.old b hb fun h => hx (hblk b h), fun a v hv => (h4.newSeal a v hv).imp id (Or.imp (hblk _) id), fun m b hb => ?_, fun b ⟨l, o, hm, hb⟩ => ?_, h4.os, h4.out, h4.tape⟩, fun m b hb => ?_⟩
    · obtain ⟨k, p, hm', rfl, rfl⟩ := of_mem_ren hm
      obtain ⟨hk, hp⟩ := hK' k p hm'
      rcases h2.obj k p hm' with ⟨b, hb, hro⟩ | ⟨q1, q2⟩
      · refine .inl ⟨b, (jall k hk).trans hb, ObjRel.ren ?_⟩
        exact hro.relabel (K := (· < K)) (fun l hl => jall l hl) hp
      · exact .inr ⟨(jall k hk).trans q1, AObj.nil0_ren.2 q2⟩
    · obtain ⟨k, p, hm, rfl, rfl⟩ := of_mem_ren x
      obtain ⟨k', p', hm', rfl, rfl⟩ := of_mem_ren y
      rw [jall k (hK' k p hm).1] at hl
      rw [jall k' (hK' k' p' hm').1] at hl'
      rw [h2.inj k p k' p' b hm hm' hl hl']
    · rcases jinv l b hl with h | ⟨k, _, _, _, h⟩
      · exact Nat.lt_of_lt_of_le (hh.dom l b h) h4.grow
      · exact h2.dom k b h
    · rcases jinv m b hb with h | ⟨k, c1, c2, c3, h⟩
      · exact .inl h
      · rcases h4.newEmb k b h with h | h | h
        · rw [c3] at h; exact .inl h
        · exact .inr (.inl (hblk b h))
        · exact .inr (.inr h)
    · obtain ⟨k, p, hm', rfl, rfl⟩ := of_mem_ren hm
      rw [jall k (hK' k p hm').1] at hb
      exact (h4.sub b ⟨k, p, hm', hb⟩).imp (hblk b) id
    · rcases jinv m b hb with h | ⟨k, c1, c2, c3, h⟩
      · exact .inl h
      · rw [← c3]
        exact .inr (hnew k c1 c2)
  · refine ⟨hh.cell, hh.size, fun l o hm => ?_, fun l o l' o' b x y hl hl' => ?_, fun l b hl => hh.dom _ b hl, hh.gr⟩
    · rcases hh.obj _ _ (mem_ren hm) with ⟨b, hb, hro⟩ | ⟨q1, q2⟩
      · exact .inl ⟨b, hb, hro.unren⟩
      · exact .inr ⟨q1, AObj.nil0_ren.1 q2⟩
    · exact hinj l (hK l o x) l' (hK l' o' y) (hh.inj _ _ _ _ b (mem_ren x) (mem_ren y) hl hl')

end
end Go.Proofs.Abs
end
section
/- Regions whose order is drawn: every order comes to the same, where operations that are not bound leave one another alone. -/
namespace Go.Proofs.Abs
open Go

def qcan (r : Rec) (a : AAct) : Prop := (∀ t x, lk r.args t = some x → lk a.l t = some x) ∧ ∀ t, r.dst = some t → t < a.n
def qchain : List Rec → AAct → AAct → Prop
  | [], a, a' => a'.n = a.n ∧ ∀ t, lk a'.l t = lk a.l t
  | r :: rs, a, a' => qcan r a ∧ qchain rs (a.put r.dst r.r) a'

theorem put_n (a : AAct) (d : Option Nat) (x : AV) : (a.put d x).n = a.n := by cases d <;> rfl
theorem lk_put (a : AAct) (d : Option Nat) (x : AV) (t : Nat) : lk (a.put d x).l t = if d = some t then some x else lk a.l t := by
  cases d with
  | none => simp [AAct.put]
  | some u =>
    simp only [AAct.put, lk]
    by_cases h : u = t
    · subst h; simp
    · have : Nat.beq u t = false := by
        cases hb : Nat.beq u t with
        | false => rfl
        | true => exact absurd (Nat.eq_of_beq_eq_true hb) h
      simp [this, h]

theorem qchain_eqv : ∀ {rs : List Rec} {a b a' : AAct}, a.n = b.n → (∀ t, lk a.l t = lk b.l t) → qchain rs a a' → qchain rs b a'
  | [], a, b, a', h1, h2, h => ⟨h.1.trans h1, fun t => (h.2 t).trans (h2 t)⟩
  | r :: rs, a, b, a', h1, h2, h => by
    refine ⟨⟨fun t x hx => (h2 t).symm.trans (h.1.1 t x hx), fun t ht => h1 ▸ h.1.2 t ht⟩, ?_⟩
    refine qchain_eqv (by rw [put_n, put_n, h1]) (fun t => ?_) h.2
    rw [lk_put, lk_put, h2 t]

def indep (p r : Rec) : Prop := (∀ t, p.dst = some t → lk r.args t = none ∧ r.dst ≠ some t) ∧ ∀ t, r.dst = some t → lk p.args t = none

theorem q_swap {p r : Rec} {rs : List Rec} {a a' : AAct} (hi : indep p r) (h : qchain (p :: r :: rs) a a') : qchain (r :: p :: rs) a a' := by
  obtain ⟨hp, hr, h⟩ := h
  have lkr : ∀ t x, lk r.args t = some x → lk a.l t = some x := by
    intro t x hx
    have := hr.1 t x hx
    rw [lk_put] at this
    split at this
    · rename_i ht
      rw [(hi.1 t ht).1] at hx; cases hx
    · exact this
  refine ⟨⟨lkr, fun t ht => by have := hr.2 t ht; rwa [put_n] at this⟩, ⟨fun t x hx => ?_, fun t ht => by rw [put_n]; exact hp.2 t ht⟩, qchain_eqv (by simp [put_n]) (fun t => ?_) h⟩
  · rw [lk_put]
    split
    · rename_i ht
      rw [hi.2 t ht] at hx; cases hx
    · exact hp.1 t x hx
  · rw [lk_put, lk_put, lk_put, lk_put]
    by_cases h1 : p.dst = some t
    · have h2 : ¬ r.dst = some t := (hi.1 t h1).2
      simp [h1, h2]
    · simp [h1]

theorem q_front {r : Rec} {post : List Rec} : ∀ {pre : List Rec} {a a' : AAct}, (∀ p ∈ pre, indep p r) → qchain (pre ++ r :: post) a a' → qchain (r :: (pre ++ post)) a a'
  | [], _, _, _, h => h
  | p :: pre, a, a', hi, h => by
    have h1 : qchain (r :: (pre ++ post)) (a.put p.dst p.r) a' := q_front (fun q hq => hi q (List.mem_cons_of_mem _ hq)) h.2
    exact q_swap (hi p List.mem_cons_self) ⟨h.1, h1⟩

/-- what is bound to come before -/
def aft (ops : Array Oper) (i : Nat) : List Nat := match ops[i]? with
  | some o => (o.after.toList.filter (Region.binds .any)).map (·.on)
  | none => []

theorem lin_ok {ops : Array Oper} {a' : AAct} : ∀ (fuel t : Nat) (listed : Array Bool) (rs : List Rec) (a : AAct), rs.length ≤ fuel → listed.size = ops.size → (∀ i, i < ops.size → (listed.getD i true = false ↔ ∃ r ∈ rs, r.idx = i)) →
    (∀ r ∈ rs, r.idx < ops.size) → rs.Pairwise (fun p r => p.idx < r.idx) → rs.Pairwise (fun p r => p.idx ∈ aft ops r.idx ∨ indep p r) → (∀ r ∈ rs, ∀ j ∈ aft ops r.idx, j < r.idx) → qchain rs a a' →
    ∃ rs', rs'.map (·.idx) = Region.linearise.go .any ops fuel t listed [] ∧ (∀ r ∈ rs', r ∈ rs) ∧ qchain rs' a a'
  | 0, t, listed, rs, a, hf, _, _, _, _, _, _, hq => by
    have : rs = [] := List.eq_nil_of_length_eq_zero (Nat.le_zero.1 hf)
    subst this
    exact ⟨[], rfl, fun r hr => hr, hq⟩
  | fuel + 1, t, listed, rs, a, hf, hsz, hl, hlt, hsort, hpw, haf, hq => by
    have hgo : Region.linearise.go .any ops (fuel + 1) t listed [] = match (Region.ready .any ops listed)[t % (Region.ready .any ops listed).length]? with
        | some i => Region.linearise.go .any ops fuel (t / (Region.ready .any ops listed).length) (listed.setIfInBounds i true) [i]
        | none => [] := by
      rw [Region.linearise.go]
      rfl
    rw [hgo]
    have hready : ∀ i, i ∈ Region.ready .any ops listed ↔ (∃ r ∈ rs, r.idx = i) ∧ ∀ j ∈ aft ops i, listed.getD j false = true := by
      intro i
      rw [mem_ready]
      constructor
      · rintro ⟨h1, o, ho, h2⟩
        have hi : i < ops.size := (Array.getElem?_eq_some_iff.1 ho).1
        refine ⟨(hl i hi).1 h1, fun j hj => ?_⟩
        simp only [aft, ho, List.mem_map, List.mem_filter, Array.mem_toList_iff] at hj
        obtain ⟨e, ⟨he, hb⟩, rfl⟩ := hj
        exact h2 e he hb
      · rintro ⟨⟨r, hr, rfl⟩, h2⟩
        have hi := hlt r hr
        refine ⟨(hl _ hi).2 ⟨r, hr, rfl⟩, ops[r.idx], by simp [hi], fun e he hb => h2 _ ?_⟩
        simp only [aft, Array.getElem?_eq_getElem hi, List.mem_map, List.mem_filter, Array.mem_toList_iff]
        exact ⟨e, ⟨he, hb⟩, rfl⟩
    cases hrs : rs with
    | nil =>
      subst hrs
      have hnil : Region.ready .any ops listed = [] := by
        apply List.eq_nil_iff_forall_not_mem.2
        intro i hi
        obtain ⟨⟨r, hr, _⟩, _⟩ := (hready i).1 hi
        cases hr
      rw [hnil]
      exact ⟨[], by simp, fun r hr => hr, hq⟩
    | cons r0 rt =>
      rw [← hrs]
      have h0 : r0 ∈ rs := by rw [hrs]; exact List.mem_cons_self
      have hmem0 : r0.idx ∈ Region.ready .any ops listed := by
        refine (hready _).2 ⟨⟨r0, h0, rfl⟩, fun j hj => ?_⟩
        have hjl := haf r0 h0 j hj
        have hjs : j < ops.size := Nat.lt_trans hjl (hlt r0 h0)
        cases hv : listed.getD j true with
        | false =>
          exfalso
          obtain ⟨r, hr, he⟩ := (hl j hjs).1 hv
          rw [hrs] at hr hsort
          rcases List.mem_cons.1 hr with rfl | hr
          · omega
          · have := (List.pairwise_cons.1 hsort).1 r hr
            omega
        | true =>
          have : j < listed.size := by omega
          simpa [Array.getD, this] using hv
      have hpos : 0 < (Region.ready .any ops listed).length := List.length_pos_of_mem hmem0
      have hmod := Nat.mod_lt t hpos
      rw [List.getElem?_eq_getElem hmod]
      generalize hi : (Region.ready .any ops listed)[t % (Region.ready .any ops listed).length] = i
      have hir : i ∈ Region.ready .any ops listed := by rw [← hi]; exact List.getElem_mem hmod
      obtain ⟨⟨r, hr, rfl⟩, hbef⟩ := (hready i).1 hir
      obtain ⟨pre, post, hsplit⟩ := List.append_of_mem hr
      simp only
      rw [linearise_go_acc]
      have hpre : ∀ p ∈ pre, indep p r := by
        intro p hp
        rw [hsplit] at hpw
        rcases (List.pairwise_append.1 hpw).2.2 p hp r List.mem_cons_self with h | h
        · exfalso
          have := hbef _ h
          have hp' : p ∈ rs := by rw [hsplit]; exact List.mem_append.2 (.inl hp)
          have h2 := (hl _ (hlt p hp')).2 ⟨p, hp', rfl⟩
          have h3 : p.idx < listed.size := by have := hlt p hp'; omega
          simp [Array.getD, h3] at this h2
          rw [h2] at this; cases this
        · exact h
      have hfront := q_front hpre (hsplit ▸ hq)
      have hsub : (pre ++ post).Sublist rs := by rw [hsplit]; exact List.Sublist.append (List.Sublist.refl _) (List.sublist_cons_self _ _)
      have hlen : (pre ++ post).length + 1 = rs.length := by rw [hsplit]; simp; omega
      have hnotin : ∀ q ∈ pre ++ post, q.idx ≠ r.idx := by
        intro q hq he
        rw [hsplit] at hsort
        obtain ⟨_, s2, s3⟩ := List.pairwise_append.1 hsort
        rcases List.mem_append.1 hq with h | h
        · have := s3 q h r List.mem_cons_self; omega
        · have := (List.pairwise_cons.1 s2).1 q h; omega
      obtain ⟨rs', k1, k2, k3⟩ := lin_ok fuel (t / (Region.ready .any ops listed).length) (listed.setIfInBounds r.idx true) (pre ++ post) (a.put r.dst r.r) (by omega) (by simpa using hsz) (fun j hj => by
        by_cases hjr : j = r.idx
        · subst hjr
          have : r.idx < listed.size := by omega
          simp only [Array.getD, Array.size_setIfInBounds, this, dif_pos]
          simp only [Array.getInternal_eq_getElem, Array.getElem_setIfInBounds_self, Bool.true_eq_false, false_iff, not_exists, not_and]
          exact fun q hq => hnotin q hq
        · rw [getD_set_ne true (fun h => hjr h.symm), hl j hj]
          constructor
          · rintro ⟨q, hq, rfl⟩
            rw [hsplit] at hq
            refine ⟨q, ?_, rfl⟩
            rcases List.mem_append.1 hq with h | h
            · exact List.mem_append.2 (.inl h)
            · rcases List.mem_cons.1 h with rfl | h
              · exact absurd rfl hjr
              · exact List.mem_append.2 (.inr h)
          · rintro ⟨q, hq, rfl⟩
            exact ⟨q, hsub.subset hq, rfl⟩) (fun q hq => hlt q (hsub.subset hq)) (hsort.sublist hsub) (hpw.sublist hsub) (fun q hq => haf q (hsub.subset hq)) hfront.2
      exact ⟨r :: rs', by rw [List.map_cons, k1]; rfl, fun q hq => by
        rcases List.mem_cons.1 hq with rfl | hq
        · exact hr
        · exact hsub.subset (k2 q hq), hfront.1, k3⟩
end Go.Proofs.Abs
end
section
/- A region whose order is drawn is run, where it only reads. -/
namespace Go.Proofs.Abs
open Go

def Fun (H : AHeap) : Prop := ∀ x ∈ H, ∀ y ∈ H, x.1 = y.1 → x = y

theorem q_chain {H0 : AHeap} (hF : Fun H0) : ∀ {rs : List Rec} {a a' : AAct} {H : AHeap}, (∀ x, x ∈ H ↔ x ∈ H0) → (∀ r ∈ rs, r.hin = r.hout ∧ ∀ x ∈ r.hin, x ∈ H0) → qchain rs a a' →
    ∃ a'' H'', chain rs a H a'' H'' ∧ (∀ x, x ∈ H'' ↔ x ∈ H0) ∧ a''.n = a'.n ∧ ∀ t, lk a'.l t = lk a''.l t
  | [], a, a', H, hH, _, h => ⟨a, H, ⟨rfl, rfl⟩, hH, h.1.symm, h.2⟩
  | r :: rs, a, a', H, hH, hq, h => by
    obtain ⟨h1, h2⟩ := hq r List.mem_cons_self
    obtain ⟨a'', H'', k1, k2, k3, k4⟩ := q_chain hF (rs := rs) (a := a.put r.dst r.r) (a' := a') (H := stepH r H) (fun x => by
      simp only [stepH, List.mem_append, mem_restH]
      constructor
      · rintro (hx | ⟨hx, _⟩)
        · exact h2 x (h1 ▸ hx)
        · exact (hH x).1 hx
      · intro hx
        by_cases hl : x.1 ∈ r.lab
        · left
          have : ∃ y ∈ r.hin, y.1 = x.1 := by
            rcases List.mem_append.1 hl with hl | hl
            · obtain ⟨o, ho⟩ := mem_keys.1 hl
              exact ⟨_, ho, rfl⟩
            · obtain ⟨o, ho⟩ := mem_keys.1 hl
              exact ⟨(x.1, o), by rw [h1]; exact ho, rfl⟩
          obtain ⟨y, hy, he⟩ := this
          have := hF y (h2 y hy) x hx he
          subst this
          exact h1 ▸ hy
        · exact .inr ⟨(hH x).2 hx, hl⟩) (fun q hq' => hq q (List.mem_cons_of_mem _ hq')) h.2
    exact ⟨a'', H'', ⟨⟨h.1.1, fun x hx => (hH x).2 (h2 x hx), h.1.2⟩, k1⟩, k2, k3, k4⟩

theorem newLab_quiet {r : Rec} (h : r.hin = r.hout) : newLab r = [] := by
  apply List.eq_nil_iff_forall_not_mem.2
  intro l hl
  obtain ⟨h1, h2⟩ := mem_newLab.1 hl
  rw [h] at h2
  exact h2 h1
theorem fresh_quiet {n : Nat} : ∀ {rs : List Rec} {L : List Nat}, (∀ r ∈ rs, r.hin = r.hout) → freshL n L rs
  | [], _, _ => trivial
  | r :: rs, L, h => by
    have := newLab_quiet (h r List.mem_cons_self)
    refine ⟨fun l hl => (by rw [this] at hl; cases hl), fresh_quiet fun q hq => h q (List.mem_cons_of_mem _ hq)⟩

def argsOf : AOp → List Arg
  | .mv x => [x]
  | .pick c a b => [c, a, b]
  | .bin _ x y => [x, y]
  | .beq _ x y => [x, y]
  | .nileq _ _ x y => [x, y]
  | .aggeq _ _ x y => [x, y]
  | .un _ x => [x]
  | .cvi _ x => [x]
  | .bs2s x => [x]
  | .s2bs x => [x]
  | .s2rs x => [x]
  | .i2s x => [x]
  | .ext x _ => [x]
  | .faddr x _ => [x]
  | .fld x _ _ _ => [x]
  | .idx x i => [x, i]
  | .aidx x i _ _ _ => [x, i]
  | .iaddr x i _ => [x, i]
  | .aaddr x i _ _ => [x, i]
  | .ssl x lo hi => x :: (lo.toList ++ hi.toList)
  | .slc x lo hi mx _ => x :: (lo.toList ++ (hi.toList ++ mx.toList))
  | .len x => [x]
  | .slen x => [x]
  | .cap x => [x]
  | .app x y _ _ _ => [x, y]
  | .mm _ x => x
  | .call f x => f :: x
  | .mkmap => []
  | .mget x k _ => [x, k]
  | .mset x k v => [x, k, v]
  | .load x _ _ => [x]
  | .build _ ps => ps.map fun p => p.2.2
  | .bslice _ _ _ ps => ps.map fun p => p.2
  | .mksl l c _ _ _ => [l, c]
  | .mkfn _ cs => cs
  | .nilchk x => [x]
  | .store x v _ => [x, v]
  | .box x => [x]
  | .copy x y _ => [x, y]
  | .grow x n _ _ _ => [x, n]
  | .bs2bs x => [x]
  | .alloc _ => []
  | .bad => []
def slots : List Arg → List Nat
  | [] => []
  | .t n :: r => n :: slots r
  | .k _ :: r => slots r
def usesO (o : AOper) : List Nat := match o.guard with
  | some (t, _) => t :: slots (argsOf o.op)
  | none => slots (argsOf o.op)
def pickL (l : List (Nat × AV)) : List Nat → List (Nat × AV)
  | [] => []
  | t :: r => match lk l t with
    | some x => (t, x) :: pickL l r
    | none => pickL l r
theorem pickL_some {l : List (Nat × AV)} : ∀ {ts : List Nat} {t : Nat} {x : AV}, lk (pickL l ts) t = some x → lk l t = some x ∧ t ∈ ts
  | [], t, x, h => by cases h
  | u :: r, t, x, h => by
    simp only [pickL] at h
    split at h
    · rename_i y hy
      simp only [lk] at h
      cases hb : Nat.beq u t with
      | true =>
        rw [hb] at h
        cases h
        cases Nat.eq_of_beq_eq_true hb
        exact ⟨hy, List.mem_cons_self⟩
      | false =>
        rw [hb] at h
        obtain ⟨h1, h2⟩ := pickL_some h
        exact ⟨h1, List.mem_cons_of_mem _ h2⟩
    · obtain ⟨h1, h2⟩ := pickL_some h
      exact ⟨h1, List.mem_cons_of_mem _ h2⟩

def memN (x : Nat) : List Nat → Bool
  | [] => false
  | y :: r => bif Nat.beq x y then true else memN x r
theorem memN_iff {x : Nat} : ∀ {l : List Nat}, memN x l = true ↔ x ∈ l
  | [] => by simp [memN]
  | y :: r => by
    simp only [memN, List.mem_cons]
    cases hb : Nat.beq x y with
    | true => simp [Nat.eq_of_beq_eq_true hb]
    | false =>
      have : ¬ x = y := fun h => by rw [h, Nat.beq_refl] at hb; cases hb
      simp only [cond_false, this, false_or]
      exact memN_iff
def apartA (p r : AOper) : Bool :=
  (match p.dst with
   | none => true
   | some t => !memN t (usesO r) && (match r.dst with | none => true | some u => !Nat.beq t u)) &&
  (match r.dst with
   | none => true
   | some t => !memN t (usesO p))
def indepA (aops : List AOper) : Bool :=
  (List.range aops.length).all fun i => match aops[i]? with
    | none => false
    | some r => (r.after.all fun j => Nat.blt j i) && (List.range i).all fun j => match aops[j]? with
      | none => false
      | some p => memN j r.after || apartA p r
def nodupH : AHeap → Bool
  | [] => true
  | (l, _) :: r => !hasK l r && nodupH r
theorem nodupH_fun : ∀ {H : AHeap}, nodupH H = true → Fun H
  | [], _ => fun x hx => by cases hx
  | (l, o) :: r, h => by
    simp only [nodupH, Bool.and_eq_true, Bool.not_eq_true'] at h
    obtain ⟨h1, h2⟩ := h
    have hn : l ∉ AHeap.keys r := fun hl => by rw [hasK_iff.2 hl] at h1; cases h1
    intro x hx y hy he
    rcases List.mem_cons.1 hx with rfl | hx <;> rcases List.mem_cons.1 hy with rfl | hy
    · rfl
    · exact absurd (mem_keys.2 ⟨y.2, by rw [show l = y.1 from he]; exact hy⟩) hn
    · exact absurd (mem_keys.2 ⟨x.2, by rw [show l = x.1 from he.symm]; exact hx⟩) hn
    · exact nodupH_fun h2 x hx y hy he

structure QOut where
  l : List (Nat × AV)
  side : Prop
def addQ (s : Prop) : Option QOut → Option QOut
  | some o => some ⟨o.l, s ∧ o.side⟩
  | none => none

def runQ (P : Program) (N : Nat) (H : AHeap) : List AOper → List Cres → List (Nat × AV) → Option QOut
  | [], _, l => some ⟨l, True⟩
  | ⟨d, op, g, af⟩ :: os, cs, l =>
    bif dstOK d N then (match gOn g (pickL l (usesO ⟨d, op, g, af⟩)) with
    | none => none
    | some false => runQ P N H os cs (putL d (.tup []) l)
    | some true => match op with
      | .call gg as => (match evA (pickL l (usesO ⟨d, .call gg as, g, af⟩)) gg, allAV (evA (pickL l (usesO ⟨d, .call gg as, g, af⟩))) as, cs with
        | some fv, some vs, q :: cs' => (match callOf fv vs with
          | some (f, ws) => addQ (ACalls P f ws q.hin q.r q.hout ∧ q.hin = q.hout ∧ ∀ x ∈ q.hin, x ∈ H) (runQ P N H os cs' (putL d q.r l))
          | none => none)
        | _, _, _ => none)
      | op => (match evOp false 0 (evA (pickL l (usesO ⟨d, op, g, af⟩))) H op with
        | some q => addQ (q.side ∧ q.hin = q.hout) (runQ P N H os cs (putL d q.r l))
        | none => none)) else none

structure QRec (P : Program) (aops : List AOper) (H : AHeap) (r : Rec) : Prop where
  ok : RecOK P aops r
  quiet : r.hin = r.hout
  sub : ∀ x ∈ r.hin, x ∈ H
  uses : ∃ ao, aops[r.idx]? = some ao ∧ ao.dst = r.dst ∧ ∀ t x, lk r.args t = some x → t ∈ usesO ao

theorem addQ_some {s : Prop} {x : Option QOut} {o : QOut} (h : addQ s x = some o) (hs : o.side) : s ∧ ∃ o', x = some o' ∧ o'.side ∧ o'.l = o.l := by
  unfold addQ at h
  split at h
  · cases h
    exact ⟨hs.1, _, rfl, hs.2, rfl⟩
  · cases h

theorem runQ_ok {P : Program} {N : Nat} {H : AHeap} {aops : List AOper} : ∀ (os pre : List AOper) (cs : List Cres) (l : List (Nat × AV)) (o : QOut), pre ++ os = aops → runQ P N H os cs l = some o → o.side →
    ∃ rs : List Rec, rs.map (·.idx) = List.range' pre.length os.length ∧ (∀ r ∈ rs, QRec P aops H r) ∧ qchain rs ⟨N, l⟩ ⟨N, o.l⟩
  | [], pre, cs, l, o, _, h, _ => by
    cases h
    exact ⟨[], rfl, fun r hr => (by cases hr), rfl, fun _ => rfl⟩
  | ⟨d, op, g, af⟩ :: os, pre, cs, l, o, hpre, h, hs => by
    have hget : aops[pre.length]? = some ⟨d, op, g, af⟩ := by rw [← hpre]; simp
    simp only [runQ] at h
    cases hd : dstOK d N with
    | false => rw [hd] at h; cases h
    | true =>
      rw [hd] at h
      simp only [cond_true] at h
      have next : ∀ (r : AV) (hin hout : AHeap) (o' : QOut) (cs' : List Cres), runQ P N H os cs' (putL d r l) = some o' → o'.side → o'.l = o.l →
          RecOK P aops ⟨pre.length, d, pickL l (usesO ⟨d, op, g, af⟩), hin, hout, r⟩ → hin = hout → (∀ x ∈ hin, x ∈ H) →
          ∃ rs : List Rec, rs.map (·.idx) = List.range' pre.length (os.length + 1) ∧ (∀ r ∈ rs, QRec P aops H r) ∧ qchain rs ⟨N, l⟩ ⟨N, o.l⟩ := by
        intro r hin hout o' cs' h' hs' hl hok hq hsub
        obtain ⟨rs, k1, k2, k3⟩ := runQ_ok (aops := aops) os (pre ++ [⟨d, op, g, af⟩]) cs' (putL d r l) o' (by rw [← hpre]; simp) h' hs'
        refine ⟨⟨pre.length, d, pickL l (usesO ⟨d, op, g, af⟩), hin, hout, r⟩ :: rs, by simpa [List.range'] using k1, fun q hq' => ?_, ⟨fun t x hx => (pickL_some hx).1, fun t ht => ?_⟩, ?_⟩
        · rcases List.mem_cons.1 hq' with rfl | hq'
          · exact ⟨hok, hq, hsub, _, hget, rfl, fun t x hx => (pickL_some hx).2⟩
          · exact k2 q hq'
        · dsimp only at ht
          subst ht
          exact Nat.le_of_ble_eq_true hd
        · have e1 : (AAct.put ⟨N, l⟩ d r) = ⟨N, putL d r l⟩ := by cases d <;> rfl
          rw [← hl]
          dsimp only
          rw [e1]
          exact k3
      split at h
      · cases h
      · rename_i hg
        exact next (.tup []) [] [] o _ h hs rfl ⟨_, hget, rfl, .inr ⟨hg, rfl, rfl, rfl⟩⟩ rfl (fun x hx => by cases hx)
      · rename_i hg
        split at h
        · rename_i gg as
          split at h <;> first | cases h | skip
          rename_i fv vs q cs' hfv hvs
          split at h <;> first | cases h | skip
          rename_i f ws hcall
          obtain ⟨⟨h1, h2, h3⟩, o', ho', hs', e1⟩ := addQ_some h hs
          refine next q.r q.hin q.hout o' _ ho' hs' e1 ⟨_, hget, rfl, .inl ⟨hg, ?_⟩⟩ h2 h3
          unfold callOf at hcall
          split at hcall <;> cases hcall
          · exact AOpT.call hfv hvs h1
          · exact AOpT.callC hfv hvs h1
        · split at h <;> first | cases h | skip
          rename_i q hq
          obtain ⟨⟨h1, h2⟩, o', ho', hs', e1⟩ := addQ_some h hs
          exact next q.r q.hin q.hout o' _ ho' hs' e1 ⟨_, hget, rfl, .inl ⟨hg, evOp_ok hq h1⟩⟩ h2 (evOp_hin hq)

theorem HeapRel.drawn {S : Seal} {i : Emb} {H : AHeap} {w : World} (h : HeapRel S i H w) (k : Nat) : HeapRel S i H { w with drawn := k } :=
  ⟨h.cell, h.size, h.obj, h.inj, h.dom, h.gr⟩
theorem Tr.drawn {S S' : Seal} {i i' : Emb} {H H' : AHeap} {w w' : World} {k : Nat} (h : Tr S i H { w with drawn := k } S' i' H' w') : Tr S i H w S' i' H' w' :=
  ⟨h.up, h.grow, h.old, h.newSeal, h.newEmb, h.sub, h.os, h.out, h.tape⟩

/-- A REGION WHOSE ORDER IS DRAWN -/
theorem AWc.draw {P : Program} {ro : Option Nat} {m n N : Nat} {aops : List AOper} {l l' : List (Nat × AV)} {H : AHeap} {s : Prop} {Q : Exit → AAct → AHeap → Nat → Prop} (hmix : P.follows .mixedOrders = true) (cs : List Cres)
    (hm : m ≤ n) (hind : indepA aops = true) (hH : nodupH H = true) (h : runQ P N H aops cs l = some ⟨l', s⟩) (hs : s) (hQ : Q .normal ⟨N, l'⟩ H n) : AWc P ro m (.region true aops) ⟨N, l⟩ H n Q := by
  intro cc hcc
  cases cc <;> simp only [compCode] at hcc
  case region id ops draw =>
    injection hcc with h1 h2
    subst h1 h2
    obtain ⟨rs, r1, r2, r3⟩ := runQ_ok _ [] cs l _ rfl h hs
    have hlen : (ops.toList.map (compOper P ops)).length = ops.size := by simp
    have hidx : ∀ r ∈ rs, r.idx < ops.size := by
      intro r hr
      have : r.idx ∈ rs.map (·.idx) := List.mem_map.2 ⟨r, hr, rfl⟩
      rw [r1] at this
      simpa [hlen, List.mem_range'_1] using this
    have hmemall : ∀ i, i < ops.size → ∃ r ∈ rs, r.idx = i := by
      intro i hi
      have : i ∈ rs.map (·.idx) := by rw [r1]; simpa [hlen, List.mem_range'_1] using hi
      obtain ⟨r, hr, he⟩ := List.mem_map.1 this
      exact ⟨r, hr, he⟩
    have hsort : rs.Pairwise (fun p r => p.idx < r.idx) := by
      have : (rs.map (·.idx)).Pairwise (· < ·) := by rw [r1]; exact List.pairwise_lt_range'
      exact List.pairwise_map.1 this
    have hcheck : ∀ i r, (ops.toList.map (compOper P ops))[i]? = some r → (∀ j ∈ r.after, j < i) ∧ ∀ j p, j < i → (ops.toList.map (compOper P ops))[j]? = some p → j ∈ r.after ∨ apartA p r = true := by
      intro i r hr
      have hi : i < (ops.toList.map (compOper P ops)).length := (List.getElem?_eq_some_iff.1 hr).1
      have := List.all_eq_true.1 hind i (List.mem_range.2 hi)
      rw [hr] at this
      simp only [Bool.and_eq_true] at this
      refine ⟨fun j hj => Nat.le_of_ble_eq_true (List.all_eq_true.1 this.1 j hj), fun j p hj hp => ?_⟩
      have h3 := List.all_eq_true.1 this.2 j (List.mem_range.2 hj)
      rw [hp] at h3
      simp only [Bool.or_eq_true] at h3
      exact h3.imp memN_iff.1 (fun h => h)
    have haft : ∀ i r, (ops.toList.map (compOper P ops))[i]? = some r → ∀ j, j ∈ aft ops i ↔ j ∈ r.after := by
      intro i r hr j
      simp only [List.getElem?_map, Option.map_eq_some_iff] at hr
      obtain ⟨o, ho, rfl⟩ := hr
      have ho' : ops[i]? = some o := by simpa using ho
      simp only [aft, ho', compOper, List.mem_eraseDups]
    intro S i w ca ha hh hd
    refine wpIn_region_draw fun t => ?_
    rw [hmix]
    have hsch : Region.schedule true ops t = Region.linearise.go .any ops ops.size t (Array.replicate ops.size false) [] := rfl
    rw [hsch]
    have hrl : rs.length = ops.size := by
      have := congrArg List.length r1
      simpa [hlen] using this
    obtain ⟨rs', k1, k2, k3⟩ := lin_ok (ops := ops) ops.size t (Array.replicate ops.size false) rs ⟨N, l⟩ (by omega) (by simp) (fun i hi => by simp [hi]; exact hmemall i hi) hidx hsort (by
      refine List.Pairwise.imp_of_mem ?_ hsort
      intro p r hp hr hlt
      obtain ⟨ap, ap1, ap2, ap3⟩ := (r2 p hp).uses
      obtain ⟨ar, ar1, ar2, ar3⟩ := (r2 r hr).uses
      rcases (hcheck _ _ ar1).2 _ _ hlt ap1 with h | h
      · exact .inl ((haft _ _ ar1 _).2 h)
      · right
        have hno : ∀ {ao : AOper} {q : Rec}, (∀ t x, lk q.args t = some x → t ∈ usesO ao) → ∀ t, memN t (usesO ao) = false → lk q.args t = none := by
          intro ao q hq t ht
          cases hx : lk q.args t with
          | none => rfl
          | some x => rw [memN_iff.2 (hq t x hx)] at ht; cases ht
        simp only [apartA, Bool.and_eq_true] at h
        obtain ⟨h1, h2⟩ := h
        refine ⟨fun t ht => ?_, fun t ht => ?_⟩
        · rw [← ap2] at ht
          rw [ht] at h1
          simp only [Bool.and_eq_true, Bool.not_eq_true'] at h1
          refine ⟨hno ar3 t h1.1, fun hr' => ?_⟩
          rw [← ar2] at hr'
          rw [hr'] at h1
          have := h1.2
          simp at this
        · rw [← ar2] at ht
          rw [ht] at h2
          simp only [Bool.not_eq_true'] at h2
          exact hno ap3 t h2) (fun r hr j hj => by
      obtain ⟨ar, ar1, ar2, ar3⟩ := (r2 r hr).uses
      exact (hcheck _ _ ar1).1 j ((haft _ _ ar1 j).1 hj)) r3
    rw [← k1]
    obtain ⟨a'', H'', c1, c2, c3, c4⟩ := q_chain (nodupH_fun hH) (H := H) (fun _ => Iff.rfl) (fun r hr => ⟨(r2 r (k2 r hr)).quiet, (r2 r (k2 r hr)).sub⟩) k3
    refine recs_ok n rs' _ _ a'' H'' [] (fun r hr => (r2 r (k2 r hr)).ok) c1 (fresh_quiet fun r hr => (r2 r (k2 r hr)).quiet) S i _ ca ha (hh.drawn _) (fun l b hl => .inl (hd l b hl)) ?_
    intro S' i' w' ca' hact hdef hhp hle hdom hag htr
    refine ⟨⟨N, l'⟩, H, n, S', i', hQ, ⟨hact.size.trans c3, fun t x hx => hact.get t x ((c4 t).symm.trans hx)⟩, .of_eq hdef, hhp.perm fun x hx => (c2 x).2 hx, fun l b hl => ?_, fun l hl => hag l (by omega),
      (htr.perm (fun _ h => h) (fun x hx => (c2 x).2 hx)).drawn⟩
    rcases hdom l b hl with h | h | h
    · exact h
    · cases h
    · obtain ⟨r, hr, hx⟩ := List.mem_flatMap.1 h
      rw [newLab_quiet (r2 r (k2 r hr)).quiet] at hx
      cases hx
  all_goals first | (split at hcc <;> cases hcc) | cases hcc
end Go.Proofs.Abs
end
section
/- Loops in a canonical form; labels are bounded by a check; a block of bytes is frozen. -/
namespace Go.Proofs.Abs
open Go

mutual
def AV.ltb (k : Nat) : AV → Bool
  | .d _ => true
  | .cp _ _ => true
  | .ptr l _ => Nat.blt l k
  | .sl l _ _ _ _ => Nat.blt l k
  | .ap l _ _ => Nat.blt l k
  | .win _ _ => true
  | .nils => true
  | .agg l => AV.ltbL k l
  | .tup l => AV.ltbL k l
  | .fn _ l => AV.ltbL k l
  | .mp l => Nat.blt l k
  | .lf l => Nat.blt l k
  | .dn _ => true
  | .row l _ _ => Nat.blt l k
  | .apo l _ _ => Nat.blt l k
  | .any => true
def AV.ltbL (k : Nat) : List AV → Bool
  | [] => true
  | x :: r => bif AV.ltb k x then AV.ltbL k r else false
end
mutual
theorem AV.lt_of {k : Nat} : ∀ {x : AV}, AV.ltb k x = true → x.lt k
  | .d _, _ => .d
  | .cp _ _, _ => .cp
  | .ptr l _, h => .ptr (by rw [AV.ltb] at h; exact Nat.le_of_ble_eq_true h)
  | .sl l _ _ _ _, h => .sl (by rw [AV.ltb] at h; exact Nat.le_of_ble_eq_true h)
  | .ap l _ _, h => .ap (by rw [AV.ltb] at h; exact Nat.le_of_ble_eq_true h)
  | .win _ _, _ => .win
  | .nils, _ => .nils
  | .agg l, h => .agg (AV.ltL_of (by rw [AV.ltb] at h; exact h))
  | .tup l, h => .tup (AV.ltL_of (by rw [AV.ltb] at h; exact h))
  | .fn _ l, h => .fn (AV.ltL_of (by rw [AV.ltb] at h; exact h))
  | .mp l, h => .mp (by rw [AV.ltb] at h; exact Nat.le_of_ble_eq_true h)
  | .lf l, h => .lf (by rw [AV.ltb] at h; exact Nat.le_of_ble_eq_true h)
  | .dn _, _ => .dn
  | .row l _ _, h => .row (by rw [AV.ltb] at h; exact Nat.le_of_ble_eq_true h)
  | .apo l _ _, h => .apo (by rw [AV.ltb] at h; exact Nat.le_of_ble_eq_true h)
  | .any, _ => .any
theorem AV.ltL_of {k : Nat} : ∀ {l : List AV}, AV.ltbL k l = true → ∀ x ∈ l, AV.lt k x
  | [], _ => fun x hx => by cases hx
  | y :: r, h => fun x hx => by
    rw [AV.ltbL] at h
    cases hb : AV.ltb k y with
    | false => rw [hb] at h; cases h
    | true =>
      rw [hb] at h
      rcases List.mem_cons.1 hx with hx | hx
      · rw [hx]; exact AV.lt_of hb
      · exact AV.ltL_of h x hx
end
def AObj.ltb (k : Nat) : AObj → Bool
  | .cells l => AV.ltbL k l
  | .tok _ => true
  | .rowD _ => true
  | .rowP _ => true
  | .row l => AV.ltbL k l
  | .tokv _ _ => true
  | .mp _ => true
  | .lp _ sl _ _ _ _ _ => sl.all fun x => AV.ltb k x.2
theorem AObj.lt_of {k : Nat} {o : AObj} (h : AObj.ltb k o = true) : o.lt k := by
  cases o with
  | cells l => exact AV.ltL_of h
  | tok n => exact trivial
  | rowD ds => exact trivial
  | rowP ds => exact trivial
  | row l => exact AV.ltL_of h
  | tokv n ds => exact trivial
  | mp es => exact trivial
  | lp N sl ps asg bd st pend => exact fun x hx => AV.lt_of (List.all_eq_true.1 h x hx)

/-- labels' renaming, by a list -/
def sub1 : List (Nat × Nat) → Nat → Nat
  | [], l => l
  | (a, b) :: r, l => bif Nat.beq a l then b else sub1 r l

def slotsIn (l : List (Nat × AV)) (s : Nat → Nat) (k : Nat) : List (Nat × AV) → Prop
  | [] => True
  | (t, v) :: r => lk l t = some (v.ren s) ∧ AV.ltb k v = true ∧ slotsIn l s k r
def objsIn (H : AHeap) (s : Nat → Nat) (k : Nat) : AHeap → Prop
  | [] => True
  | (t, o) :: r => lkH H (s t) = some (o.ren s) ∧ Nat.blt t k = true ∧ AObj.ltb k o = true ∧ objsIn H s k r
theorem slotsIn_lk {l : List (Nat × AV)} {s : Nat → Nat} {k : Nat} : ∀ {l' : List (Nat × AV)}, slotsIn l s k l' → ∀ t x, lk l' t = some x → lk l t = some (x.ren s) ∧ x.lt k
  | [], _, t, x, h => by cases h
  | (u, v) :: r, h, t, x, hx => by
    simp only [lk] at hx
    cases hb : Nat.beq u t with
    | true =>
      rw [hb] at hx
      cases hx
      cases Nat.eq_of_beq_eq_true hb
      exact ⟨h.1, AV.lt_of h.2.1⟩
    | false =>
      rw [hb] at hx
      exact slotsIn_lk h.2.2 t x hx
theorem objsIn_mem {H : AHeap} {s : Nat → Nat} {k : Nat} : ∀ {H' : AHeap}, objsIn H s k H' → ∀ l o, (l, o) ∈ H' → (s l, o.ren s) ∈ H ∧ l < k ∧ o.lt k
  | [], _, l, o, h => by cases h
  | (u, v) :: r, h, l, o, hx => by
    rcases List.mem_cons.1 hx with hx | hx
    · cases hx
      exact ⟨lkH_mem h.1, Nat.le_of_ble_eq_true h.2.1, AObj.lt_of h.2.2.1⟩
    · exact objsIn_mem h.2.2.2 l o hx

def allB (p : Nat → Bool) : Nat → Bool
  | 0 => true
  | n + 1 => bif p n then allB p n else false
theorem allB_of {p : Nat → Bool} : ∀ {n : Nat}, allB p n = true → ∀ l, l < n → p l = true
  | 0, _, l, h => by omega
  | n + 1, h, l, hl => by
    rw [allB] at h
    cases hb : p n with
    | false => rw [hb] at h; cases h
    | true =>
      rw [hb] at h
      rcases Nat.lt_or_eq_of_le (Nat.le_of_lt_succ hl) with h' | h'
      · exact allB_of h l h'
      · rw [h']; exact hb
/-- is it a renaming that may be made? -/
def subOK (m k : Nat) (ps : List (Nat × Nat)) (H' : AHeap) : Bool :=
  allB (fun l => Nat.beq (sub1 ps l) l) m && allB (fun l => hasK l H' || Nat.beq (sub1 ps l) l) k &&
  H'.all fun x => H'.all fun y => !Nat.beq (sub1 ps x.1) (sub1 ps y.1) || Nat.beq x.1 y.1

/-- the state is (but for labels) this one, and more -/
structure InC (m N k : Nat) (l' : List (Nat × AV)) (H' : AHeap) (a : AAct) (H : AHeap) : Prop where
  n : a.n = N
  ren : ∃ ps, subOK m k ps H' = true ∧ slotsIn a.l (sub1 ps) k l' ∧ objsIn H (sub1 ps) k H'

section
variable {P : Program} {ro : Option Nat} {a : AAct} {H : AHeap} {n m : Nat} {Q : Exit → AAct → AHeap → Nat → Prop}

theorem AWc.to {c : ACode} {N k : Nat} {l' : List (Nat × AV)} {H' : AHeap} (hm : m ≤ k) (hin : InC m N k l' H' a H) (h : AWc P ro m c ⟨N, l'⟩ H' k Q) : AWc P ro m c a H n Q := by
  obtain ⟨hn, ps, hps, hs, ho⟩ := hin
  simp only [subOK, Bool.and_eq_true] at hps
  obtain ⟨⟨p1, p2⟩, p3⟩ := hps
  refine AWc.rename (sub1 ps) hm (fun l hl => Nat.eq_of_beq_eq_true (allB_of p1 l hl)) (fun l hl => ?_) (fun l l' hl hl' he => ?_) hn.symm (slotsIn_lk hs) (objsIn_mem ho) h
  · have := allB_of p2 l hl
    simp only [Bool.or_eq_true] at this
    exact this.imp hasK_iff.1 Nat.eq_of_beq_eq_true
  · obtain ⟨o, ho⟩ := mem_keys.1 hl
    obtain ⟨o', ho'⟩ := mem_keys.1 hl'
    have := List.all_eq_true.1 (List.all_eq_true.1 p3 _ ho) _ ho'
    simp only [Bool.or_eq_true, Bool.not_eq_true'] at this
    rcases this with h | h
    · rw [he, Nat.beq_refl] at h; cases h
    · exact Nat.eq_of_beq_eq_true h

end

/-- what a block's cells say, as elements -/
theorem ACalls.freeze {P : Program} {f : FuncId} {xs : List AV} {l len cap : Nat} {ds : List D} (h : ACalls P f xs [] (.sl l 0 len cap 1) [(l, .cells (ds.map .d))]) (hs : ∀ d ∈ ds, d.isAgg = false) (hcap : cap = ds.length) (hlen : len ≤ cap) :
    (∀ x ∈ xs, x.lb fun k => k ≠ l) → ACalls P f xs [] (.win ds len) [] := by
  intro hxs
  refine ⟨h.1, fun S i w vs hvs hv hh hf => ?_⟩
  -- the label is made free
  let i0 : Emb := fun k => if k = l then none else i k
  have hi0 : i0.le i := fun k b hk => by
    simp only [i0] at hk
    split at hk
    · cases hk
    · exact hk
  have hc := h.2 S i0 w vs hvs (fun j h1 h2 => (hv j h1 h2).relabel (K := fun k => k ≠ l) (fun k hk => by simp [i0, hk]) (hxs _ (List.getElem_mem h1)))
    ⟨hh.cell, hh.size, fun _ _ hm => (by cases hm), fun _ _ _ _ _ hm => (by cases hm), fun k b hk => hh.dom k b (hi0 k b hk), hh.gr⟩ (fun k hk _ => by
      simp only [AHeap.keys, List.map_cons, List.map_nil, List.mem_singleton] at hk
      simp [i0, hk])
  refine Calls.mono hc fun e w' ⟨v, he, S', i', h1, h2, h3, h4, h5⟩ => ⟨v, he, ?_⟩
  cases h1 with
  | sl hi =>
    rename_i b
    rcases h2.obj l _ List.mem_cons_self with ⟨b', hb', C, ty, hC, hsz, hval, hns⟩ | ⟨hno, _⟩
    case inr => rw [hi] at hno; cases hno
    rw [hi] at hb'
    cases hb'
    have hnew : w.heap.size ≤ b := by
      rcases h4.sub b ⟨l, _, List.mem_cons_self, hi⟩ with ⟨_, _, hm, _⟩ | h
      · cases hm
      · exact h
    have hszd : C.size = ds.length := by simpa using hsz
    have hup : S'.le (S'.ext b 0 C.size C) := by
      refine ⟨fun a v ha => ?_, fun b n h => h⟩
      simp only [Seal.ext]
      rw [if_neg]
      · exact ha
      · rintro ⟨q1, _⟩
        rw [hns a q1] at ha; cases ha
    have hfl := flat_scalar hs
    have hdv : DV (S'.ext b 0 C.size C) (.sl ds) (.slice (some ⟨b, 0, none⟩) ds.length ds.length) := by
      refine .sl (z := 1) (fun k => C.getD k undef) (fun d hd => ?_) (by rw [hfl]; exact hs) (Nat.le_refl _) (fun m hm => ?_) (fun m hm => ?_)
      · have := hs d hd
        cases d <;> first | rfl | (simp [D.isAgg] at this; done)
      · rw [hfl] at hm
        have hmc : m < C.size := by omega
        simp only [Seal.ext]
        rw [if_pos ⟨trivial, trivial, Nat.zero_le _, by show 0 + m < _; omega⟩]
        simp [hmc]
      · have hm' : m < ds.length := by rw [hfl] at hm; exact hm
        have he : (flat ds)[m] = ds[m] := by simp only [hfl]
        rw [he]
        have hmc : m < C.size := by omega
        have h6 := hval m (by simpa using hm') hmc
        rw [List.getElem_map] at h6
        have := (vD h6).mono hup
        simpa [hmc] using this
    refine ⟨S'.ext b 0 C.size C, i, ?_, ⟨fun a v ha => ?_, h2.size, fun _ _ hm => (by cases hm), fun _ _ _ _ _ hm => (by cases hm), fun k c hk => Nat.lt_of_lt_of_le (hh.dom k c hk) h4.grow, fun a v h => hup.cell _ _ (h2.gr a v h)⟩, fun _ _ h => h,
      ⟨h4.up.trans hup, h4.grow, fun k hk _ => h4.old k hk (fun ⟨_, _, hm, _⟩ => by cases hm), fun a v ha => ?_, fun _ _ h => .inl h, fun _ ⟨_, _, hm, _⟩ => (by cases hm), h4.os, h4.out, h4.tape⟩, fun _ _ h => .inl h⟩
    · subst hcap
      exact .win hdv hlen
    · simp only [Seal.ext] at ha
      split at ha
      · rename_i hq
        obtain ⟨q1, q2, q3, q4⟩ := hq
        unfold World.cell?
        rw [q1, hC]
        simp [q2, ha]
      · exact h2.cell a v ha
    · simp only [Seal.ext] at ha
      split at ha
      · rename_i hq
        rw [hq.1]
        exact .inr (.inr hnew)
      · rcases h4.newSeal a v ha with h | ⟨_, _, hm, _⟩ | h
        · exact .inl h
        · cases hm
        · exact .inr (.inr h)
end Go.Proofs.Abs
end
section
/- A region is run piece by piece. -/
namespace Go.Proofs.Abs
open Go
section
variable {P : Program} {ro : Option Nat} {m n N : Nat} {aops : List AOper} {l : List (Nat × AV)} {H : AHeap} {Q : Exit → AAct → AHeap → Nat → Prop}

theorem freshL_set {n : Nat} : ∀ {rs : List Rec} {L L' : List Nat}, (∀ x, x ∈ L' → x ∈ L) → freshL n L rs → freshL n L' rs
  | [], _, _, _, _ => trivial
  | r :: rs, L, L', h, hf => ⟨fun l hl => ⟨(hf.1 l hl).1, fun hx => (hf.1 l hl).2 (h l hx)⟩, freshL_set (fun x hx => by
      rcases List.mem_append.1 hx with hx | hx
      · exact List.mem_append.2 (.inl hx)
      · exact List.mem_append.2 (.inr (h x hx))) hf.2⟩
theorem freshL_append {n : Nat} : ∀ {rs qs : List Rec} {L : List Nat}, freshL n L rs → freshL n (rs.flatMap newLab ++ L) qs → freshL n L (rs ++ qs)
  | [], _, _, _, h => h
  | r :: rs, qs, L, h1, h2 => ⟨h1.1, freshL_append h1.2 (freshL_set (fun x hx => by
      simp only [List.flatMap_cons, List.mem_append] at hx ⊢
      rcases hx with hx | hx | hx
      · exact .inl (.inr hx)
      · exact .inl (.inl hx)
      · exact .inr hx) h2)⟩
theorem chain_append : ∀ {rs qs : List Rec} {a b c : AAct} {H G K : AHeap}, chain rs a H b G → chain qs b G c K → chain (rs ++ qs) a H c K
  | [], _, _, _, _, _, _, _, h, g => by obtain ⟨rfl, rfl⟩ := h; exact g
  | _ :: _, _, _, _, _, _, _, _, h, g => ⟨h.1, chain_append h.2 g⟩

theorem RegOK.comp {k m1 m2 c : Nat} {o1 o2 : RunOut} (h1 : RegOK P aops N k m1 c l H o1) (h2 : RegOK P aops N (k + m1) m2 o1.c o1.l o1.H o2) : RegOK P aops N k (m1 + m2) c l H o2 := by
  intro n L hn hL
  obtain ⟨rs, r1, r2, r3, r4, r5, r6⟩ := h1 n L hn hL
  obtain ⟨qs, q1, q2, q3, q4, q5, q6⟩ := h2 n (rs.flatMap newLab ++ L) (by omega) (fun x hx => by
    rcases List.mem_append.1 hx with hx | hx
    · exact r6 x hx
    · have := hL x hx; omega)
  refine ⟨rs ++ qs, ?_, fun r hr => (List.mem_append.1 hr).elim (r2 r) (q2 r), chain_append r3 q3, freshL_append r4 q4, by omega, fun x hx => ?_⟩
  · rw [List.map_append, r1, q1, List.range'_append_1]
  · simp only [List.flatMap_append, List.mem_append] at hx
    rcases hx with hx | hx
    · have := r6 x hx; omega
    · exact q6 x hx

def RegTo (P : Program) (aops : List AOper) (N k : Nat) (c : Nat) (l : List (Nat × AV)) (H : AHeap) (Q : Exit → AAct → AHeap → Nat → Prop) : Prop :=
  ∃ o : RunOut, RegOK P aops N k (aops.length - k) c l H o ∧ Q .normal ⟨N, o.l⟩ o.H o.c

theorem AWc.pieces (hm : m ≤ n) (h : RegTo P aops N 0 n l H Q) : AWc P ro m (.region false aops) ⟨N, l⟩ H n Q := by
  obtain ⟨o, h1, h2⟩ := h
  obtain ⟨rs, r1, r2, r3, r4, r5, r6⟩ := h1 n [] (Nat.le_refl _) (fun x hx => by cases hx)
  exact .region rs (by rw [r1, List.range_eq_range']; simp) r2 r3 r4 r5 r6 hm h2
theorem RegTo.done {k c : Nat} (hk : aops.length = k) (h : Q .normal ⟨N, l⟩ H c) : RegTo P aops N k c l H Q :=
  ⟨⟨l, H, c, True⟩, fun n L _ _ => ⟨[], by rw [hk]; simp, fun r hr => (by cases hr), ⟨rfl, rfl⟩, trivial, Nat.le_refl _, fun x hx => (by simp at hx)⟩, h⟩
theorem RegTo.piece {k k' c c' : Nat} {l' : List (Nat × AV)} {H' : AHeap} {s : Prop} (j : Nat) (cs : List Cres) (own : Nat → Bool) (os : List AOper) (hos : (aops.drop k).take j = os) (hj : k + j ≤ aops.length) (hk : k' = k + j)
    (h : runReg P N own os k cs c l H = some ⟨l', H', c', s⟩) (hs : s) (hn : RegTo P aops N k' c' l' H' Q) : RegTo P aops N k c l H Q := by
  subst hk
  obtain ⟨o, h1, h2⟩ := hn
  have hlen : (aops.take k).length = k := by simp; omega
  have hol : os.length = j := by rw [← hos]; simp; omega
  -- the piece's operations are the region's
  have key : ∀ (os pre post : List AOper) (cs : List Cres) (c : Nat) (l : List (Nat × AV)) (H : AHeap) (o : RunOut), pre ++ (os ++ post) = aops →
      runReg P N own os pre.length cs c l H = some o → o.side → RegOK P aops N pre.length os.length c l H o := by
    intro os pre post cs c l H o hpre h hs
    have h0 := runReg_ok (aops := pre ++ os) os pre cs c l H o rfl h hs
    intro n L hn hL
    obtain ⟨rs, r1, r2, r3, r4, r5, r6⟩ := h0 n L hn hL
    refine ⟨rs, r1, fun r hr => ?_, r3, r4, r5, r6⟩
    obtain ⟨ao, ha, hrest⟩ := r2 r hr
    refine ⟨ao, ?_, hrest⟩
    rw [← hpre, ← List.append_assoc, List.getElem?_append_left (List.getElem?_eq_some_iff.1 ha).1]
    exact ha
  have hsplit : aops.take k ++ (os ++ (aops.drop k).drop j) = aops := by
    rw [← hos, List.take_append_drop, List.take_append_drop]
  have h3 := key os (aops.take k) ((aops.drop k).drop j) cs c l H _ hsplit (by rw [hlen]; exact h) hs
  rw [hlen, hol] at h3
  have := h3.comp h1
  have e : j + (aops.length - (k + j)) = aops.length - k := by omega
  rw [e] at this
  exact ⟨o, this, h2⟩
end
end Go.Proofs.Abs
end
section
/- The world at the start; what a law's call comes to. -/
namespace Go.Proofs.Abs
open Go Go.ChangeShapes Go.WideShapes Go.ChangeAt Go.RowKit

def sealOf (W : World) : Seal where
  cell := W.cell?
  size b := match W.heap[b]? with
    | some (.cells c _ _) => some c.size
    | _ => none
theorem heap0 (W : World) (hg : ∀ a v, gT a = some v → W.cell? a = some v) : HeapRel (sealOf W) (fun _ => none) [] W where
  cell := fun _ _ h => h
  size := fun b n h => by
    simp only [sealOf] at h
    split at h
    · rename_i c e f hc
      cases h
      exact ⟨c, e, f, hc, rfl⟩
    · cases h
  obj := fun _ _ h => by cases h
  inj := fun _ _ _ _ _ h => by cases h
  dom := fun _ _ h => by cases h
  gr := hg

theorem law_calls {P : Program} {f : FuncId} {args : List AV} (h : ACalls P f args [] (.d (.bool true)) []) {vs : List Value} (W : World) (hg : ∀ a v, gT a = some v → W.cell? a = some v) (hlen : args.length = vs.length)
    (hv : ∀ j (h1 : j < args.length) (h2 : j < vs.length), V (sealOf W) (fun _ => none) args[j] vs[j]) : Calls P f vs.toArray W fun e w' => e = .returned (.bool true) ∧ Below W.heap.size W w' := by
  refine Calls.mono (h.2 (sealOf W) (fun _ => none) W vs hlen hv (heap0 W hg) (fun l hl => by cases hl)) fun e w' ⟨v, he, S', i', h1, h2, h3, h4, h5⟩ => ⟨?_, ?_⟩
  · rw [he, vBool h1]
  · refine ⟨h4.os, h4.tape, h4.out, h4.grow, fun k hk => h4.old k hk ?_⟩
    rintro ⟨l, o, hm, _⟩
    cases hm

def toBytes (zs : List Int) : List UInt8 := zs.map fun n => UInt8.ofNat n.toNat
end Go.Proofs.Abs
end
section
/- A scope through which the run goes straight. -/
namespace Go.Proofs.Abs
open Go
abbrev noGo (Q : Exit → AAct → AHeap → Nat → Prop) : Exit → AAct → AHeap → Nat → Prop
  | .goto _ => fun _ _ _ => False
  | e => Q e
def noGoC (Q : Exit → Act → World → Prop) : Exit → Act → World → Prop
  | .goto _ => fun _ _ => False
  | e => Q e

theorem stepR_scope {P : Program} {b : Frame} {a : Act} {k : List Item} {cs : List Frame} {w : World} {c : Code} :
    step P (lone (b.atR a (.code (.scope c) :: k)) cs w) = .next (lone (b.atR a (.code c :: .inScope c :: k)) cs w) :=
  step_lone_go (by simp [stepG, stepG.exec, Frame.atR])
theorem stepR_inScope {P : Program} {b : Frame} {a : Act} {k : List Item} {cs : List Frame} {w : World} {c : Code} :
    step P (lone (b.atR a (.inScope c :: k)) cs w) = .next (lone (b.atR a k) cs w) :=
  step_lone_go (by simp [stepG, stepG.exec, Frame.atR])

theorem wpIn_scope {F : Fence} {n : Nat} {P : Program} {Q : Exit → Act → World → Prop} {a : Act} {w : World} {c : Code} (h : c.wpIn F n P (noGoC Q) a w) : (Code.scope c).wpIn F n P Q a w := by
  intro b k cs hro hb hr
  have h0 : (lone (b.atR a (.code (.scope c) :: k)) cs w).fenced P F := fenced_calm hb hr rfl
  obtain ⟨e, a₁, w₁, hq, harr⟩ := h b (.inScope c :: k) cs hro hb hr
  cases e with
  | normal => exact ⟨.normal, a₁, w₁, hq, .head h0 stepR_scope (StepsIn.trans harr (.one (fenced_calm hb hr rfl) stepR_inScope))⟩
  | exit id =>
    have hx : exitTo id (.inScope c :: k) = exitTo id k := by simp [exitTo]
    exact ⟨_, a₁, w₁, hq, fun k' hk => .head h0 stepR_scope (harr.1 k' (by rw [hx]; exact hk)),
      fun hr' hk => let ⟨k₁, h1, h2⟩ := harr.2 hr' (by rw [hx]; exact hk); ⟨k₁, h1, .head h0 stepR_scope h2⟩⟩
  | goto l => exact hq.elim
  | ret => exact ⟨_, a₁, w₁, hq, .of_steps (.one h0 stepR_scope) harr⟩
  | panic ch => exact ⟨_, a₁, w₁, hq, .of_steps (.one h0 stepR_scope) harr⟩
  | outgrown => exact ⟨_, a₁, w₁, hq, .of_steps (.one h0 stepR_scope) harr⟩

theorem AWc.scope {P : Program} {ro : Option Nat} {m n : Nat} {a : AAct} {H : AHeap} {Q : Exit → AAct → AHeap → Nat → Prop} {c : ACode} (h : AWc P ro m c a H n (noGo Q)) : AWc P ro m (.scope c) a H n Q := by
  intro cc hcc
  cases cc <;> simp only [compCode] at hcc
  case scope u =>
    injection hcc with h1
    intro S i w ca ha hh hn
    refine wpIn_scope (wpIn_mono (h u h1 S i w ca ha hh hn) ?_)
    rintro ex ca' w' ⟨a', H', n', S', i', q, r⟩
    cases ex with
    | goto l => exact q.elim
    | normal => exact ⟨a', H', n', S', i', q, r⟩
    | exit j => exact ⟨a', H', n', S', i', q, r⟩
    | ret => exact ⟨a', H', n', S', i', q, r⟩
    | panic ch => exact ⟨a', H', n', S', i', q, r⟩
    | outgrown => exact ⟨a', H', n', S', i', q, r⟩
  all_goals first | (split at hcc <;> cases hcc) | cases hcc
end Go.Proofs.Abs
end
section
/- What was made to be appended to is taken as data; drawn orders with operations that write. -/
namespace Go.Proofs.Abs
open Go

def hcan (r : Rec) (a : AAct) (H : AHeap) : Prop := qcan r a ∧ (∀ x ∈ r.hin, x ∈ H) ∧ Fun r.hout
def hchain : List Rec → AAct → AHeap → AAct → AHeap → Prop
  | [], a, H, a', H' => (a'.n = a.n ∧ ∀ t, lk a'.l t = lk a.l t) ∧ ∀ x, x ∈ H' ↔ x ∈ H
  | r :: rs, a, H, a', H' => hcan r a H ∧ hchain rs (a.put r.dst r.r) (stepH r H) a' H'

theorem stepH_mem {r : Rec} {H : AHeap} {x : Nat × AObj} : x ∈ stepH r H ↔ x ∈ r.hout ∨ (x ∈ H ∧ x.1 ∉ r.lab) := by
  simp only [stepH, List.mem_append, mem_restH]
theorem fun_step {r : Rec} {H : AHeap} (hF : Fun H) (hr : Fun r.hout) : Fun (stepH r H) := by
  intro x hx y hy he
  have inlab : ∀ {z : Nat × AObj}, z ∈ r.hout → z.1 ∈ r.lab := fun {z} hz => List.mem_append.2 (.inr (mem_keys.2 ⟨z.2, hz⟩))
  rcases stepH_mem.1 hx with hx | hx <;> rcases stepH_mem.1 hy with hy | hy
  · exact hr x hx y hy he
  · exact absurd (he ▸ inlab hx) hy.2
  · exact absurd (he ▸ inlab hy) hx.2
  · exact hF x hx.1 y hy.1 he
theorem hchain_eqv : ∀ {rs : List Rec} {a b a' : AAct} {H G H' : AHeap}, a.n = b.n → (∀ t, lk a.l t = lk b.l t) → (∀ x, x ∈ H ↔ x ∈ G) → hchain rs a H a' H' → hchain rs b G a' H'
  | [], a, b, a', H, G, H', h1, h2, h3, h => ⟨⟨h.1.1.trans h1, fun t => (h.1.2 t).trans (h2 t)⟩, fun x => (h.2 x).trans (h3 x)⟩
  | r :: rs, a, b, a', H, G, H', h1, h2, h3, h => by
    obtain ⟨⟨⟨c1, c2⟩, c3, c4⟩, h⟩ := h
    refine ⟨⟨⟨fun t x hx => (h2 t).symm.trans (c1 t x hx), fun t ht => h1 ▸ c2 t ht⟩, fun x hx => (h3 x).1 (c3 x hx), c4⟩, ?_⟩
    refine hchain_eqv (by rw [put_n, put_n, h1]) (fun t => ?_) (fun x => ?_) h
    · rw [lk_put, lk_put, h2 t]
    · rw [stepH_mem, stepH_mem, h3 x]

/-- their labels are apart, or both only read -/
def labApart (p r : Rec) : Prop := (∀ l ∈ p.lab, l ∉ r.lab) ∨ (p.hin = p.hout ∧ r.hin = r.hout)

theorem quiet_step {r : Rec} {H : AHeap} (hF : Fun H) (hq : r.hin = r.hout) (hsub : ∀ x ∈ r.hin, x ∈ H) (x : Nat × AObj) : x ∈ stepH r H ↔ x ∈ H := by
  rw [stepH_mem]
  constructor
  · rintro (hx | ⟨hx, _⟩)
    · exact hsub x (hq ▸ hx)
    · exact hx
  · intro hx
    by_cases hl : x.1 ∈ r.lab
    · left
      have : ∃ y ∈ r.hin, y.1 = x.1 := by
        rcases List.mem_append.1 hl with hl | hl
        · obtain ⟨o, ho⟩ := mem_keys.1 hl
          exact ⟨_, ho, rfl⟩
        · obtain ⟨o, ho⟩ := mem_keys.1 hl
          exact ⟨(x.1, o), by rw [hq]; exact ho, rfl⟩
      obtain ⟨y, hy, he⟩ := this
      have := hF y (hsub y hy) x hx he
      subst this
      exact hq ▸ hy
    · exact .inr ⟨hx, hl⟩

theorem h_swap {p r : Rec} {rs : List Rec} {a a' : AAct} {H H' : AHeap} (hF : Fun H) (hi : indep p r) (hl : labApart p r) (h : hchain (p :: r :: rs) a H a' H') : hchain (r :: p :: rs) a H a' H' := by
  obtain ⟨⟨hp1, hp2, hp3⟩, ⟨hr1, hr2, hr3⟩, h⟩ := h
  have hq : qchain (p :: r :: []) a ((a.put p.dst p.r).put r.dst r.r) := ⟨hp1, hr1, rfl, fun _ => rfl⟩
  obtain ⟨k1, k2, k3⟩ := q_swap hi hq
  have inhin : ∀ {q : Rec} {x : Nat × AObj}, x ∈ q.hin → x.1 ∈ q.lab := fun {q x} hz => List.mem_append.2 (.inl (mem_keys.2 ⟨x.2, hz⟩))
  have inhout : ∀ {q : Rec} {x : Nat × AObj}, x ∈ q.hout → x.1 ∈ q.lab := fun {q x} hz => List.mem_append.2 (.inr (mem_keys.2 ⟨x.2, hz⟩))
  rcases hl with hl | ⟨q1, q2⟩
  · have hrH : ∀ x ∈ r.hin, x ∈ H := fun x hx => by
      rcases stepH_mem.1 (hr2 x hx) with h | h
      · exact absurd (inhin hx) (hl _ (inhout h))
      · exact h.1
    refine ⟨⟨k1, hrH, hr3⟩, ⟨k2, fun x hx => stepH_mem.2 (.inr ⟨hp2 x hx, hl _ (inhin hx)⟩), hp3⟩, hchain_eqv k3.1 (fun t => k3.2 t) (fun x => ?_) h |> fun h => hchain_eqv rfl (fun _ => rfl) (fun _ => Iff.rfl) h⟩
    simp only [stepH_mem]
    constructor
    · rintro (h | ⟨h | ⟨h1, h2⟩, h3⟩)
      · exact .inr ⟨.inl h, fun hx => hl _ hx (inhout h)⟩
      · exact .inl h
      · exact .inr ⟨.inr ⟨h1, h3⟩, h2⟩
    · rintro (h | ⟨h | ⟨h1, h2⟩, h3⟩)
      · exact .inr ⟨.inl h, hl _ (inhout h)⟩
      · exact .inl h
      · exact .inr ⟨.inr ⟨h1, h3⟩, h2⟩
  · have e1 := quiet_step hF q1 hp2
    have hrH : ∀ x ∈ r.hin, x ∈ H := fun x hx => (e1 x).1 (hr2 x hx)
    have e2 := quiet_step hF q2 hrH
    have e3 := quiet_step (fun_step hF hp3) q2 hr2
    have e4 := quiet_step (fun_step hF hr3) q1 (fun x hx => (e2 x).2 (hp2 x hx))
    exact ⟨⟨k1, hrH, hr3⟩, ⟨k2, fun x hx => (e2 x).2 (hp2 x hx), hp3⟩, hchain_eqv k3.1 (fun t => k3.2 t) (fun x => by rw [e3 x, e1 x, e4 x, e2 x]) h⟩
end Go.Proofs.Abs
end
section
/- Every bound order, for operations that write. -/
namespace Go.Proofs.Abs
open Go
theorem h_front {r : Rec} {post : List Rec} : ∀ {pre : List Rec} {a a' : AAct} {H H' : AHeap}, Fun H → (∀ p ∈ pre, indep p r ∧ labApart p r) → hchain (pre ++ r :: post) a H a' H' → hchain (r :: (pre ++ post)) a H a' H'
  | [], _, _, _, _, _, _, h => h
  | p :: pre, a, a', H, H', hF, hi, h => by
    have h1 := h_front (fun_step hF h.1.2.2) (fun q hq => hi q (List.mem_cons_of_mem _ hq)) h.2
    exact h_swap hF (hi p List.mem_cons_self).1 (hi p List.mem_cons_self).2 ⟨h.1, h1⟩

/-- what has to come ahead, step by step -/
inductive Cl (ops : Array Oper) : Nat → Nat → Prop
  | one {i j : Nat} (h : j ∈ aft ops i) : Cl ops i j
  | tr {i q j : Nat} (h : q ∈ aft ops i) (hr : Cl ops q j) : Cl ops i j
def ClosedL (ops : Array Oper) (listed : Array Bool) : Prop := ∀ i, listed.getD i false = true → ∀ j ∈ aft ops i, listed.getD j false = true
theorem Cl.listed {ops : Array Oper} {listed : Array Bool} (hc : ClosedL ops listed) {i j : Nat} (h : Cl ops i j) (hb : ∀ j ∈ aft ops i, listed.getD j false = true) : listed.getD j false = true := by
  induction h with
  | one h => exact hb _ h
  | tr h hr ih => exact ih (hc _ (hb _ h))
theorem lin_okH {ops : Array Oper} {a' : AAct} {H' : AHeap} : ∀ (fuel t : Nat) (listed : Array Bool) (rs : List Rec) (a : AAct) (H : AHeap), Fun H → ClosedL ops listed → rs.length ≤ fuel → listed.size = ops.size → (∀ i, i < ops.size → (listed.getD i true = false ↔ ∃ r ∈ rs, r.idx = i)) →
    (∀ r ∈ rs, r.idx < ops.size) → rs.Pairwise (fun p r => p.idx < r.idx) → rs.Pairwise (fun p r => Cl ops r.idx p.idx ∨ (indep p r ∧ labApart p r)) → (∀ r ∈ rs, ∀ j ∈ aft ops r.idx, j < r.idx) → hchain rs a H a' H' →
    ∃ rs', rs'.map (·.idx) = Region.linearise.go .any ops fuel t listed [] ∧ rs'.Perm rs ∧ hchain rs' a H a' H'
  | 0, t, listed, rs, a, H, hF, hcl, hf, _, _, _, _, _, _, hq => by
    have : rs = [] := List.eq_nil_of_length_eq_zero (Nat.le_zero.1 hf)
    subst this
    exact ⟨[], rfl, .refl _, hq⟩
  | fuel + 1, t, listed, rs, a, H, hF, hcl, hf, hsz, hl, hlt, hsort, hpw, haf, hq => by
    have hgo : Region.linearise.go .any ops (fuel + 1) t listed [] = match (Region.ready .any ops listed)[t % (Region.ready .any ops listed).length]? with
        | some i => Region.linearise.go .any ops fuel (t / (Region.ready .any ops listed).length) (listed.setIfInBounds i true) [i]
        | none => [] := by
      rw [Region.linearise.go]
      rfl
    rw [hgo]
    have hready : ∀ i, i ∈ Region.ready .any ops listed ↔ (∃ r ∈ rs, r.idx = i) ∧ ∀ j ∈ aft ops i, listed.getD j false = true := by
      intro i
      rw [mem_ready]
      constructor
      · rintro ⟨h1, o, ho, h2⟩
        have hi : i < ops.size := (Array.getElem?_eq_some_iff.1 ho).1
        refine ⟨(hl i hi).1 h1, fun j hj => ?_⟩
        simp only [aft, ho, List.mem_map, List.mem_filter, Array.mem_toList_iff] at hj
        obtain ⟨e, ⟨he, hb⟩, rfl⟩ := hj
        exact h2 e he hb
      · rintro ⟨⟨r, hr, rfl⟩, h2⟩
        have hi := hlt r hr
        refine ⟨(hl _ hi).2 ⟨r, hr, rfl⟩, ops[r.idx], by simp [hi], fun e he hb => h2 _ ?_⟩
        simp only [aft, Array.getElem?_eq_getElem hi, List.mem_map, List.mem_filter, Array.mem_toList_iff]
        exact ⟨e, ⟨he, hb⟩, rfl⟩
    cases hrs : rs with
    | nil =>
      subst hrs
      have hnil : Region.ready .any ops listed = [] := by
        apply List.eq_nil_iff_forall_not_mem.2
        intro i hi
        obtain ⟨⟨r, hr, _⟩, _⟩ := (hready i).1 hi
        cases hr
      rw [hnil]
      exact ⟨[], by simp, .refl _, hq⟩
    | cons r0 rt =>
      rw [← hrs]
      have h0 : r0 ∈ rs := by rw [hrs]; exact List.mem_cons_self
      have hmem0 : r0.idx ∈ Region.ready .any ops listed := by
        refine (hready _).2 ⟨⟨r0, h0, rfl⟩, fun j hj => ?_⟩
        have hjl := haf r0 h0 j hj
        have hjs : j < ops.size := Nat.lt_trans hjl (hlt r0 h0)
        cases hv : listed.getD j true with
        | false =>
          exfalso
          obtain ⟨r, hr, he⟩ := (hl j hjs).1 hv
          rw [hrs] at hr hsort
          rcases List.mem_cons.1 hr with rfl | hr
          · omega
          · have := (List.pairwise_cons.1 hsort).1 r hr
            omega
        | true =>
          have : j < listed.size := by omega
          simpa [Array.getD, this] using hv
      have hpos : 0 < (Region.ready .any ops listed).length := List.length_pos_of_mem hmem0
      have hmod := Nat.mod_lt t hpos
      rw [List.getElem?_eq_getElem hmod]
      generalize hi : (Region.ready .any ops listed)[t % (Region.ready .any ops listed).length] = i
      have hir : i ∈ Region.ready .any ops listed := by rw [← hi]; exact List.getElem_mem hmod
      obtain ⟨⟨r, hr, rfl⟩, hbef⟩ := (hready i).1 hir
      obtain ⟨pre, post, hsplit⟩ := List.append_of_mem hr
      simp only
      rw [linearise_go_acc]
      have hpre : ∀ p ∈ pre, indep p r ∧ labApart p r := by
        intro p hp
        rw [hsplit] at hpw
        rcases (List.pairwise_append.1 hpw).2.2 p hp r List.mem_cons_self with h | h
        · exfalso
          have := h.listed hcl hbef
          have hp' : p ∈ rs := by rw [hsplit]; exact List.mem_append.2 (.inl hp)
          have h2 := (hl _ (hlt p hp')).2 ⟨p, hp', rfl⟩
          have h3 : p.idx < listed.size := by have := hlt p hp'; omega
          simp [Array.getD, h3] at this h2
          rw [h2] at this; cases this
        · exact h
      have hfront := h_front hF hpre (hsplit ▸ hq)
      have hsub : (pre ++ post).Sublist rs := by rw [hsplit]; exact List.Sublist.append (List.Sublist.refl _) (List.sublist_cons_self _ _)
      have hlen : (pre ++ post).length + 1 = rs.length := by rw [hsplit]; simp; omega
      have hnotin : ∀ q ∈ pre ++ post, q.idx ≠ r.idx := by
        intro q hq he
        rw [hsplit] at hsort
        obtain ⟨_, s2, s3⟩ := List.pairwise_append.1 hsort
        rcases List.mem_append.1 hq with h | h
        · have := s3 q h r List.mem_cons_self; omega
        · have := (List.pairwise_cons.1 s2).1 q h; omega
      have hcl' : ClosedL ops (listed.setIfInBounds r.idx true) := by
        have up : ∀ j, listed.getD j false = true → (listed.setIfInBounds r.idx true).getD j false = true := by
          intro j hj
          by_cases hjr : j = r.idx
          · subst hjr
            have : r.idx < listed.size := by have := hlt r hr; omega
            simp [Array.getD, this]
          · rw [getD_set_ne false (fun h => hjr h.symm)]; exact hj
        intro i hi j hj
        by_cases hir : i = r.idx
        · subst hir; exact up _ (hbef j hj)
        · rw [getD_set_ne false (fun h => hir h.symm)] at hi
          exact up _ (hcl i hi j hj)
      obtain ⟨rs', k1, k2, k3⟩ := lin_okH fuel (t / (Region.ready .any ops listed).length) (listed.setIfInBounds r.idx true) (pre ++ post) (a.put r.dst r.r) (stepH r H) (fun_step hF hfront.1.2.2) hcl' (by omega) (by simpa using hsz) (fun j hj => by
        by_cases hjr : j = r.idx
        · subst hjr
          have : r.idx < listed.size := by omega
          simp only [Array.getD, Array.size_setIfInBounds, this, dif_pos]
          simp only [Array.getInternal_eq_getElem, Array.getElem_setIfInBounds_self, Bool.true_eq_false, false_iff, not_exists, not_and]
          exact fun q hq => hnotin q hq
        · rw [getD_set_ne true (fun h => hjr h.symm), hl j hj]
          constructor
          · rintro ⟨q, hq, rfl⟩
            rw [hsplit] at hq
            refine ⟨q, ?_, rfl⟩
            rcases List.mem_append.1 hq with h | h
            · exact List.mem_append.2 (.inl h)
            · rcases List.mem_cons.1 h with rfl | h
              · exact absurd rfl hjr
              · exact List.mem_append.2 (.inr h)
          · rintro ⟨q, hq, rfl⟩
            exact ⟨q, hsub.subset hq, rfl⟩) (fun q hq => hlt q (hsub.subset hq)) (hsort.sublist hsub) (hpw.sublist hsub) (fun q hq => haf q (hsub.subset hq)) hfront.2
      exact ⟨r :: rs', by rw [List.map_cons, k1]; rfl, by rw [hsplit]; exact (List.Perm.cons r k2).trans List.perm_middle.symm, hfront.1, k3⟩

theorem h_chain : ∀ {rs : List Rec} {a a' : AAct} {H H' : AHeap}, hchain rs a H a' H' → ∃ a'' H'', chain rs a H a'' H'' ∧ (∀ x, x ∈ H' ↔ x ∈ H'') ∧ a''.n = a'.n ∧ ∀ t, lk a'.l t = lk a''.l t
  | [], a, a', H, H', h => ⟨a, H, ⟨rfl, rfl⟩, h.2, h.1.1.symm, h.1.2⟩
  | r :: rs, a, a', H, H', h => by
    obtain ⟨a'', H'', k1, k2, k3, k4⟩ := h_chain h.2
    exact ⟨a'', H'', ⟨⟨h.1.1.1, h.1.2.1, h.1.1.2⟩, k1⟩, k2, k3, k4⟩
theorem fresh_of {n : Nat} : ∀ {rs : List Rec} {L : List Nat}, (∀ r ∈ rs, ∀ l ∈ newLab r, n ≤ l ∧ l ∉ L) → rs.Pairwise (fun p r => ∀ l ∈ newLab p, l ∉ newLab r) → freshL n L rs
  | [], _, _, _ => trivial
  | r :: rs, L, h1, h2 => by
    obtain ⟨p1, p2⟩ := List.pairwise_cons.1 h2
    refine ⟨h1 r List.mem_cons_self, fresh_of (fun q hq l hl => ⟨(h1 q (List.mem_cons_of_mem _ hq) l hl).1, fun hx => ?_⟩) p2⟩
    rcases List.mem_append.1 hx with hx | hx
    · exact p1 q hq l hx hl
    · exact (h1 q (List.mem_cons_of_mem _ hq) l hl).2 hx
end Go.Proofs.Abs
end
section
/- A region is walked operation by operation, whether its order is drawn or not. -/
namespace Go.Proofs.Abs
open Go

/-- the labels that an operation touches; does it only read? -/
structure Tk where
  lab : List Nat
  quiet : Bool
def TkR (t : Tk) (r : Rec) : Prop := (∀ x ∈ r.lab, x ∈ t.lab) ∧ (t.quiet = true → r.hin = r.hout)
inductive TkL : List Tk → List Rec → Prop
  | nil : TkL [] []
  | cons {t r T rs} : TkR t r → TkL T rs → TkL (t :: T) (r :: rs)

def URec (P : Program) (aops : List AOper) (r : Rec) : Prop := RecOK P aops r ∧ ∃ ao, aops[r.idx]? = some ao ∧ ao.dst = r.dst ∧ ∀ t x, lk r.args t = some x → t ∈ usesO ao

structure UOut where
  l : List (Nat × AV)
  H : AHeap
  c : Nat
def UOK (P : Program) (aops : List AOper) (N k m : Nat) (c : Nat) (l : List (Nat × AV)) (H : AHeap) (T : List Tk) (o : UOut) : Prop :=
  ∃ rs : List Rec, rs.map (·.idx) = List.range' k m ∧ (∀ r ∈ rs, URec P aops r) ∧ hchain rs ⟨N, l⟩ H ⟨N, o.l⟩ o.H ∧ TkL T rs ∧ c ≤ o.c ∧ (∀ r ∈ rs, ∀ x ∈ newLab r, c ≤ x ∧ x < o.c) ∧ rs.Pairwise fun p r => ∀ x ∈ newLab p, x ∉ newLab r

/-- a region from its operation k on: os is left -/
def RegU (P : Program) (aops : List AOper) (N k : Nat) (os : List AOper) (c : Nat) (l : List (Nat × AV)) (H : AHeap) (T : List Tk) (Q : AAct → AHeap → Nat → Prop) : Prop :=
  aops.drop k = os → ∃ o : UOut, UOK P aops N k os.length c l H T o ∧ Q ⟨N, o.l⟩ o.H o.c

section
variable {P : Program} {aops os : List AOper} {N k c : Nat} {l : List (Nat × AV)} {H : AHeap} {T : List Tk} {Q : AAct → AHeap → Nat → Prop}

theorem RegU.nil (h : Q ⟨N, l⟩ H c) : RegU P aops N k [] c l H [] Q :=
  fun _ => ⟨⟨l, H, c⟩, ⟨[], rfl, fun r hr => (by cases hr), ⟨⟨rfl, fun _ => rfl⟩, fun _ => Iff.rfl⟩, .nil, Nat.le_refl _, fun r hr => (by cases hr), .nil⟩, h⟩

theorem UOK.cons {m : Nat} {d : Option Nat} {args : List (Nat × AV)} {hin hout : AHeap} {r : AV} {o : UOut} {ao : AOper} (hget : aops[k]? = some ao) (hdst : ao.dst = d) (huse : ∀ t x, lk args t = some x → t ∈ usesO ao)
    (hargs : ∀ t x, lk args t = some x → lk l t = some x) (hd : dstOK d N = true) (hn : newOK c hin hout = true) (hok : RecOK P aops ⟨k, d, args, hin, hout, r⟩) (hsub : ∀ x ∈ hin, x ∈ H) (hF : nodupH hout = true) {q : Bool} (hq : q = true → hin = hout)
    (h : UOK P aops N (k + 1) m (topK c hout) (putL d r l) (appK hout (restK hin hout H)) T o) : UOK P aops N k (m + 1) c l H (⟨hin.keys ++ hout.keys, q⟩ :: T) o := by
  obtain ⟨rs, r1, r2, r3, r4, r5, r6, r7⟩ := h
  obtain ⟨t1, t2⟩ := topK_le (c := c) (H := hout)
  have hnew : ∀ x ∈ newLab ⟨k, d, args, hin, hout, r⟩, c ≤ x ∧ x < topK c hout := by
    intro x hx
    obtain ⟨h1, h2⟩ := mem_newLab.1 hx
    refine ⟨?_, t2 x h1⟩
    rcases newOK_iff hn x h1 with h | h
    · exact h
    · exact absurd h h2
  have e1 : (AAct.put ⟨N, l⟩ d r) = ⟨N, putL d r l⟩ := by cases d <;> rfl
  have e2 : stepH ⟨k, d, args, hin, hout, r⟩ H = appK hout (restK hin hout H) := by rw [appK_eq, restK_eq]; rfl
  refine ⟨⟨k, d, args, hin, hout, r⟩ :: rs, by simp [r1, List.range'], fun x hx => ?_, ⟨⟨⟨hargs, fun t ht => ?_⟩, hsub, nodupH_fun hF⟩, by rw [e1, e2]; exact r3⟩, .cons ⟨fun x hx => hx, hq⟩ r4, by omega, fun x hx y hy => ?_, ?_⟩
  · rcases List.mem_cons.1 hx with rfl | hx
    · exact ⟨hok, ao, hget, hdst, huse⟩
    · exact r2 x hx
  · dsimp only at ht
    subst ht
    exact Nat.le_of_ble_eq_true hd
  · rcases List.mem_cons.1 hx with rfl | hx
    · have := hnew y hy; omega
    · have := r6 x hx y hy; omega
  · refine List.pairwise_cons.2 ⟨fun x hx y hy hy' => ?_, r7⟩
    have := (hnew y hy).2
    have := (r6 x hx y hy').1
    omega

/-- one operation -/
theorem RegU.op {d : Option Nat} {op : AOp} {g : Option (Nat × Bool)} {af : List Nat} {v v' : AV} {hin hout H' : AHeap} {c' : Nat} {q : Bool} (hg : gOn g (pickL l (usesO ⟨d, op, g, af⟩)) = some true)
    (ht : AOpT P op (pickL l (usesO ⟨d, op, g, af⟩)) hin v hout) (hd : dstOK d N = true) (hsub : ∀ x ∈ hin, x ∈ H) (hn : newOK c hin hout = true) (hF : nodupH hout = true) (hq : q = true → hin = hout) (hv : v = v')
    (hH : appK hout (restK hin hout H) = H') (hc : topK c hout = c') (h : RegU P aops N (k + 1) os c' (putL d v' l) H' T Q) : RegU P aops N k (⟨d, op, g, af⟩ :: os) c l H (⟨hin.keys ++ hout.keys, q⟩ :: T) Q := by
  intro hdrop
  subst hv hH hc
  have hget : aops[k]? = some ⟨d, op, g, af⟩ := by
    have := List.getElem?_drop (xs := aops) (i := k) (j := 0)
    rw [hdrop] at this
    simpa using this.symm
  obtain ⟨o, h1, h2⟩ := h (by rw [← List.drop_drop, hdrop]; rfl)
  exact ⟨o, UOK.cons hget rfl (fun t x hx => (pickL_some hx).2) (fun t x hx => (pickL_some hx).1) hd hn ⟨_, hget, rfl, .inl ⟨hg, ht⟩⟩ hsub hF hq h1, h2⟩
/-- one that is not wanted -/
theorem RegU.no {d : Option Nat} {op : AOp} {g : Option (Nat × Bool)} {af : List Nat} (hg : gOn g (pickL l (usesO ⟨d, op, g, af⟩)) = some false) (hd : dstOK d N = true)
    (h : RegU P aops N (k + 1) os c (putL d (.tup []) l) H T Q) : RegU P aops N k (⟨d, op, g, af⟩ :: os) c l H (⟨[], true⟩ :: T) Q := by
  intro hdrop
  have hget : aops[k]? = some ⟨d, op, g, af⟩ := by
    have := List.getElem?_drop (xs := aops) (i := k) (j := 0)
    rw [hdrop] at this
    simpa using this.symm
  obtain ⟨o, h1, h2⟩ := h (by rw [← List.drop_drop, hdrop]; rfl)
  have e : appK ([] : AHeap) (restK [] [] H) = H := by
    rw [appK_eq, restK_eq]
    simp [restH, AHeap.keys]
  refine ⟨o, UOK.cons (hin := []) (hout := []) (r := .tup []) hget rfl (fun t x hx => (pickL_some hx).2) (fun t x hx => (pickL_some hx).1) hd rfl ⟨_, hget, rfl, .inr ⟨hg, rfl, rfl, rfl⟩⟩ (fun x hx => by cases hx) rfl (fun _ => rfl) ?_, h2⟩
  rw [e]
  exact h1

variable {op : AOp} {g : Option (Nat × Bool)} {af : List Nat} {t : Nat}
theorem restK_nil (H : AHeap) : appK ([] : AHeap) (restK [] [] H) = H := by
  rw [appK_eq, restK_eq]
  simp [restH, AHeap.keys]
/-- it only computes -/
theorem RegU.p1 {v v' : AV} {s : Prop} (hg : gOn g (pickL l (usesO ⟨some t, op, g, af⟩)) = some true) (h : evOp false 0 (evA (pickL l (usesO ⟨some t, op, g, af⟩))) H op = some ⟨v, [], [], s⟩) (hs : s) (hd : Nat.blt t N = true) (hv : v = v')
    (hn : RegU P aops N (k + 1) os c ((t, v') :: l) H T Q) : RegU P aops N k (⟨some t, op, g, af⟩ :: os) c l H (⟨[], true⟩ :: T) Q :=
  RegU.op (hin := []) (hout := []) hg (evOp_ok h hs) hd (fun x hx => by cases hx) rfl rfl (fun _ => rfl) hv (restK_nil H) rfl hn
theorem RegU.p0 {v : AV} (hg : gOn g (pickL l (usesO ⟨some t, op, g, af⟩)) = some true) (h : evOp false 0 (evA (pickL l (usesO ⟨some t, op, g, af⟩))) H op = some ⟨v, [], [], True⟩) (hd : Nat.blt t N = true)
    (hn : RegU P aops N (k + 1) os c ((t, v) :: l) H T Q) : RegU P aops N k (⟨some t, op, g, af⟩ :: os) c l H (⟨[], true⟩ :: T) Q := RegU.p1 hg h trivial hd rfl hn
/-- it reads an object -/
theorem RegU.ld {v v' : AV} {s : Prop} {x : Nat × AObj} (hg : gOn g (pickL l (usesO ⟨some t, op, g, af⟩)) = some true) (h : evOp false 0 (evA (pickL l (usesO ⟨some t, op, g, af⟩))) H op = some ⟨v, [x], [x], s⟩) (hs : s) (hd : Nat.blt t N = true) (hv : v = v')
    (hH : appK [x] (restK [x] [x] H) = H) (hn : newOK c [x] [x] = true) (hc : topK c [x] = c)
    (hn' : RegU P aops N (k + 1) os c ((t, v') :: l) H T Q) : RegU P aops N k (⟨some t, op, g, af⟩ :: os) c l H (⟨AHeap.keys [x] ++ AHeap.keys [x], true⟩ :: T) Q :=
  RegU.op (hin := [x]) (hout := [x]) hg (evOp_ok h hs) hd (fun y hy => by rw [← hH]; rw [appK_eq]; exact List.mem_append.2 (.inl hy)) hn rfl (fun _ => rfl) hv hH hc hn'
/-- whatever it does -/
theorem RegU.ev {d : Option Nat} {own : Bool} {v v' : AV} {s : Prop} {hin hout H' : AHeap} {c' : Nat} (hg : gOn g (pickL l (usesO ⟨d, op, g, af⟩)) = some true) (h : evOp own c (evA (pickL l (usesO ⟨d, op, g, af⟩))) H op = some ⟨v, hin, hout, s⟩) (hs : s)
    (hd : dstOK d N = true) (hn : newOK c hin hout = true) (hF : nodupH hout = true) (hv : v = v') (hH : appK hout (restK hin hout H) = H') (hc : topK c hout = c')
    (hn' : RegU P aops N (k + 1) os c' (putL d v' l) H' T Q) : RegU P aops N k (⟨d, op, g, af⟩ :: os) c l H (⟨hin.keys ++ hout.keys, false⟩ :: T) Q :=
  RegU.op hg (evOp_ok h hs) hd (evOp_hin h) hn hF (fun h => by cases h) hv hH hc hn'
/-- arguments, one by one -/
inductive SubL : List AV → List AV → Prop
  | nil : SubL [] []
  | cons {x y xs ys} : Sub x y → SubL xs ys → SubL (x :: xs) (y :: ys)
theorem SubL.refl : ∀ l : List AV, SubL l l
  | [] => .nil
  | _ :: r => .cons (.refl _) (SubL.refl r)
theorem SubL.get : ∀ {xs ys : List AV}, SubL xs ys → xs.length = ys.length ∧ ∀ j (h1 : j < xs.length) (h2 : j < ys.length), Sub xs[j] ys[j]
  | _, _, .nil => ⟨rfl, fun j h1 => by simp at h1⟩
  | _, _, .cons h hs => by
    obtain ⟨a, b⟩ := SubL.get hs
    refine ⟨by simp [a], fun j h1 h2 => ?_⟩
    cases j with
    | zero => exact h
    | succ j => exact b j (by simpa using h1) (by simpa using h2)
/-- a call -/
theorem RegU.call {d : Option Nat} {gg : Arg} {as : List Arg} {fv : AV} {vs ws ys : List AV} {f : FuncId} {r r' : AV} {hin hout H' : AHeap} {c' : Nat} {q : Bool} (hcall : ACalls P f ys hin r hout)
    (hg : gOn g (pickL l (usesO ⟨d, .call gg as, g, af⟩)) = some true) (hf : evA (pickL l (usesO ⟨d, .call gg as, g, af⟩)) gg = some fv) (has : allAV (evA (pickL l (usesO ⟨d, .call gg as, g, af⟩))) as = some vs) (hco : callOf fv vs = some (f, ws)) (hsub : SubL ws ys)
    (hr : Sub r r') (hq : q = true → hin = hout) (hd : dstOK d N = true) (hin' : ∀ x ∈ hin, lkH H x.1 = some x.2) (hn : newOK c hin hout = true) (hF : nodupH hout = true) (hH : appK hout (restK hin hout H) = H') (hc : topK c hout = c')
    (hn' : RegU P aops N (k + 1) os c' (putL d r' l) H' T Q) : RegU P aops N k (⟨d, .call gg as, g, af⟩ :: os) c l H (⟨hin.keys ++ hout.keys, q⟩ :: T) Q := by
  have h1 := (hcall.args hsub.get.1 hsub.get.2).res hr
  refine RegU.op hg ?_ hd (fun x hx => lkH_mem (hin' x hx)) hn hF hq rfl hH hc hn'
  unfold callOf at hco
  split at hco <;> cases hco
  · exact AOpT.call hf has h1
  · exact AOpT.callC hf has h1
/-- a call on data alone -/
theorem RegU.call0 {gg : Arg} {as : List Arg} {fv : AV} {vs ws ys : List AV} {f : FuncId} {r : AV} (hcall : ACalls P f ys [] r [])
    (hg : gOn g (pickL l (usesO ⟨some t, .call gg as, g, af⟩)) = some true) (hf : evA (pickL l (usesO ⟨some t, .call gg as, g, af⟩)) gg = some fv) (has : allAV (evA (pickL l (usesO ⟨some t, .call gg as, g, af⟩))) as = some vs) (hco : callOf fv vs = some (f, ws)) (hsub : SubL ws ys)
    (hd : Nat.blt t N = true) (hn' : RegU P aops N (k + 1) os c ((t, r) :: l) H T Q) : RegU P aops N k (⟨some t, .call gg as, g, af⟩ :: os) c l H (⟨[], true⟩ :: T) Q :=
  RegU.call (hin := []) (hout := []) hcall hg hf has hco hsub (.refl _) (fun _ => rfl) hd (fun x hx => by cases hx) rfl rfl (restK_nil H) rfl hn'

/-! ### the region as a whole -/
def disjL (a b : List Nat) : Bool := a.all fun x => !memN x b
def reachB (aops : List AOper) : Nat → Nat → Nat → Bool
  | 0, _, _ => false
  | f + 1, i, j => match aops[i]? with
    | some r => memN j r.after || r.after.any fun q => Nat.blt j q && reachB aops f q j
    | none => false
def indepT : List Tk → List AOper → Bool := fun T aops =>
  (List.range aops.length).all fun i => match aops[i]?, T[i]? with
    | some r, some tr => (r.after.all fun j => Nat.blt j i) && (List.range i).all fun j => match aops[j]?, T[j]? with
      | some p, some tp => memN j r.after || (apartA p r && (disjL tp.lab tr.lab || (tp.quiet && tr.quiet))) || reachB aops 12 i j
      | _, _ => false
    | _, _ => false

inductive ClA (aops : List AOper) : Nat → Nat → Prop
  | one {i j : Nat} {r : AOper} (hr : aops[i]? = some r) (h : j ∈ r.after) : ClA aops i j
  | tr {i q j : Nat} {r : AOper} (hr : aops[i]? = some r) (h : q ∈ r.after) (hq : ClA aops q j) : ClA aops i j
theorem reachB_ok {aops : List AOper} : ∀ {f i j : Nat}, reachB aops f i j = true → ClA aops i j
  | 0, _, _, h => by cases h
  | f + 1, i, j, h => by
    simp only [reachB] at h
    split at h
    · rename_i r hr
      simp only [Bool.or_eq_true, List.any_eq_true, Bool.and_eq_true] at h
      rcases h with h | ⟨q, hq, _, h⟩
      · exact .one hr (memN_iff.1 h)
      · exact .tr hr hq (reachB_ok h)
    · cases h
theorem TkL.len : ∀ {T : List Tk} {rs : List Rec}, TkL T rs → T.length = rs.length
  | _, _, .nil => rfl
  | _, _, .cons _ h => by simp [TkL.len h]
theorem TkL.get : ∀ {T : List Tk} {rs : List Rec}, TkL T rs → ∀ (i : Nat) (t : Tk) (r : Rec), T[i]? = some t → rs[i]? = some r → TkR t r
  | _, _, .nil, i, t, r, h, _ => by simp at h
  | _, _, .cons h hs, i, t, r, h1, h2 => by
    cases i with
    | zero => simp at h1 h2; subst h1 h2; exact h
    | succ i => exact TkL.get hs i t r (by simpa using h1) (by simpa using h2)
end

section
variable {P : Program} {aops : List AOper} {ro : Option Nat} {N m n : Nat} {l : List (Nat × AV)} {H : AHeap} {T : List Tk} {Q : Exit → AAct → AHeap → Nat → Prop}

theorem reg_end {rs' : List Rec} {ops : Array Oper} {o : UOut} {w0 : World} (hm : m ≤ n) (hok : ∀ r ∈ rs', RecOK P (ops.toList.map (compOper P ops)) r) (hch : hchain rs' ⟨N, l⟩ H ⟨N, o.l⟩ o.H) (hno : n ≤ o.c)
    (hnew : ∀ r ∈ rs', ∀ x ∈ newLab r, n ≤ x ∧ x < o.c) (hpw : rs'.Pairwise fun p r => ∀ x ∈ newLab p, x ∉ newLab r) (hQ : Q .normal ⟨N, o.l⟩ o.H o.c) {S : Seal} {i : Emb} {w : World} {ca : Act} (ha : ActRel S i ⟨N, l⟩ ca) (hh : HeapRel S i H w)
    (hd : ∀ l b, i l = some b → l < n) (hw : ∀ {S' i' H' w'}, Tr S i H w S' i' H' w' → Tr S i H w0 S' i' H' w') :
    wpOpsIn (fen ro) 0 P ops (fun ex ca' w' => ∃ a' H' n' S' i', Q ex a' H' n' ∧ ActRel S' i' a' ca' ∧ Marks w0 w' ca.defers ca'.defers ∧ HeapRel S' i' H' w' ∧ (∀ l b, i' l = some b → l < n') ∧
      (∀ l, l < m → i' l = i l) ∧ Tr S i H w0 S' i' H' w') (rs'.map (·.idx)) ca w := by
  obtain ⟨a'', H'', c1, c2, c3, c4⟩ := h_chain hch
  refine recs_ok n rs' _ _ a'' H'' [] hok c1 (fresh_of (fun r hr x hx => ⟨(hnew r hr x hx).1, by simp⟩) hpw) S i w ca ha hh (fun l b hl => .inl (hd l b hl)) ?_
  intro S' i' w' ca' hact hdef hhp hle hdom hag htr
  refine ⟨⟨N, o.l⟩, o.H, o.c, S', i', hQ, ⟨hact.size.trans c3, fun t x hx => hact.get t x ((c4 t).symm.trans hx)⟩, .of_eq hdef, hhp.perm fun x hx => (c2 x).1 hx, fun l b hl => ?_, fun l hl => hag l (by omega),
    hw (htr.perm (fun _ h => h) (fun x hx => (c2 x).1 hx))⟩
  rcases hdom l b hl with h | h | h
  · omega
  · cases h
  · obtain ⟨r, hr, hx⟩ := List.mem_flatMap.1 h
    exact (hnew r hr l hx).2

/-- A REGION -/
theorem AWc.reg {draw : Bool} (hmix : P.follows .mixedOrders = true) (hm : m ≤ n) (hH : nodupH H = true) (h : RegU P aops N 0 aops n l H T (Q .normal)) (hT : draw = true → indepT T aops = true) : AWc P ro m (.region draw aops) ⟨N, l⟩ H n Q := by
  obtain ⟨o, ⟨rs, r1, r2, r3, r4, r5, r6, r7⟩, hQ⟩ := h rfl
  intro cc hcc
  cases cc <;> simp only [compCode] at hcc
  case region id ops dr =>
    injection hcc with h1 h2
    subst h1 h2
    have hlen : (ops.toList.map (compOper P ops)).length = ops.size := by simp
    cases dr with
    | false =>
      intro S i w ca ha hh hd
      refine wpIn_region ?_
      have hsz : ops.size = (ops.toList.map (compOper P ops)).length := by simp
      rw [hsz, List.range_eq_range', ← r1]
      exact reg_end hm (fun r hr => (r2 r hr).1) r3 r5 r6 r7 hQ ha hh hd fun t => t
    | true =>
      have hind := hT rfl
      have hidx : ∀ r ∈ rs, r.idx < ops.size := by
        intro r hr
        have : r.idx ∈ rs.map (·.idx) := List.mem_map.2 ⟨r, hr, rfl⟩
        rw [r1] at this
        simpa [hlen, List.mem_range'_1] using this
      have hmemall : ∀ i, i < ops.size → ∃ r ∈ rs, r.idx = i := by
        intro i hi
        have : i ∈ rs.map (·.idx) := by rw [r1]; simpa [hlen, List.mem_range'_1] using hi
        obtain ⟨r, hr, he⟩ := List.mem_map.1 this
        exact ⟨r, hr, he⟩
      have hsort : rs.Pairwise (fun p r => p.idx < r.idx) := by
        have : (rs.map (·.idx)).Pairwise (· < ·) := by rw [r1]; exact List.pairwise_lt_range'
        exact List.pairwise_map.1 this
      have hrl : rs.length = ops.size := by
        have := congrArg List.length r1
        simpa [hlen] using this
      have hat : ∀ r ∈ rs, rs[r.idx]? = some r := by
        intro r hr
        obtain ⟨j, hj, rfl⟩ := List.getElem_of_mem hr
        have : (rs.map (·.idx))[j]? = some j := by
          rw [r1]
          have : j < ops.size := by omega
          simp [hlen, this]
        simp only [List.getElem?_map, List.getElem?_eq_getElem hj, Option.map_some] at this
        injection this with this
        rw [this]
        exact List.getElem?_eq_getElem hj
      have hcheck : ∀ r ∈ rs, ∀ ar, (ops.toList.map (compOper P ops))[r.idx]? = some ar → (∀ j ∈ ar.after, j < r.idx) ∧ ∀ p ∈ rs, ∀ ap, p.idx < r.idx → (ops.toList.map (compOper P ops))[p.idx]? = some ap → ClA (ops.toList.map (compOper P ops)) r.idx p.idx ∨ (apartA ap ar = true ∧ labApart p r) := by
        intro r hr ar har
        have hi : r.idx < (ops.toList.map (compOper P ops)).length := (List.getElem?_eq_some_iff.1 har).1
        have h0 := List.all_eq_true.1 hind r.idx (List.mem_range.2 hi)
        rw [har] at h0
        have hTi : ∃ tr, T[r.idx]? = some tr := by
          have : r.idx < T.length := by rw [r4.len]; have := hidx r hr; omega
          exact ⟨_, List.getElem?_eq_getElem this⟩
        obtain ⟨tr, htr⟩ := hTi
        rw [htr] at h0
        simp only [Bool.and_eq_true] at h0
        refine ⟨fun j hj => Nat.le_of_ble_eq_true (List.all_eq_true.1 h0.1 j hj), fun p hp ap hlt hap => ?_⟩
        have h3 := List.all_eq_true.1 h0.2 p.idx (List.mem_range.2 hlt)
        rw [hap] at h3
        have hTp : ∃ tp, T[p.idx]? = some tp := by
          have : p.idx < T.length := by rw [r4.len]; have := hidx p hp; omega
          exact ⟨_, List.getElem?_eq_getElem this⟩
        obtain ⟨tp, htp⟩ := hTp
        rw [htp] at h3
        simp only [Bool.or_eq_true, Bool.and_eq_true] at h3
        rcases h3 with (h3 | h3) | h3
        · exact .inl (.one har (memN_iff.1 h3))
        case inr => exact .inl (reachB_ok h3)
        obtain ⟨h4, h5⟩ := h3
        refine .inr ⟨h4, ?_⟩
        obtain ⟨pa, pb⟩ := r4.get p.idx tp p htp (hat p hp)
        obtain ⟨ra, rb⟩ := r4.get r.idx tr r htr (hat r hr)
        rcases h5 with h5 | h5
        · refine .inl fun x hx hx' => ?_
          have := List.all_eq_true.1 h5 x (pa x hx)
          rw [memN_iff.2 (ra x hx')] at this
          cases this
        · exact .inr ⟨pb h5.1, rb h5.2⟩
      have haft : ∀ i r, (ops.toList.map (compOper P ops))[i]? = some r → ∀ j, j ∈ aft ops i ↔ j ∈ r.after := by
        intro i r hr j
        simp only [List.getElem?_map, Option.map_eq_some_iff] at hr
        obtain ⟨o, ho, rfl⟩ := hr
        have ho' : ops[i]? = some o := by simpa using ho
        simp only [aft, ho', compOper, List.mem_eraseDups]
      have hclA : ∀ {i j}, ClA (ops.toList.map (compOper P ops)) i j → Cl ops i j := by
        intro i j h
        induction h with
        | one hr hj => exact .one ((haft _ _ hr _).2 hj)
        | tr hr hq _ ih => exact .tr ((haft _ _ hr _).2 hq) ih
      intro S i w ca ha hh hd
      refine wpIn_region_draw fun t => ?_
      rw [hmix]
      have hsch : Region.schedule true ops t = Region.linearise.go .any ops ops.size t (Array.replicate ops.size false) [] := rfl
      rw [hsch]
      obtain ⟨rs', k1, k2, k3⟩ := lin_okH (ops := ops) ops.size t (Array.replicate ops.size false) rs ⟨N, l⟩ H (nodupH_fun hH) (fun i hi => by simp [Array.getD] at hi) (by omega) (by simp) (fun i hi => by simp [hi]; exact hmemall i hi) hidx hsort (by
        refine List.Pairwise.imp_of_mem ?_ hsort
        intro p r hp hr hlt
        obtain ⟨ap, ap1, ap2, ap3⟩ := (r2 p hp).2
        obtain ⟨ar, ar1, ar2, ar3⟩ := (r2 r hr).2
        rcases (hcheck r hr ar ar1).2 p hp ap hlt ap1 with h | ⟨h, hlab⟩
        · exact .inl (hclA h)
        · right
          have hno : ∀ {ao : AOper} {q : Rec}, (∀ t x, lk q.args t = some x → t ∈ usesO ao) → ∀ t, memN t (usesO ao) = false → lk q.args t = none := by
            intro ao q hq t ht
            cases hx : lk q.args t with
            | none => rfl
            | some x => rw [memN_iff.2 (hq t x hx)] at ht; cases ht
          simp only [apartA, Bool.and_eq_true] at h
          obtain ⟨h1, h2⟩ := h
          refine ⟨⟨fun t ht => ?_, fun t ht => ?_⟩, hlab⟩
          · rw [← ap2] at ht
            rw [ht] at h1
            simp only [Bool.and_eq_true, Bool.not_eq_true'] at h1
            refine ⟨hno ar3 t h1.1, fun hr' => ?_⟩
            rw [← ar2] at hr'
            rw [hr'] at h1
            have := h1.2
            simp at this
          · rw [← ar2] at ht
            rw [ht] at h2
            simp only [Bool.not_eq_true'] at h2
            exact hno ap3 t h2) (fun r hr j hj => by
        obtain ⟨ar, ar1, ar2, ar3⟩ := (r2 r hr).2
        exact (hcheck r hr ar ar1).1 j ((haft _ _ ar1 j).1 hj)) r3
      rw [← k1]
      have hmem : ∀ r ∈ rs', r ∈ rs := fun r hr => k2.mem_iff.1 hr
      refine reg_end (w0 := w) hm (fun r hr => (r2 r (hmem r hr)).1) k3 r5 (fun r hr => r6 r (hmem r hr)) ?_ hQ ha (hh.drawn _) hd fun t => t.drawn
      exact (k2.pairwise_iff (fun {p r} hpr x hx hx' => hpr x hx' hx)).2 r7
  all_goals first | (split at hcc <;> cases hcc) | cases hcc
end
end Go.Proofs.Abs
end
section
/- States are brought to a canonical form: labels renamed, less said, what is nil made to be appended to. -/
namespace Go.Proofs.Abs
open Go

theorem Sub.trans {x y z : AV} (h : Sub x y) (g : Sub y z) : Sub x z := fun S i v hv => g S i v (h S i v hv)
theorem Sub.of_eq {x y : AV} (h : x = y) : Sub x y := h ▸ .refl x
theorem Sub.nil {l z : Nat} : Sub .nils (.ap l z []) := fun _ _ _ h => by cases h; exact .apn
theorem Sub.nilr {l z : Nat} : Sub .nils (.row l z 0) := fun _ _ _ h => by cases h; exact .rown
theorem Sub.tup {xs ys : List AV} (h : SubL xs ys) : Sub (.tup xs) (.tup ys) := fun S i v hv => by
  obtain ⟨h1, h2⟩ := h.get
  cases hv with
  | tup hl hs => exact .tup (h1.symm.trans hl) fun j k1 k2 => h2 j (by omega) k1 _ _ _ (hs j (by omega) k2)
theorem Sub.agg {xs ys : List AV} (h : SubL xs ys) : Sub (.agg xs) (.agg ys) := fun S i v hv => by
  obtain ⟨h1, h2⟩ := h.get
  cases hv with
  | agg hl hs => exact .agg (h1.symm.trans hl) fun j k1 k2 => h2 j (by omega) k1 _ _ _ (hs j (by omega) k2)
/-- a struct of data, its parts one by one -/
theorem Sub.dagg {ds : List D} : Sub (.d (.agg ds)) (.agg (ds.map .d)) := by
  intro S i v hv
  have h := vD hv
  cases h with
  | agg hl hs h =>
    refine .agg (by simpa using hl) fun j k1 k2 => ?_
    rw [List.getElem_map]
    exact .d (h j (by simpa using k1) k2)
theorem toDs_get : ∀ {l : List AV} {ds : List D}, toDs l = some ds → l.length = ds.length ∧ ∀ j (h1 : j < l.length) (h2 : j < ds.length), toD l[j] = some ds[j]
  | [], ds, h => by cases h; exact ⟨rfl, fun j h1 => by simp at h1⟩
  | x :: r, ds, h => by
    simp only [toDs] at h
    split at h <;> cases h
    rename_i a l h1 h2
    obtain ⟨k1, k2⟩ := toDs_get h2
    refine ⟨by simp [k1], fun j g1 g2 => ?_⟩
    cases j with
    | zero => exact h1
    | succ j => exact k2 j (by simpa using g1) (by simpa using g2)
theorem Sub.aggd {xs : List AV} {ds : List D} (h : toDs xs = some ds) : Sub (.agg xs) (.d (.agg ds)) := fun S i v hv => by
  obtain ⟨h1, h2⟩ := toDs_get h
  cases hv with
  | agg hl hs =>
    refine .d (.agg (h1.symm.trans hl) (fun d hd => ?_) fun j k1 k2 => ?_)
    · obtain ⟨j, hj, rfl⟩ := List.getElem_of_mem hd
      exact (toD_ok (h2 j (by omega) hj) (hs j (by omega) (by omega))).2
    · exact (toD_ok (h2 j (by omega) k1) (hs j (by omega) k2)).1

/-- of an object less is said -/
def SubO (p q : AObj) : Prop := (∀ S i w b, ObjRel S i w b p → ObjRel S i w b q) ∧ (p.nil0 → q.nil0)
theorem SubO.refl (p : AObj) : SubO p p := ⟨fun _ _ _ _ h => h, fun h => h⟩
theorem SubO.of_eq {p q : AObj} (h : p = q) : SubO p q := h ▸ .refl p
theorem SubO.cells {xs ys : List AV} (h : SubL xs ys) : SubO (.cells xs) (.cells ys) := by
  obtain ⟨h1, h2⟩ := h.get
  refine ⟨fun S i w b ⟨c, e, hc, hs, hv, hf⟩ => ⟨c, e, hc, hs.trans h1, fun j k1 k2 => h2 j (by omega) k1 _ _ _ (hv j (by omega) k2), hf⟩, fun h => h⟩

def slotsS (l : List (Nat × AV)) (s : Nat → Nat) (k : Nat) : List (Nat × AV) → Prop
  | [] => True
  | (t, v) :: r => (∃ u, lk l t = some u ∧ Sub u (v.ren s)) ∧ AV.ltb k v = true ∧ slotsS l s k r
def objsS (H : AHeap) (s : Nat → Nat) (k : Nat) : AHeap → Prop
  | [] => True
  | (t, o) :: r => (∃ p, lkH H (s t) = some p ∧ SubO p (o.ren s)) ∧ Nat.blt t k = true ∧ AObj.ltb k o = true ∧ objsS H s k r
theorem slotsS_lk {l : List (Nat × AV)} {s : Nat → Nat} {k : Nat} : ∀ {l' : List (Nat × AV)}, slotsS l s k l' → ∀ t x, lk l' t = some x → (∃ u, lk l t = some u ∧ Sub u (x.ren s)) ∧ x.lt k
  | [], _, t, x, h => by cases h
  | (u, v) :: r, h, t, x, hx => by
    simp only [lk] at hx
    cases hb : Nat.beq u t with
    | true =>
      rw [hb] at hx
      cases hx
      cases Nat.eq_of_beq_eq_true hb
      exact ⟨h.1, AV.lt_of h.2.1⟩
    | false =>
      rw [hb] at hx
      exact slotsS_lk h.2.2 t x hx
theorem objsS_mem {H : AHeap} {s : Nat → Nat} {k : Nat} : ∀ {H' : AHeap}, objsS H s k H' → ∀ l o, (l, o) ∈ H' → (∃ p, (s l, p) ∈ H ∧ SubO p (o.ren s)) ∧ l < k ∧ o.lt k
  | [], _, l, o, h => by cases h
  | (u, v) :: r, h, l, o, hx => by
    rcases List.mem_cons.1 hx with hx | hx
    · cases hx
      obtain ⟨⟨p, h1, h2⟩, h3, h4, _⟩ := h
      exact ⟨⟨p, lkH_mem h1, h2⟩, Nat.le_of_ble_eq_true h3, AObj.lt_of h4⟩
    · exact objsS_mem h.2.2.2 l o hx
/-- new labels, of nothing yet -/
def zsH : Nat → List AObj → AHeap
  | _, [] => []
  | n, o :: r => (n, o) :: zsH (n + 1) r
theorem zsH_mem : ∀ {zs : List AObj} {n l : Nat} {o : AObj}, (l, o) ∈ zsH n zs → n ≤ l ∧ o ∈ zs
  | [], _, _, _, h => by cases h
  | x :: r, n, l, o, h => by
    rcases List.mem_cons.1 h with h | h
    · cases h; exact ⟨Nat.le_refl _, List.mem_cons_self⟩
    · obtain ⟨h1, h2⟩ := zsH_mem h
      exact ⟨by omega, List.mem_cons_of_mem _ h2⟩
def nilB : AObj → Bool
  | .tok n => Nat.beq n 0
  | .row [] => true
  | .rowP [] => true
  | _ => false
theorem nilB_ok {o : AObj} (h : nilB o = true) : o.nil0 := by
  unfold nilB at h
  split at h
  · exact Nat.eq_of_beq_eq_true h
  · rfl
  · rfl
  · cases h

/-- the state is this one, and more -/
structure InS (m N k : Nat) (l' : List (Nat × AV)) (H' : AHeap) (a : AAct) (H : AHeap) (n : Nat) : Prop where
  size : a.n = N
  ren : ∃ zs ps, zs.all nilB = true ∧ subOK m k ps H' = true ∧ slotsS a.l (sub1 ps) k l' ∧ objsS (zsH n zs ++ H) (sub1 ps) k H'

section
variable {P : Program} {ro : Option Nat} {a : AAct} {H : AHeap} {n m : Nat} {Q : Exit → AAct → AHeap → Nat → Prop}

theorem AWc.toS {c : ACode} {N k : Nat} {l' : List (Nat × AV)} {H' : AHeap} (hm : m ≤ k) (hin : InS m N k l' H' a H n) (h : AWc P ro m c ⟨N, l'⟩ H' k Q) : AWc P ro m c a H n Q := by
  obtain ⟨hN, zs, ps, hzs, hps, hsl, hob⟩ := hin
  simp only [subOK, Bool.and_eq_true] at hps
  obtain ⟨⟨p1, p2⟩, p3⟩ := hps
  generalize hsdef : sub1 ps = s at *
  have hs : ∀ l, l < m → s l = l := fun l hl => Nat.eq_of_beq_eq_true (allB_of p1 l hl)
  have hs' : ∀ l, l < k → l ∈ H'.keys ∨ s l = l := fun l hl => by
    have := allB_of p2 l hl
    simp only [Bool.or_eq_true] at this
    exact this.imp hasK_iff.1 Nat.eq_of_beq_eq_true
  have hinj : ∀ l l', l ∈ H'.keys → l' ∈ H'.keys → s l = s l' → l = l' := fun l l' hl hl' he => by
    obtain ⟨o, ho⟩ := mem_keys.1 hl
    obtain ⟨o', ho'⟩ := mem_keys.1 hl'
    have := List.all_eq_true.1 (List.all_eq_true.1 p3 _ ho) _ ho'
    simp only [Bool.or_eq_true, Bool.not_eq_true'] at this
    rcases this with h | h
    · rw [he, Nat.beq_refl] at h; cases h
    · exact Nat.eq_of_beq_eq_true h
  intro cc hcc S i w ca hact hh hn
  have hH : ∀ l o, (l, o) ∈ H' → (∃ p, ((s l, p) ∈ H ∨ (n ≤ s l ∧ p.nil0)) ∧ SubO p (o.ren s)) ∧ l < k ∧ o.lt k := fun l o hm => by
    obtain ⟨⟨p, h1, h2⟩, h3⟩ := objsS_mem hob l o hm
    refine ⟨⟨p, ?_, h2⟩, h3⟩
    rcases List.mem_append.1 h1 with h1 | h1
    · obtain ⟨k1, k2⟩ := zsH_mem h1
      exact .inr ⟨k1, nilB_ok (List.all_eq_true.1 hzs _ k2)⟩
    · exact .inl h1
  have hin' : ∀ l o b, (l, o) ∈ H' → i (s l) = some b → ∃ p, (s l, p) ∈ H := fun l o b hm hb => by
    obtain ⟨⟨p, hp | ⟨hp, _⟩, _⟩, _⟩ := hH l o hm
    · exact ⟨p, hp⟩
    · have := hn _ _ hb; omega
  let j : Emb := Emb.cut (fun l => i (s l)) k
  have hj : ∀ l b, j l = some b → l < k ∧ i (s l) = some b := fun l b h => Emb.cut_some h
  have hjl : ∀ l, l < k → j l = i (s l) := fun l h => Emb.cut_of h
  have h1 : ActRel S j ⟨N, l'⟩ ca := ⟨hact.size.trans hN, fun t x hx => by
    obtain ⟨⟨u, hu, hsub⟩, hlt⟩ := slotsS_lk hsl t x hx
    exact ((hsub _ _ _ (hact.get t _ hu)).unren rfl).cut hlt⟩
  have h2 : HeapRel S j H' w := by
    refine ⟨hh.cell, hh.size, fun l o hm => ?_, fun l o l' o' b x y hl hl' => ?_, fun l b hl => hh.dom _ b (hj l b hl).2, hh.gr⟩
    · obtain ⟨⟨p, h0, hsub⟩, hl, ho⟩ := hH l o hm
      rcases h0 with h0 | ⟨h0, hz⟩
      · rcases hh.obj _ _ h0 with ⟨b, hb, hr⟩ | ⟨hn, ho'⟩
        · refine .inl ⟨b, by rw [hjl l hl]; exact hb, ?_⟩
          exact ((hsub.1 _ _ _ _ hr).unren).relabel (K := (· < k)) (fun l hl => Emb.cut_of hl) ho
        · exact .inr ⟨by rw [hjl l hl]; exact hn, AObj.nil0_ren.1 (hsub.2 ho')⟩
      · refine .inr ⟨?_, AObj.nil0_ren.1 (hsub.2 hz)⟩
        rw [hjl l hl]
        cases hi : i (s l) with
        | none => rfl
        | some b => have := hn _ _ hi; omega
    · obtain ⟨k1, e1⟩ := hj l b hl
      obtain ⟨k2, e2⟩ := hj l' b hl'
      obtain ⟨p, hp⟩ := hin' l o b x e1
      obtain ⟨p', hp'⟩ := hin' l' o' b y e2
      exact hinj l l' (mem_keys.2 ⟨o, x⟩) (mem_keys.2 ⟨o', y⟩) (hh.inj _ _ _ _ b hp hp' e1 e2)
  have hblk : ∀ b, blk j H' b → blk i H b := by
    rintro b ⟨l, o, hx, hb⟩
    obtain ⟨p, hp⟩ := hin' l o b hx (hj l b hb).2
    exact ⟨s l, p, hp, (hj l b hb).2⟩
  refine wpIn_mono (h cc hcc S j w ca h1 h2 fun l b hl => (hj l b hl).1) ?_
  rintro ex ca' w' ⟨a'', H'', n'', S'', i'', q, ra, rd, rh, rn, re, rt⟩
  refine ⟨a'', H'', n'', S'', i'', q, ra, rd, rh, rn, fun l hl => ?_, ?_⟩
  · rw [re l hl, hjl l (Nat.lt_of_lt_of_le hl hm), hs l hl]
  · refine ⟨rt.up, rt.grow, fun b hb hx => rt.old b hb fun h => hx (hblk b h), fun a v hv => (rt.newSeal a v hv).imp id (Or.imp (hblk _) id),
      fun l b hb => ?_, fun b hb => (rt.sub b hb).imp (hblk b) id, rt.os, rt.out, rt.tape⟩
    rcases rt.newEmb l b hb with h | h | h
    · obtain ⟨k1, e1⟩ := hj l b h
      rcases hs' l k1 with hk | hk
      · obtain ⟨o, ho⟩ := mem_keys.1 hk
        obtain ⟨p, hp⟩ := hin' l o b ho e1
        exact .inr (.inl ⟨s l, p, hp, e1⟩)
      · rw [hk] at e1; exact .inl e1
    · exact .inr (.inl (hblk b h))
    · exact .inr (.inr h)

/-- A LOOP, every round from a canonical state -/
theorem AWc.loopS {α : Type} {c : ACode} {N : Nat} (k : Nat) (L : α → List (Nat × AV)) (Hc : α → AHeap) (I : α → Prop) (μ : α → Nat) (x₀ : α) (hm : m ≤ k) (h₀ : I x₀) (hin : InS m N k (L x₀) (Hc x₀) a H n)
    (round : ∀ x, I x → AWc P ro m c ⟨N, L x⟩ (Hc x) k (then' (fun a H n => ∃ y, I y ∧ μ y < μ x ∧ InS m N k (L y) (Hc y) a H n) Q)) : AWc P ro m (.loop c) a H n Q := by
  refine AWc.loop (fun x a H n => I x ∧ InS m N k (L x) (Hc x) a H n) μ x₀ ⟨h₀, hin⟩ fun x a H n hI => ?_
  refine (AWc.toS hm hI.2 (round x hI.1)).mono fun ex a H n q => ?_
  cases ex with
  | normal => obtain ⟨y, h1, h2, h3⟩ := q; exact ⟨y, ⟨h1, h3⟩, h2⟩
  | exit j => exact q
  | goto l => exact q
  | ret => exact q
  | panic ch => exact q
  | outgrown => exact q

/-- two statements, a canonical state between them -/
theorem AWc.seqS {α : Type} {x y : ACode} {N : Nat} (k : Nat) (L : α → List (Nat × AV)) (Hc : α → AHeap) (I : α → Prop) (hm : m ≤ k)
    (hx : AWc P ro m x a H n (then' (fun a H n => ∃ y, I y ∧ InS m N k (L y) (Hc y) a H n) Q)) (hy : ∀ z, I z → AWc P ro m y ⟨N, L z⟩ (Hc z) k Q) : AWc P ro m (.seq x y) a H n Q :=
  AWc.seq (hx.mono fun ex a H n q => by
    cases ex with
    | normal => obtain ⟨z, h1, h2⟩ := q; exact AWc.toS hm h2 (hy z h1)
    | exit j => exact q
    | goto l => exact q
    | ret => exact q
    | panic ch => exact q
    | outgrown => exact q)

/-! ### a function, by its body -/
def bodyOK (n K N : Nat) (args : List AV) (H : AHeap) (r : AV) (H' : AHeap) : Bool :=
  AV.ltbL n args && (H.all fun x => Nat.blt x.1 n && AObj.ltb n x.2) && AV.ltb K r && (H'.all fun x => Nat.blt x.1 K && AObj.ltb K x.2 && (Nat.blt x.1 n || !hasK x.1 H)) &&
  allB (fun l => Nat.blt l n || (hasK l H' && !hasK l H)) K && Nat.ble args.length N
theorem acalls_gen {k : FuncId} {F : AFunc} (hF : HasF P k F) {args : List AV} {H H' : AHeap} {r : AV} (n K : Nat) (hchk : bodyOK n K F.n args H r H' = true)
    (hb : AWc P none n F.body ⟨F.n, startL 0 args⟩ H n (DoneS F.res r H')) : ACalls P k args H r H' := by
  simp only [bodyOK, Bool.and_eq_true] at hchk
  obtain ⟨⟨⟨⟨⟨h1, h2⟩, h3⟩, h4⟩, h5⟩, h6⟩ := hchk
  have hK : ∀ l, l < K → l < n ∨ l ∈ H'.keys ∧ l ∉ H.keys := fun l hl => by
    have := allB_of h5 l hl
    simp only [Bool.or_eq_true, Bool.and_eq_true, Bool.not_eq_true'] at this
    refine this.imp Nat.le_of_ble_eq_true fun ⟨k1, k2⟩ => ⟨hasK_iff.1 k1, fun hx => ?_⟩
    rw [hasK_iff.2 hx] at k2; cases k2
  have up : ∀ {x : AV}, x.lt K → x.lb fun l => l < n ∨ l ∈ H'.keys ∧ l ∉ H.keys := by
    intro x hx
    induction hx with
    | d => exact .d
    | cp => exact .cp
    | ptr h => exact .ptr (hK _ h)
    | sl h => exact .sl (hK _ h)
    | ap h => exact .ap (hK _ h)
    | win => exact .win
    | nils => exact .nils
    | agg _ ih => exact .agg ih
    | tup _ ih => exact .tup ih
    | fn _ ih => exact .fn ih
    | mp h => exact .mp (hK _ h)
    | lf h => exact .lf (hK _ h)
    | dn => exact .dn
    | row h => exact .row (hK _ h)
    | apo h => exact .apo (hK _ h)
    | any => exact .any
  have upo : ∀ {o : AObj}, o.lt K → o.lb fun l => l < n ∨ l ∈ H'.keys ∧ l ∉ H.keys := by
    intro o ho
    cases o with
    | cells l => exact fun x hx => up (ho x hx)
    | tok n => exact trivial
    | rowD ds => exact trivial
    | rowP ds => exact trivial
    | row l => exact fun x hx => up (ho x hx)
    | tokv n ds => exact trivial
    | mp es => exact trivial
    | lp N sl ps asg bd st pend => exact fun x hx => up (ho x hx)
  refine acalls_of_bodyS hF n (AV.ltL_of h1) (fun l o hm => ?_) (up (AV.lt_of h3)) (fun l o hm => ?_) (Nat.le_of_ble_eq_true h6) hb
  · have := List.all_eq_true.1 h2 _ hm
    simp only [Bool.and_eq_true] at this
    exact ⟨Nat.le_of_ble_eq_true this.1, AObj.lt_of this.2⟩
  · have := List.all_eq_true.1 h4 _ hm
    simp only [Bool.and_eq_true, Bool.or_eq_true, Bool.not_eq_true'] at this
    refine ⟨this.2.imp Nat.le_of_ble_eq_true fun h hx => ?_, upo (AObj.lt_of this.1.2)⟩
    rw [hasK_iff.2 hx] at h; cases h

/-- a contract, at other labels -/
def useOK (ps : List (Nat × Nat)) (K : Nat) (H : AHeap) (r : AV) (H' : AHeap) : Bool :=
  allB (fun a => allB (fun b => !Nat.beq (sub1 ps a) (sub1 ps b) || Nat.beq a b) K) K && AV.ltb K r && (H.all fun x => Nat.blt x.1 K) && (H'.all fun x => Nat.blt x.1 K && AObj.ltb K x.2)
theorem ACalls.use {f : FuncId} {xs : List AV} {r : AV} {H H' : AHeap} (h : ACalls P f xs H r H') (ps : List (Nat × Nat)) (K : Nat) (hchk : useOK ps K H r H' = true) :
    ACalls P f (AV.renL (sub1 ps) xs) (H.ren (sub1 ps)) (r.ren (sub1 ps)) (H'.ren (sub1 ps)) := by
  simp only [useOK, Bool.and_eq_true] at hchk
  obtain ⟨⟨⟨h1, h2⟩, h3⟩, h4⟩ := hchk
  rw [renL_eq]
  refine h.rename (sub1 ps) K (fun a ha b hb he => ?_) (AV.lt_of h2) (fun l o hm => Nat.le_of_ble_eq_true (List.all_eq_true.1 h3 _ hm)) (fun l o hm => ?_)
  · have := allB_of (allB_of h1 a ha) b hb
    simp only [Bool.or_eq_true, Bool.not_eq_true'] at this
    rcases this with h | h
    · rw [he, Nat.beq_refl] at h; cases h
    · exact Nat.eq_of_beq_eq_true h
  · have := List.all_eq_true.1 h4 _ hm
    simp only [Bool.and_eq_true] at this
    exact ⟨Nat.le_of_ble_eq_true this.1, AObj.lt_of this.2⟩

theorem doneS {a : AAct} {H : AHeap} {n : Nat} {rs : List ARes} {r : AV} {H' : AHeap} {xs : List AV} {s : Prop} {e : Exit} (he : e = .normal ∨ e = .ret) (h : resAll a.l H rs = some (xs, s)) (hs : s) (hsub : Sub (resV xs) r)
    (hH : ∀ x ∈ H', lkH H x.1 = some x.2) : DoneS rs r H' e a H n := ⟨he, xs, s, h, hs, hsub, fun x hx => lkH_mem (hH x hx)⟩
end
end Go.Proofs.Abs
end
section
/- The generator's rules: operations with typed data. -/
namespace Go.Proofs.Abs
open Go
set_option linter.unusedVariables false

/-! ### pure words -/
def rd {α : Type} [Inhabited α] (xs : List α) (i : Int) : α := xs.getD i.toNat default
def gd {α : Type} (p : Prop) [Decidable p] (x : Option α) : Option α := if p then x else none
theorem gd_some {α : Type} {p : Prop} [Decidable p] {x : Option α} {r : α} (h : gd p x = some r) : p ∧ x = some r := by
  unfold gd at h
  split at h
  · exact ⟨by assumption, h⟩
  · cases h
theorem cond_pos {α : Type} {c : Bool} {x y : α} {r : α} (hc : c = true) (h : cond c x y = r) : x = r := by rw [hc] at h; exact h
theorem cond_neg {α : Type} {c : Bool} {x y : α} {r : α} (hc : c = false) (h : cond c x y = r) : y = r := by rw [hc] at h; exact h
theorem bind_some {α β : Type} {o : Option α} {f : α → Option β} {r : β} (h : o.bind f = some r) : ∃ x, o = some x ∧ f x = some r := by
  cases o with
  | none => cases h
  | some x => exact ⟨x, rfl, h⟩
/-- how a loop ends: at one of its ends, or by what the function returns -/
inductive LR (σ ρ : Type) where
  | b (n : Nat) (s : σ)
  | r (x : ρ)

theorem at_map {α : Type} [Inhabited α] {e : α → D} {xs : List α} {i : Int} (hb : 0 ≤ i ∧ i < (xs.length : Int)) : at' (xs.map e) i.toNat = e (rd xs i) := by
  have h : i.toNat < xs.length := by omega
  simp [at', rd, h]
theorem map_app {α β : Type} (f : α → β) (xs ys : List α) : xs.map f ++ ys.map f = (xs ++ ys).map f := List.map_append.symm

/-! ### a region from its operation k on, with what was touched -/
def RegV (P : Program) (aops : List AOper) (draw : Bool) (N k : Nat) (os : List AOper) (c : Nat) (l : List (Nat × AV)) (H : AHeap) (A : List Tk) (Q : AAct → AHeap → Nat → Prop) : Prop :=
  ∃ T, RegU P aops N k os c l H T Q ∧ (draw = true → indepT (A.reverse ++ T) aops = true)

section
variable {P : Program} {aops os : List AOper} {draw : Bool} {N k c : Nat} {l : List (Nat × AV)} {H : AHeap} {A : List Tk} {Q : AAct → AHeap → Nat → Prop}
variable {op : AOp} {g : Option (Nat × Bool)} {af : List Nat} {t : Nat}

theorem AWc.rg {ro : Option Nat} {m n : Nat} {Q : Exit → AAct → AHeap → Nat → Prop} (hmix : P.follows .mixedOrders = true) (hm : Nat.ble m n = true) (hH : nodupH H = true) (h : RegV P aops draw N 0 aops n l H [] (Q .normal)) :
    AWc P ro m (.region draw aops) ⟨N, l⟩ H n Q := by
  obtain ⟨T, h1, h2⟩ := h
  exact AWc.reg hmix (Nat.le_of_ble_eq_true hm) hH h1 h2
theorem RegV.nil0 (h : Q ⟨N, l⟩ H c) : RegV P aops false N k [] c l H A Q := ⟨[], RegU.nil h, fun h => by cases h⟩
theorem RegV.nil1 (hT : indepT A.reverse aops = true) (h : Q ⟨N, l⟩ H c) : RegV P aops true N k [] c l H A Q := ⟨[], RegU.nil h, fun _ => by rw [List.append_nil]; exact hT⟩
theorem RegV.up {x : AOper} {t : Tk} {c' : Nat} {l' : List (Nat × AV)} {H' : AHeap} (hs : ∀ T, RegU P aops N (k + 1) os c' l' H' T Q → RegU P aops N k (x :: os) c l H (t :: T) Q) (h : RegV P aops draw N (k + 1) os c' l' H' (t :: A) Q) :
    RegV P aops draw N k (x :: os) c l H A Q := by
  obtain ⟨T, h1, h2⟩ := h
  exact ⟨t :: T, hs T h1, fun hd => by have := h2 hd; rw [List.reverse_cons, List.append_assoc] at this; exact this⟩

abbrev us (l : List (Nat × AV)) (x : AOper) : List (Nat × AV) := pickL l (usesO x)
theorem RegV.p1 {v v' : AV} {s : Prop} (hg : gOn g (us l ⟨some t, op, g, af⟩) = some true) (h : evOp false 0 (evA (us l ⟨some t, op, g, af⟩)) H op = some ⟨v, [], [], s⟩) (hs : s) (hd : Nat.blt t N = true) (hv : v = v')
    (hn : RegV P aops draw N (k + 1) os c ((t, v') :: l) H (⟨[], true⟩ :: A) Q) : RegV P aops draw N k (⟨some t, op, g, af⟩ :: os) c l H A Q :=
  RegV.up (fun _ => RegU.p1 hg h hs hd hv) hn
theorem RegV.p0 {v : AV} (hg : gOn g (us l ⟨some t, op, g, af⟩) = some true) (h : evOp false 0 (evA (us l ⟨some t, op, g, af⟩)) H op = some ⟨v, [], [], True⟩) (hd : Nat.blt t N = true)
    (hn : RegV P aops draw N (k + 1) os c ((t, v) :: l) H (⟨[], true⟩ :: A) Q) : RegV P aops draw N k (⟨some t, op, g, af⟩ :: os) c l H A Q :=
  RegV.up (fun _ => RegU.p0 hg h hd) hn
theorem RegV.no {d : Option Nat} (hg : gOn g (us l ⟨d, op, g, af⟩) = some false) (hd : dstOK d N = true) (hn : RegV P aops draw N (k + 1) os c (putL d (.tup []) l) H (⟨[], true⟩ :: A) Q) :
    RegV P aops draw N k (⟨d, op, g, af⟩ :: os) c l H A Q := RegV.up (fun _ => RegU.no hg hd) hn
theorem RegV.ld {v v' : AV} {s : Prop} {x : Nat × AObj} (hg : gOn g (us l ⟨some t, op, g, af⟩) = some true) (h : evOp false 0 (evA (us l ⟨some t, op, g, af⟩)) H op = some ⟨v, [x], [x], s⟩) (hs : s) (hd : Nat.blt t N = true) (hv : v = v')
    {H' : AHeap} (hH : appK [x] (restK [x] [x] H) = H') (hn : newOK c [x] [x] = true) (hc : topK c [x] = c)
    (hn' : RegV P aops draw N (k + 1) os c ((t, v') :: l) H' (⟨AHeap.keys [x] ++ AHeap.keys [x], true⟩ :: A) Q) : RegV P aops draw N k (⟨some t, op, g, af⟩ :: os) c l H A Q :=
  RegV.up (fun _ => RegU.op (hin := [x]) (hout := [x]) hg (evOp_ok h hs) hd (evOp_hin h) hn rfl (fun _ => rfl) hv hH hc) hn'
theorem RegV.ev {d : Option Nat} {own : Bool} {v v' : AV} {s : Prop} {hin hout H' : AHeap} {c' : Nat} {l' : List (Nat × AV)} (hg : gOn g (us l ⟨d, op, g, af⟩) = some true) (h : evOp own c (evA (us l ⟨d, op, g, af⟩)) H op = some ⟨v, hin, hout, s⟩) (hs : s)
    (hd : dstOK d N = true) (hn : newOK c hin hout = true) (hF : nodupH hout = true) (hv : v = v') (hl : putL d v' l = l') (hH : appK hout (restK hin hout H) = H') (hc : topK c hout = c')
    (hn' : RegV P aops draw N (k + 1) os c' l' H' (⟨hin.keys ++ hout.keys, false⟩ :: A) Q) : RegV P aops draw N k (⟨d, op, g, af⟩ :: os) c l H A Q :=
  RegV.up (fun _ h' => RegU.ev hg h hs hd hn hF hv hH hc (by rw [hl]; exact h')) hn'
theorem RegV.call {d : Option Nat} {gg : Arg} {as : List Arg} {fv : AV} {vs ws ys : List AV} {f : FuncId} {r r' : AV} {hin hout H' : AHeap} {c' : Nat} {l' : List (Nat × AV)} {q : Bool} (hcall : ACalls P f ys hin r hout)
    (hg : gOn g (us l ⟨d, .call gg as, g, af⟩) = some true) (hf : evA (us l ⟨d, .call gg as, g, af⟩) gg = some fv) (has : allAV (evA (us l ⟨d, .call gg as, g, af⟩)) as = some vs) (hco : callOf fv vs = some (f, ws)) (hsub : SubL ws ys)
    (hr : Sub r r') (hq : q = true → hin = hout) (hd : dstOK d N = true) (hin' : ∀ x ∈ hin, lkH H x.1 = some x.2) (hn : newOK c hin hout = true) (hF : nodupH hout = true) (hl : putL d r' l = l') (hH : appK hout (restK hin hout H) = H') (hc : topK c hout = c')
    (hn' : RegV P aops draw N (k + 1) os c' l' H' (⟨hin.keys ++ hout.keys, q⟩ :: A) Q) : RegV P aops draw N k (⟨d, .call gg as, g, af⟩ :: os) c l H A Q :=
  RegV.up (fun _ h' => RegU.call hcall hg hf has hco hsub hr hq hd hin' hn hF hH hc (by rw [hl]; exact h')) hn'
theorem RegV.call0 {gg : Arg} {as : List Arg} {fv : AV} {vs ws ys : List AV} {f : FuncId} {r : AV} (hcall : ACalls P f ys [] r [])
    (hg : gOn g (us l ⟨some t, .call gg as, g, af⟩) = some true) (hf : evA (us l ⟨some t, .call gg as, g, af⟩) gg = some fv) (has : allAV (evA (us l ⟨some t, .call gg as, g, af⟩)) as = some vs) (hco : callOf fv vs = some (f, ws)) (hsub : SubL ws ys)
    (hd : Nat.blt t N = true) (hn' : RegV P aops draw N (k + 1) os c ((t, r) :: l) H (⟨[], true⟩ :: A) Q) : RegV P aops draw N k (⟨some t, .call gg as, g, af⟩ :: os) c l H A Q :=
  RegV.up (fun _ => RegU.call0 hcall hg hf has hco hsub hd) hn'

/-! ### typed operations -/
variable {α : Type} {e : α → D} {z : Nat}
/-- an element's place, in data -/
theorem RegV.iad [Inhabited α] {x i : Arg} {y : AV} {xs : List α} {kd : IntKind} {n : Int} (hg : gOn g (us l ⟨some t, .iaddr x i z, g, af⟩) = some true) (hx : evA (us l ⟨some t, .iaddr x i z, g, af⟩) x = some y) (hy : toSl y = some (xs.map e))
    (hi : evA (us l ⟨some t, .iaddr x i z, g, af⟩) i = some (.d (.int kd n))) (hz : ∀ a, (e a).cells.length = z) (hb : 0 ≤ n ∧ n < (xs.length : Int)) (hd : Nat.blt t N = true)
    (hn : RegV P aops draw N (k + 1) os c ((t, .cp (e (rd xs n)) 0) :: l) H (⟨[], true⟩ :: A) Q) : RegV P aops draw N k (⟨some t, .iaddr x i z, g, af⟩ :: os) c l H A Q := by
  refine RegV.p1 (v := .cp (at' (xs.map e) n.toNat) 0) (s := 0 ≤ n ∧ n < ((xs.map e).length : Nat) ∧ (at' (xs.map e) n.toNat).cells.length = z) hg ?_ ⟨hb.1, by simpa using hb.2, by rw [at_map hb]; exact hz _⟩ hd (by rw [at_map hb]) hn
  simp only [evOp, hx, hi]
  cases y <;> simp only [toSl, reduceCtorEq] at hy <;> first | (simp only [toSl, hy, Option.bind_some]; rfl) | (cases hy; rfl)
theorem RegV.len {x : Arg} {y : AV} {xs : List α} (hg : gOn g (us l ⟨some t, .len x, g, af⟩) = some true) (hx : evA (us l ⟨some t, .len x, g, af⟩) x = some y) (hy : toSl y = some (xs.map e)) (hd : Nat.blt t N = true)
    (hn : RegV P aops draw N (k + 1) os c ((t, .d (.int .i64 (xs.length : Int))) :: l) H (⟨[], true⟩ :: A) Q) : RegV P aops draw N k (⟨some t, .len x, g, af⟩ :: os) c l H A Q := by
  refine RegV.p1 (v := .d (.int .i64 ((xs.map e).length : Nat))) (s := True) hg ?_ trivial hd (by rw [List.length_map]) hn
  simp only [evOp, hx]
  cases y <;> simp only [toSl, reduceCtorEq] at hy <;> first | (simp only [toSl, hy, Option.bind_some]; rfl) | (cases hy; rfl)

def sl {α : Type} (xs : List α) (lo hi : Int) : List α := (xs.take hi.toNat).drop lo.toNat
/-- a part of data -/
theorem RegV.slc {x : Arg} {la ha mx : Option Arg} {xs : List α} {lo hi hi0 : Int} (hg : gOn g (us l ⟨some t, .slc x la ha mx z, g, af⟩) = some true)
    (h : evOp false 0 (evA (us l ⟨some t, .slc x la ha mx z, g, af⟩)) H (.slc x la ha mx z) = some ⟨.d (.sl (((xs.map e).take hi0.toNat).drop lo.toNat)), [], [], 0 ≤ lo ∧ lo ≤ hi0 ∧ hi0 ≤ ((xs.map e).length : Nat) ∧ ∀ d ∈ xs.map e, d.cells.length = z⟩)
    (hh : hi0 = hi) (hb : 0 ≤ lo ∧ lo ≤ hi ∧ hi ≤ (xs.length : Int)) (hz : ∀ a, (e a).cells.length = z) (hd : Nat.blt t N = true)
    (hn : RegV P aops draw N (k + 1) os c ((t, .d (.sl ((sl xs lo hi).map e))) :: l) H (⟨[], true⟩ :: A) Q) : RegV P aops draw N k (⟨some t, .slc x la ha mx z, g, af⟩ :: os) c l H A Q := by
  subst hh
  refine RegV.p1 hg h ⟨hb.1, hb.2.1, by simpa using hb.2.2, fun d hd => ?_⟩ hd ?_ hn
  · obtain ⟨a, _, rfl⟩ := List.mem_map.1 hd
    exact hz a
  · simp only [sl, List.map_drop, List.map_take]
theorem mapLen {xs : List α} (hz : ∀ a, (e a).cells.length = z) : ∀ d ∈ xs.map e, d.cells.length = z := fun d hd => by
  obtain ⟨a, _, rfl⟩ := List.mem_map.1 hd
  exact hz a
theorem topK_one {o : AObj} : topK c [(c, o)] = c + 1 := by
  have : Nat.blt c c = false := by
    cases h : Nat.blt c c with
    | false => rfl
    | true => have := Nat.le_of_ble_eq_true h; omega
  simp only [topK, this, cond_false]
/-- on a truth there are two ways -/
theorem RegV.split {b : Bool} (ht : b = true → RegV P aops draw N k os c ((t, .d (.bool true)) :: l) H A Q) (hf : b = false → RegV P aops draw N k os c ((t, .d (.bool false)) :: l) H A Q) : RegV P aops draw N k os c ((t, .d (.bool b)) :: l) H A Q := by
  cases b with
  | true => exact ht rfl
  | false => exact hf rfl
/-- bytes as a text -/
theorem map_byteOf (b : List UInt8) : (b.map byteD).map byteOf = b := by
  rw [List.map_map]
  conv => rhs; rw [← List.map_id b]
  apply List.map_congr_left
  intro x _
  simp [byteD, byteOf]
theorem RegV.bs2s {x : Arg} {b : List UInt8} (hg : gOn g (us l ⟨some t, .bs2s x, g, af⟩) = some true) (hx : (evA (us l ⟨some t, .bs2s x, g, af⟩) x).bind toSl = some (b.map byteD)) (hd : Nat.blt t N = true)
    (hn : RegV P aops draw N (k + 1) os c ((t, .d (.str b)) :: l) H (⟨[], true⟩ :: A) Q) : RegV P aops draw N k (⟨some t, .bs2s x, g, af⟩ :: os) c l H A Q := by
  refine RegV.p1 (v := .d (.str ((b.map byteD).map byteOf))) (s := ∀ d ∈ b.map byteD, isByte d) hg ?_ (fun d hd => ?_) hd (by rw [map_byteOf]) hn
  · simp only [evOp, hx]; rfl
  · obtain ⟨a, _, rfl⟩ := List.mem_map.1 hd
    have := a.toNat_lt
    simp only [byteD, isByte]; omega
end

section
variable {P : Program} {ro : Option Nat} {a : AAct} {H : AHeap} {n m : Nat} {Q : Exit → AAct → AHeap → Nat → Prop}
theorem inBlk_eq {id : Nat} (h : Q .normal a H n) : inBlk id Q (.exit id) a H n := by simp only [inBlk, if_true]; exact h
theorem inBlk_ne {id j : Nat} (hne : Nat.beq j id = false) (h : Q (.exit j) a H n) : inBlk id Q (.exit j) a H n := by
  have : j ≠ id := fun h => by rw [h, Nat.beq_refl] at hne; cases hne
  simp only [inBlk, if_neg this]; exact h
end
end Go.Proofs.Abs
end
section
/- Structs held against each other; small words of the generator. -/
namespace Go.Proofs.Abs
open Go
set_option linter.unusedVariables false

/-- two structs, cell by cell, of these kinds -/
def eqDs : List Nat → List D → List D → Option Bool
  | [], [], [] => some true
  | 0 :: ks, .int k a :: xs, .int k' b :: ys => bif decide (k = k') then (eqDs ks xs ys).map (decide (a = b) && ·) else none
  | 1 :: ks, .str a :: xs, .str b :: ys => (eqDs ks xs ys).map (decide (a = b) && ·)
  | 2 :: ks, .bool a :: xs, .bool b :: ys => (eqDs ks xs ys).map ((a == b) && ·)
  | _, _, _ => none

section
variable {P : Program}
theorem ba_beq (a c : List UInt8) : ((⟨a.toArray⟩ : ByteArray) == ⟨c.toArray⟩) = decide (a = c) := by
  show (a.toArray == c.toArray) = _
  rw [Bool.eq_iff_iff]; simp
theorem run_part {t : TypeId} {d : TypeDesc} {cs : Array Value} {off : Nat} {v : Value} {w : World} (hd : P.underlying t = some d) (ha : isAggD d = false) (h : cs[off]? = some v) : (part t cs off).run P w = .ok v w := by
  simp only [part, Sem.run_bind, run_isAgg hd, Result.andThen_ok, ha, h]
  rfl
/-- one field: what its equality comes to -/
theorem plainKinds_cons {f : Field} {r : List Field} {n : Nat} {ks : List Nat} (h : plainKinds P (f :: r) n = some ks) : f.offset = n ∧ f.name ≠ "_" ∧ ∃ k ks', ks = k :: ks' ∧ plainKinds P r (n + 1) = some ks' ∧
    ∃ d, P.underlying f.type = some d ∧ isAggD d = false ∧ ((k = 0 ∧ ∃ kd, d = .int kd) ∨ (k = 1 ∧ d = .string) ∨ (k = 2 ∧ d = .bool)) := by
  simp only [plainKinds] at h
  split at h
  · rename_i hc
    simp only [Bool.and_eq_true, beq_iff_eq, bne_iff_ne] at hc
    refine ⟨hc.1, hc.2, ?_⟩
    split at h <;> cases h
    · rename_i kd l hu hl
      exact ⟨0, l, rfl, hl, _, und_some hu (by simp), rfl, .inl ⟨rfl, kd, rfl⟩⟩
    · rename_i l hu hl
      exact ⟨1, l, rfl, hl, _, und_some hu (by simp), rfl, .inr (.inl ⟨rfl, rfl⟩)⟩
    · rename_i l hu hl
      exact ⟨2, l, rfl, hl, _, und_some hu (by simp), rfl, .inr (.inr ⟨rfl, rfl⟩)⟩
  · cases h
theorem eq_loop {S : Seal} {w : World} {d : Nat} {us vs : List Value} : ∀ (fs : List Field) (n : Nat) (ks : List Nat) (xs ys : List D) (b : Bool), plainKinds P fs n = some ks → eqDs ks xs ys = some b →
    (∀ j (hj : j < xs.length), ∃ u, us[n + j]? = some u ∧ DV S xs[j] u) → (∀ j (hj : j < ys.length), ∃ u, vs[n + j]? = some u ∧ DV S ys[j] u) →
    (forIn fs ((none, ()) : Option Bool × Unit) fun f r => if f.name ≠ "_" then do
      let __do_lift ← part f.type us.toArray f.offset
      let __do_lift_1 ← part f.type vs.toArray f.offset
      let __do_lift_2 ← Op.equalIn (d + 1) f.type __do_lift __do_lift_1
      if (!__do_lift_2) = true then pure (ForInStep.done (some false, ())) else do
        pure PUnit.unit
        pure (ForInStep.yield (none, ())) else do
      pure PUnit.unit
      pure (ForInStep.yield (none, ())) : Sem _).run P w = .ok (bif b then none else some false, ()) w
  | [], n, ks, xs, ys, b, hk, h, _, _ => by
    cases hk
    cases xs <;> cases ys <;> simp [eqDs] at h
    subst h
    rfl
  | f :: r, n, ks, xs, ys, b, hk, h, hx, hy => by
    obtain ⟨h1, h2, k, ks', rfl, hk', dd, hd, ha, hcase⟩ := plainKinds_cons hk
    have main : ∀ (x y : D) (xs' ys' : List D) (b1 b2 : Bool), xs = x :: xs' → ys = y :: ys' → eqDs ks' xs' ys' = some b2 → b = (b1 && b2) → (∀ u v, DV S x u → DV S y v → (Op.equalIn (d + 1) f.type u v).run P w = .ok b1 w) →
        (forIn (f :: r) ((none, ()) : Option Bool × Unit) fun f r => if f.name ≠ "_" then do
      let __do_lift ← part f.type us.toArray f.offset
      let __do_lift_1 ← part f.type vs.toArray f.offset
      let __do_lift_2 ← Op.equalIn (d + 1) f.type __do_lift __do_lift_1
      if (!__do_lift_2) = true then pure (ForInStep.done (some false, ())) else do
        pure PUnit.unit
        pure (ForInStep.yield (none, ())) else do
      pure PUnit.unit
      pure (ForInStep.yield (none, ())) : Sem _).run P w = .ok (bif b then none else some false, ()) w := by
      rintro x y xs' ys' b1 b2 rfl rfl hrec rfl he
      obtain ⟨u, hu, hxu⟩ := hx 0 (by simp)
      obtain ⟨v, hv, hyv⟩ := hy 0 (by simp)
      have p1 := run_part (P := P) (w := w) (cs := us.toArray) (off := f.offset) hd ha (by rw [h1]; simpa using hu)
      have p2 := run_part (P := P) (w := w) (cs := vs.toArray) (off := f.offset) hd ha (by rw [h1]; simpa using hv)
      have he' := he u v hxu hyv
      have ih := eq_loop (d := d) (w := w) r (n + 1) ks' xs' ys' b2 hk' hrec (fun j hj => by
        have := hx (j + 1) (by simpa using hj)
        rw [show n + 1 + j = n + (j + 1) by omega]
        exact this) (fun j hj => by
        have := hy (j + 1) (by simpa using hj)
        rw [show n + 1 + j = n + (j + 1) by omega]
        exact this)
      rw [List.forIn_cons]
      simp only [ne_eq, h2, not_false_eq_true, if_true, Sem.run_bind, p1, p2, he', Result.andThen_ok]
      cases b1 with
      | true =>
        simp only [Bool.not_true, Bool.false_eq_true, if_false, Sem.run_bind, Sem.run_pure, Result.andThen_ok, Bool.true_and]
        exact ih
      | false =>
        simp only [Bool.not_false, if_true, Sem.run_pure, Result.andThen_ok, Bool.false_and]
        rfl
    have eqi : ∀ {u v : Value} {bb : Bool} {dd}, P.underlying f.type = some dd → (∀ (K : TypeDesc → Sem Bool), K dd = pure bb → True) → True := fun _ _ => trivial
    rcases hcase with ⟨rfl, kd, rfl⟩ | ⟨rfl, rfl⟩ | ⟨rfl, rfl⟩
    · obtain ⟨k, a, k', c, xs', ys', rfl, rfl⟩ : ∃ k a k' c xs' ys', xs = D.int k a :: xs' ∧ ys = D.int k' c :: ys' := by
        cases xs with
        | nil => simp [eqDs] at h
        | cons x xs' =>
          cases ys with
          | nil => cases x <;> simp [eqDs] at h
          | cons y ys' => cases x <;> cases y <;> simp only [eqDs, reduceCtorEq] at h <;> exact ⟨_, _, _, _, _, _, rfl, rfl⟩
      · 
        simp only [eqDs] at h
        cases hkk : decide (k = k') <;> rw [hkk] at h <;> simp only [cond_true, cond_false, Option.map_eq_some_iff, reduceCtorEq] at h
        obtain ⟨b2, hb2, rfl⟩ := h
        refine main _ _ _ _ _ b2 rfl rfl hb2 rfl fun u v hu hv => ?_
        cases hu; cases hv
        have hund : (underlying f.type).run P w = .ok (.int kd) w := by simp [underlying, hd]
        rw [Op.equalIn]
        simp only [Sem.run_bind, hund, Result.andThen_ok]
        rw [if_pos (of_decide_eq_true hkk)]
        rw [show decide (a = c) = (a == c) by rw [Bool.eq_iff_iff]; simp]
        rfl
    · obtain ⟨a, c, xs', ys', rfl, rfl⟩ : ∃ a c xs' ys', xs = D.str a :: xs' ∧ ys = D.str c :: ys' := by
        cases xs with
        | nil => simp [eqDs] at h
        | cons x xs' =>
          cases ys with
          | nil => cases x <;> simp [eqDs] at h
          | cons y ys' => cases x <;> cases y <;> simp only [eqDs, reduceCtorEq] at h <;> exact ⟨_, _, _, _, rfl, rfl⟩
      · 
        simp only [eqDs, Option.map_eq_some_iff] at h
        obtain ⟨b2, hb2, rfl⟩ := h
        refine main _ _ _ _ _ b2 rfl rfl hb2 rfl fun u v hu hv => ?_
        cases hu; cases hv
        have hund : (underlying f.type).run P w = .ok .string w := by simp [underlying, hd]
        rw [Op.equalIn]
        simp only [Sem.run_bind, hund, Result.andThen_ok]
        rw [← ba_beq]
        rfl
    · obtain ⟨a, c, xs', ys', rfl, rfl⟩ : ∃ a c xs' ys', xs = D.bool a :: xs' ∧ ys = D.bool c :: ys' := by
        cases xs with
        | nil => simp [eqDs] at h
        | cons x xs' =>
          cases ys with
          | nil => cases x <;> simp [eqDs] at h
          | cons y ys' => cases x <;> cases y <;> simp only [eqDs, reduceCtorEq] at h <;> exact ⟨_, _, _, _, rfl, rfl⟩
      · 
        simp only [eqDs, Option.map_eq_some_iff] at h
        obtain ⟨b2, hb2, rfl⟩ := h
        refine main _ _ _ _ _ b2 rfl rfl hb2 rfl fun u v hu hv => ?_
        cases hu; cases hv
        have hund : (underlying f.type).run P w = .ok .bool w := by simp [underlying, hd]
        rw [Op.equalIn]
        simp only [Sem.run_bind, hund, Result.andThen_ok]
        rfl

theorem compBin_agg {op : BinOp} {t : TypeId} {x y x' y' : Arg} {neg : Bool} {ks : List Nat} (h : compBin P op t x y = .aggeq neg ks x' y') : x' = x ∧ y' = y ∧ (op = .eql ∧ neg = false ∨ op = .neq ∧ neg = true) ∧
    ∃ fs, P.underlying t = some (.struct fs) ∧ plainKinds P fs.toList 0 = some ks ∧ P.eqGuardType P.depth t = false ∧ P.stoodInHeld t = false := by
  unfold compBin at h
  split at h
  case h_8 fs hu =>
    split at h
    · rename_i ks' hks
      split at h
      · rename_i hc
        simp only [Bool.and_eq_true, Bool.not_eq_true'] at hc
        split at h <;> cases h
        · exact ⟨rfl, rfl, .inl ⟨rfl, rfl⟩, fs, und_some hu (by simp), hks, hc.1, hc.2⟩
        · exact ⟨rfl, rfl, .inr ⟨rfl, rfl⟩, fs, und_some hu (by simp), hks, hc.1, hc.2⟩
      · cases h
    · cases h
  all_goals (repeat' (first | cases h | split at h))
theorem compConv_agg {s d : TypeId} {x x' y' : Arg} {neg : Bool} {ks : List Nat} : compConv P s d x = .aggeq neg ks x' y' → False := by
  intro h
  unfold compConv at h
  repeat' (first | cases h | split at h)
theorem compCall_agg {c : Call} {x' y' : Arg} {neg : Bool} {ks : List Nat} : compCall P c = .aggeq neg ks x' y' → False := by
  intro h
  unfold compCall at h
  repeat' (first | cases h | split at h)
  all_goals (simp only [sbK, szK] at h; repeat' (first | cases h | split at h))
theorem compOp_agg {op : Op} {x' y' : Arg} {neg : Bool} {ks : List Nat} (h : compOp P op = .aggeq neg ks x' y') : ∃ bop t x y t', op = .binOp bop t x y t' ∧ argA x = some x' ∧ argA y = some y' ∧ compBin P bop t x' y' = .aggeq neg ks x' y' := by
  cases op with
  | call c => simp only [compOp] at h; exact (compCall_agg h).elim
  | binOp op t x y t' =>
    simp only [compOp] at h
    split at h
    · rename_i a b ha hb
      obtain ⟨rfl, rfl, _⟩ := compBin_agg h
      exact ⟨op, t, x, y, t', rfl, ha, hb, h⟩
    · cases h
  | convert s d x =>
    simp only [compOp] at h
    split at h
    · exact (compConv_agg h).elim
    · cases h
  | makeFunc fn first caps =>
    cases fn with
    | func f =>
      simp only [compOp] at h
      repeat' (first | cases h | split at h)
    | _ => cases h
  | makeMap t r => exfalso; cases r <;> simp [compOp] at h
  | lookup t x i ok =>
    exfalso
    cases ok
    · cases h
    · simp only [compOp] at h
      repeat' (first | cases h | split at h)
  | _ =>
    simp only [compOp, szK, sbK, aggK] at h
    repeat' (first | cases h | split at h)

theorem AOpT.agq {args : List (Nat × AV)} {x y : Arg} {neg : Bool} {ks : List Nat} {xs ys : List D} {b : Bool} (hx : evA args x = some (.d (.agg xs))) (hy : evA args y = some (.d (.agg ys))) (h : eqDs ks xs ys = some b) :
    AOpT P (.aggeq neg ks x y) args [] (.d (.bool (bif neg then !b else b))) [] := by
  refine ⟨fun z hz hb => (by subst hz; cases hb), fun o hao => ?_⟩
  obtain ⟨bop, t, x0, y0, t', hop, ha, hb, hcomp⟩ := compOp_agg hao
  obtain ⟨_, _, hneg, fs, hfs, hks, hg1, hg2⟩ := compBin_agg hcomp
  refine .pure (by simp [hop]) fun S i w ρ hev hh => ⟨.bool (bif neg then !b else b), ?_, .d .bool⟩
  have h1 := vD (argV hev ha hx)
  have h2 := vD (argV hev hb hy)
  obtain ⟨us, hu, hul, _, hus⟩ := dAgg_cells h1
  obtain ⟨vs, hv, hvl, _, hvs⟩ := dAgg_cells h2
  have hq : (Op.equal t (ρ x0) (ρ y0)).run P w = .ok b w := by
    rw [hu, hv]
    have hund : (underlying t).run P w = .ok (.struct fs) w := by simp [underlying, hfs]
    show (Op.equalIn (9998 + 1 + 1) t _ _).run P w = _
    rw [Op.equalIn]
    simp only [Sem.run_bind, hund, Result.andThen_ok]
    have hpr : (program : Sem Program).run P w = .ok P w := rfl
    simp only [hpr, Result.andThen_ok, hg2, Bool.false_eq_true, if_false]
    have := eq_loop (P := P) (S := S) (w := w) (d := 9998) (us := us) (vs := vs) fs.toList 0 ks xs ys b hks h (fun j hj => ⟨us[j], by simp, hus j hj (by omega)⟩) (fun j hj => ⟨vs[j], by simp, hvs j hj (by omega)⟩)
    rw [← Array.forIn_toList]
    simp only [Sem.run_bind]
    rw [this, Result.andThen_ok]
    cases b <;> rfl
  have hg : (eqGuard bop t x0 y0 (ρ x0) (ρ y0)).run P w = .ok () w := by
    rw [hu, hv]
    have hpr : (program : Sem Program).run P w = .ok P w := rfl
    rcases hneg with ⟨rfl, _⟩ | ⟨rfl, _⟩ <;> simp [eqGuard, Sem.run_bind, hpr, hg1]
  rcases hneg with ⟨rfl, rfl⟩ | ⟨rfl, rfl⟩
  · have : (binOp .eql t (ρ x0) (ρ y0)).run P w = .ok (.bool b) w := by
      rw [hu, hv] at hq ⊢
      simp only [binOp, Sem.run_bind, hq, Result.andThen_ok]; rfl
    simp only [execOp, hop, Sem.run_bind, hg, Result.andThen_ok, this]; rfl
  · have : (binOp .neq t (ρ x0) (ρ y0)).run P w = .ok (.bool (!b)) w := by
      rw [hu, hv] at hq ⊢
      simp only [binOp, Sem.run_bind, hq, Result.andThen_ok]; rfl
    simp only [execOp, hop, Sem.run_bind, hg, Result.andThen_ok, this]; rfl
end
end Go.Proofs.Abs
end
section
/- Small words of the generator. -/
namespace Go.Proofs.Abs
open Go
set_option linter.unusedVariables false
theorem rfl_le {a b : Nat} (h : Nat.ble a b = true := by rfl) : a ≤ b := Nat.le_of_ble_eq_true h
abbrev slE {α : Type} (e : α → D) (xs : List α) : D := .sl (xs.map e)
/-- how a loop ends: at its first or second end, or by what the function returns -/
inductive LR2 (σ τ ρ : Type) where
  | b0 (s : σ)
  | b1 (s : τ)
  | r (x : ρ)
def u8 (n : Int) : UInt8 := UInt8.ofNat n.toNat
theorem u8_eq {n : Int} (h : 0 ≤ n ∧ n < 256) : (D.int .u8 n) = .int .u8 ((u8 n).toNat : Nat) := by
  have : ((u8 n).toNat : Int) = n := by
    simp only [u8, UInt8.toNat_ofNat']
    omega
  rw [this]
theorem u8_wrap (n : Int) : 0 ≤ IntKind.u8.wrap n ∧ IntKind.u8.wrap n < 256 := by
  simp only [IntKind.wrap, IntKind.signed, IntKind.bits]
  simp
  omega
theorem u8_bits (op : BinOp) (a b : Int) : 0 ≤ bitsA op .u8 a b ∧ bitsA op .u8 a b < 256 := by
  unfold bitsA
  dsimp only
  split <;> exact u8_wrap _
theorem Sub.u8 {n : Int} (h : 0 ≤ n ∧ n < 256) : Sub (.d (.int .u8 n)) (.d (.int .u8 ((u8 n).toNat : Nat))) := .of_eq (congrArg AV.d (u8_eq h))

/-- A LOOP, by its fuel -/
theorem AWc.loopK {P : Program} {ro : Option Nat} {a : AAct} {H : AHeap} {n m : Nat} {Q : Exit → AAct → AHeap → Nat → Prop} {σ : Type} {c : ACode} {N : Nat} (K : Nat) (L : σ → List (Nat × AV)) (Hc : σ → AHeap) (I : Nat → σ → Prop) (k₀ : Nat) (x₀ : σ) (hm : m ≤ K)
    (h0 : ∀ x, ¬ I 0 x) (h₀ : I k₀ x₀) (hin : InS m N K (L x₀) (Hc x₀) a H n)
    (round : ∀ k x, I (k + 1) x → AWc P ro m c ⟨N, L x⟩ (Hc x) K (then' (fun a H n => ∃ y, I k y ∧ InS m N K (L y) (Hc y) a H n) Q)) : AWc P ro m (.loop c) a H n Q := by
  refine AWc.loopS (α := Nat × σ) K (fun x => L x.2) (fun x => Hc x.2) (fun x => I x.1 x.2) (fun x => x.1) (k₀, x₀) hm h₀ hin ?_
  rintro ⟨k, x⟩ h
  cases k with
  | zero => exact (h0 x h).elim
  | succ k =>
    refine (round k x h).mono fun ex a H n q => ?_
    cases ex with
    | normal => obtain ⟨y, h1, h2⟩ := q; exact ⟨(k, y), h1, Nat.lt_succ_self k, h2⟩
    | exit j => exact q
    | goto l => exact q
    | ret => exact q
    | panic ch => exact q
    | outgrown => exact q
def HasAll (H : AHeap) : AHeap → Prop
  | [] => True
  | (l, o) :: r => lkH H l = some o ∧ HasAll H r
theorem hasNil {H : AHeap} : HasAll H [] := trivial
theorem hasCons {H r : AHeap} {l : Nat} {o : AObj} (h : lkH H l = some o) (hr : HasAll H r) : HasAll H ((l, o) :: r) := ⟨h, hr⟩
theorem HasAll.get {H : AHeap} : ∀ {G : AHeap}, HasAll H G → ∀ x ∈ G, lkH H x.1 = some x.2
  | [], _, x, hx => by cases hx
  | (l, o) :: r, h, x, hx => by
    rcases List.mem_cons.1 hx with rfl | hx
    · exact h.1
    · exact HasAll.get h.2 x hx
theorem doneA {a : AAct} {H : AHeap} {n : Nat} {rs : List ARes} {r : AV} {H' : AHeap} {xs : List AV} {s : Prop} {e : Exit} (he : e = .normal ∨ e = .ret) (h : resAll a.l H rs = some (xs, s)) (hs : s) (hsub : Sub (resV xs) r)
    (hH : HasAll H H') : DoneS rs r H' e a H n := doneS he h hs hsub hH.get

section
variable {P : Program} {aops os : List AOper} {draw : Bool} {N k c : Nat} {l : List (Nat × AV)} {H : AHeap} {A : List Tk} {Q : AAct → AHeap → Nat → Prop}
variable {op : AOp} {g : Option (Nat × Bool)} {af : List Nat} {t : Nat}
theorem RegV.agq {neg : Bool} {ks : List Nat} {x y : Arg} {xs ys : List D} {b v : Bool} (hg : gOn g (us l ⟨some t, .aggeq neg ks x y, g, af⟩) = some true) (hx : evA (us l ⟨some t, .aggeq neg ks x y, g, af⟩) x = some (.d (.agg xs)))
    (hy : evA (us l ⟨some t, .aggeq neg ks x y, g, af⟩) y = some (.d (.agg ys))) (h : eqDs ks xs ys = some b) (hv : (bif neg then !b else b) = v) (hd : Nat.blt t N = true)
    (hn : RegV P aops draw N (k + 1) os c ((t, .d (.bool v)) :: l) H (⟨[], true⟩ :: A) Q) : RegV P aops draw N k (⟨some t, .aggeq neg ks x y, g, af⟩ :: os) c l H A Q := by
  subst hv
  exact RegV.up (fun _ => RegU.op (hin := []) (hout := []) hg (AOpT.agq hx hy h) hd (fun x hx => by cases hx) rfl rfl (fun _ => rfl) rfl (restK_nil H) rfl) hn
theorem RegV.evS {own : Bool} {v v' : AV} {s : Prop} {hin hout H' : AHeap} {c' : Nat} (hg : gOn g (us l ⟨some t, op, g, af⟩) = some true) (h : evOp own c (evA (us l ⟨some t, op, g, af⟩)) H op = some ⟨v, hin, hout, s⟩) (hs : s)
    (hd : Nat.blt t N = true) (hn : newOK c hin hout = true) (hF : nodupH hout = true) (hv : v = v') (hH : appK hout (restK hin hout H) = H') (hc : topK c hout = c')
    (hn' : RegV P aops draw N (k + 1) os c' ((t, v') :: l) H' (⟨hin.keys ++ hout.keys, false⟩ :: A) Q) : RegV P aops draw N k (⟨some t, op, g, af⟩ :: os) c l H A Q := RegV.ev hg h hs hd hn hF hv rfl hH hc hn'
theorem RegV.evN {own : Bool} {v : AV} {s : Prop} {hin hout H' : AHeap} {c' : Nat} (hg : gOn g (us l ⟨none, op, g, af⟩) = some true) (h : evOp own c (evA (us l ⟨none, op, g, af⟩)) H op = some ⟨v, hin, hout, s⟩) (hs : s)
    (hn : newOK c hin hout = true) (hF : nodupH hout = true) (hH : appK hout (restK hin hout H) = H') (hc : topK c hout = c')
    (hn' : RegV P aops draw N (k + 1) os c' l H' (⟨hin.keys ++ hout.keys, false⟩ :: A) Q) : RegV P aops draw N k (⟨none, op, g, af⟩ :: os) c l H A Q := RegV.ev hg h hs rfl hn hF rfl rfl hH hc hn'
theorem RegV.noS (hg : gOn g (us l ⟨some t, op, g, af⟩) = some false) (hd : Nat.blt t N = true) (hn : RegV P aops draw N (k + 1) os c ((t, .tup []) :: l) H (⟨[], true⟩ :: A) Q) :
    RegV P aops draw N k (⟨some t, op, g, af⟩ :: os) c l H A Q := RegV.no hg hd hn
theorem RegV.callS {gg : Arg} {as : List Arg} {fv : AV} {vs ws ys : List AV} {f : FuncId} {r r' : AV} {hin hout H' : AHeap} {c' : Nat} {q : Bool} (hcall : ACalls P f ys hin r hout)
    (hg : gOn g (us l ⟨some t, .call gg as, g, af⟩) = some true) (hf : evA (us l ⟨some t, .call gg as, g, af⟩) gg = some fv) (has : allAV (evA (us l ⟨some t, .call gg as, g, af⟩)) as = some vs) (hco : callOf fv vs = some (f, ws)) (hsub : SubL ws ys)
    (hr : Sub r r') (hq : q = true → hin = hout) (hd : Nat.blt t N = true) (hin' : HasAll H hin) (hn : newOK c hin hout = true) (hF : nodupH hout = true) (hH : appK hout (restK hin hout H) = H') (hc : topK c hout = c')
    (hn' : RegV P aops draw N (k + 1) os c' ((t, r') :: l) H' (⟨hin.keys ++ hout.keys, q⟩ :: A) Q) : RegV P aops draw N k (⟨some t, .call gg as, g, af⟩ :: os) c l H A Q :=
  RegV.call hcall hg hf has hco hsub hr hq hd hin'.get hn hF rfl hH hc hn'
end
end Go.Proofs.Abs
end
section
/- A range over a function: what a round comes to; the statement. -/
namespace Go.Proofs.Abs
open Go
set_option linter.unusedVariables false

/-- whatever is called -/
def ATrip (C : Emb → World → List Value → (Ending → World → Prop) → Prop) (args : List AV) (H : AHeap) (r : AV) (H' : AHeap) : Prop :=
  ∀ S i w (vs : List Value), args.length = vs.length → (∀ j (h1 : j < args.length) (h2 : j < vs.length), V S i args[j] vs[j]) → HeapRel S i H w →
    (∀ l ∈ H'.keys, l ∉ H.keys → i l = none) → C i w vs fun e w' => ∃ v, e = .returned v ∧ Post S i H w r H' v w'

theorem ATrip.rename {C C' : Emb → World → List Value → (Ending → World → Prop) → Prop} (hmono : ∀ {i w vs} {R R' : Ending → World → Prop}, C i w vs R → (∀ e w', R e w' → R' e w') → C i w vs R')
    {xs : List AV} {H H' : AHeap} {r : AV} (h : ATrip C xs H r H') (s : Nat → Nat) (hC : ∀ i w vs R, C (fun l => i (s l)) w vs R → C' i w vs R) (K : Nat) (hinj : ∀ a, a < K → ∀ b, b < K → s a = s b → a = b)
    (hr : r.lt K) (hK : ∀ l o, (l, o) ∈ H → l < K) (hK' : ∀ l o, (l, o) ∈ H' → l < K ∧ o.lt K) : ATrip C' (xs.map (AV.ren s)) (H.ren s) (r.ren s) (H'.ren s) := by
  have kH : ∀ {l}, l ∈ H.keys → l < K := fun hl => by obtain ⟨o, ho⟩ := mem_keys.1 hl; exact hK _ _ ho
  have kH' : ∀ {l}, l ∈ H'.keys → l < K := fun hl => by obtain ⟨o, ho⟩ := mem_keys.1 hl; exact (hK' _ _ ho).1
  refine fun S i w vs hvs hv hh hf => hC _ _ _ _ ?_
  have hnew : ∀ l, l ∈ H'.keys → l ∉ H.keys → s l ∈ (H'.ren s).keys ∧ s l ∉ (H.ren s).keys := by
    intro l h1 h2
    refine ⟨keys_ren.2 ⟨l, h1, rfl⟩, fun hx => ?_⟩
    obtain ⟨k, hk, he⟩ := keys_ren.1 hx
    exact h2 (hinj k (kH hk) l (kH' h1) he ▸ hk)
  have hc := h S (fun l => i (s l)) w vs (by simpa using hvs) (fun j h1 h2 => by
    have := hv j (by simpa using h1) h2
    exact this.unren (by simp)) ?_ (fun l h1 h2 => hf _ (hnew l h1 h2).1 (hnew l h1 h2).2)
  · refine hmono hc fun e w' ⟨v, he, S', i', h1, h2, h3, h4, h5⟩ => ⟨v, he, ?_⟩
    classical
    let j : Emb := fun m => if hx : ∃ l, l ∈ H'.keys ∧ l ∉ H.keys ∧ s l = m then i' (Classical.choose hx) else i m
    have jnew : ∀ l, l ∈ H'.keys → l ∉ H.keys → j (s l) = i' l := by
      intro l k1 k2
      have hx : ∃ l', l' ∈ H'.keys ∧ l' ∉ H.keys ∧ s l' = s l := ⟨l, k1, k2, rfl⟩
      simp only [j]
      rw [dif_pos hx]
      obtain ⟨c1, c2, c3⟩ := Classical.choose_spec hx
      rw [hinj _ (kH' c1) l (kH' k1) c3]
    have jold : ∀ l, l < K → ¬ (l ∈ H'.keys ∧ l ∉ H.keys) → j (s l) = i' l := by
      intro l hl hno
      have hx : ¬ ∃ l', l' ∈ H'.keys ∧ l' ∉ H.keys ∧ s l' = s l := by
        rintro ⟨l', c1, c2, c3⟩
        have := hinj l' (kH' c1) l hl c3
        subst this
        exact hno ⟨c1, c2⟩
      simp only [j]
      rw [dif_neg hx]
      cases hi : i' l with
      | none =>
        cases h0 : i (s l) with
        | none => rfl
        | some b => rw [h3 l b h0] at hi; cases hi
      | some b =>
        rcases h5 l b hi with h | h
        · exact h
        · exact absurd h hno
    have jall : ∀ l, l < K → j (s l) = i' l := fun l hl => by
      by_cases hx : l ∈ H'.keys ∧ l ∉ H.keys
      · exact jnew l hx.1 hx.2
      · exact jold l hl hx
    have jup : i.le j := by
      intro m b hb
      simp only [j]
      split
      · rename_i hx
        obtain ⟨c1, c2, c3⟩ := Classical.choose_spec hx
        have := hf _ (hnew _ c1 c2).1 (hnew _ c1 c2).2
        rw [c3] at this
        rw [this] at hb; cases hb
      · exact hb
    have jinv : ∀ m b, j m = some b → i m = some b ∨ ∃ l, l ∈ H'.keys ∧ l ∉ H.keys ∧ s l = m ∧ i' l = some b := by
      intro m b hb
      simp only [j] at hb
      split at hb
      · rename_i hx
        obtain ⟨c1, c2, c3⟩ := Classical.choose_spec hx
        exact .inr ⟨_, c1, c2, c3, hb⟩
      · exact .inl hb
    have hblk : ∀ b, blk (fun l => i (s l)) H b → blk i (H.ren s) b := fun b ⟨l, o, hm, hb⟩ => ⟨s l, _, mem_ren hm, hb⟩
    refine ⟨S', j, V.ren (h1.relabel (K := (· < K)) (fun l hl => jall l hl) hr), ⟨h2.cell, h2.size, fun l o hm => ?_, fun l o l' o' b x y hl hl' => ?_, fun l b hl => ?_, h2.gr⟩, jup,
      ⟨h4.up, h4.grow, fun b hb hx => h4.old b hb fun h => hx (hblk b h), fun a v hv => (h4.newSeal a v hv).imp id (Or.imp (hblk _) id), fun m b hb => ?_, fun b ⟨l, o, hm, hb⟩ => ?_, h4.os, h4.out, h4.tape⟩, fun m b hb => ?_⟩
    · obtain ⟨k, p, hm', rfl, rfl⟩ := of_mem_ren hm
      obtain ⟨hk, hp⟩ := hK' k p hm'
      rcases h2.obj k p hm' with ⟨b, hb, hro⟩ | ⟨q1, q2⟩
      · refine .inl ⟨b, (jall k hk).trans hb, ObjRel.ren ?_⟩
        exact hro.relabel (K := (· < K)) (fun l hl => jall l hl) hp
      · exact .inr ⟨(jall k hk).trans q1, AObj.nil0_ren.2 q2⟩
    · obtain ⟨k, p, hm, rfl, rfl⟩ := of_mem_ren x
      obtain ⟨k', p', hm', rfl, rfl⟩ := of_mem_ren y
      rw [jall k (hK' k p hm).1] at hl
      rw [jall k' (hK' k' p' hm').1] at hl'
      rw [h2.inj k p k' p' b hm hm' hl hl']
    · rcases jinv l b hl with h | ⟨k, _, _, _, h⟩
      · exact Nat.lt_of_lt_of_le (hh.dom l b h) h4.grow
      · exact h2.dom k b h
    · rcases jinv m b hb with h | ⟨k, c1, c2, c3, h⟩
      · exact .inl h
      · rcases h4.newEmb k b h with h | h | h
        · rw [c3] at h; exact .inl h
        · exact .inr (.inl (hblk b h))
        · exact .inr (.inr h)
    · obtain ⟨k, p, hm', rfl, rfl⟩ := of_mem_ren hm
      rw [jall k (hK' k p hm').1] at hb
      exact (h4.sub b ⟨k, p, hm', hb⟩).imp (hblk b) id
    · rcases jinv m b hb with h | ⟨k, c1, c2, c3, h⟩
      · exact .inl h
      · rw [← c3]
        exact .inr (hnew k c1 c2)
  · refine ⟨hh.cell, hh.size, fun l o hm => ?_, fun l o l' o' b x y hl hl' => ?_, fun l b hl => hh.dom _ b hl, hh.gr⟩
    · rcases hh.obj _ _ (mem_ren hm) with ⟨b, hb, hro⟩ | ⟨q1, q2⟩
      · exact .inl ⟨b, hb, hro.unren⟩
      · exact .inr ⟨q1, AObj.nil0_ren.1 q2⟩
    · exact hinj l (hK l o x) l' (hK l' o' y) (hh.inj _ _ _ _ b (mem_ren x) (mem_ren y) hl hl')

/-! ### a round -/
section
variable (P : Program)
def RoundC (lbl : Nat) (i : Emb) (w : World) (vs : List Value) (R : Ending → World → Prop) : Prop :=
  ∀ b r0, i lbl = some b → w.heap[b]? = some (.loop r0) → vs.length = r0.params.size →
    RoundIn Fence.wide 0 P b r0.fn ((r0.params.zip vs.toArray).foldl (fun tmps (t, a) => tmps.setIfInBounds t a) r0.tmps) r0.assign r0.body w R
/-- a call of yield -/
def ARound (lbl : Nat) (args : List AV) (H : AHeap) (r : AV) (H' : AHeap) : Prop :=
  (∃ N sl ps asg bd pend, (lbl, AObj.lp N sl ps asg bd .ready pend) ∈ H ∧ ps.length = args.length) ∧ ATrip (RoundC P lbl) args H r H'
end
section
variable {P : Program}
theorem RoundC.mono {lbl : Nat} {i w vs} {R R' : Ending → World → Prop} (h : RoundC P lbl i w vs R) (hR : ∀ e w', R e w' → R' e w') : RoundC P lbl i w vs R' :=
  fun b r0 h1 h2 h3 => RoundIn.mono (h b r0 h1 h2 h3) hR
theorem ARound.args {lbl : Nat} {xs ys : List AV} {r : AV} {H H' : AHeap} (h : ARound P lbl ys H r H') (hl : xs.length = ys.length) (hs : ∀ j (h1 : j < xs.length) (h2 : j < ys.length), Sub xs[j] ys[j]) : ARound P lbl xs H r H' := by
  obtain ⟨⟨N, sl, ps, asg, bd, pend, h1, h2⟩, h3⟩ := h
  exact ⟨⟨N, sl, ps, asg, bd, pend, h1, h2.trans hl.symm⟩, fun S i w vs hvs hv hh hf => h3 S i w vs (hl ▸ hvs) (fun j h1 h2 => hs j (by omega) h1 _ _ _ (hv j (by omega) h2)) hh hf⟩
theorem ARound.use {lbl : Nat} {xs : List AV} {r : AV} {H H' : AHeap} (h : ARound P lbl xs H r H') (ps : List (Nat × Nat)) (K : Nat) (hchk : useOK ps K H r H' = true) :
    ARound P (sub1 ps lbl) (AV.renL (sub1 ps) xs) (H.ren (sub1 ps)) (r.ren (sub1 ps)) (H'.ren (sub1 ps)) := by
  simp only [useOK, Bool.and_eq_true] at hchk
  obtain ⟨⟨⟨h1, h2⟩, h3⟩, h4⟩ := hchk
  rw [renL_eq]
  obtain ⟨⟨N, sl, qs, asg, bd, pend, k1, k2⟩, h⟩ := h
  refine ⟨⟨N, _, qs, asg, bd, pend, mem_ren k1, by simpa using k2⟩, ATrip.rename (C := RoundC P lbl) (C' := RoundC P (sub1 ps lbl)) (fun h hR => RoundC.mono h hR) h (sub1 ps) (fun i w vs R h b r0 h1 => h b r0 h1) K (fun a ha b hb he => ?_) (AV.lt_of h2) (fun l o hm => Nat.le_of_ble_eq_true (List.all_eq_true.1 h3 _ hm)) (fun l o hm => ?_)⟩
  · have := allB_of (allB_of h1 a ha) b hb
    simp only [Bool.or_eq_true, Bool.not_eq_true'] at this
    rcases this with h | h
    · rw [he, Nat.beq_refl] at h; cases h
    · exact Nat.eq_of_beq_eq_true h
  · have := List.all_eq_true.1 h4 _ hm
    simp only [Bool.and_eq_true] at this
    exact ⟨Nat.le_of_ble_eq_true this.1, AObj.lt_of this.2⟩

/-- THE CALL OF YIELD -/
theorem AOpT.yield {args : List (Nat × AV)} {H H' : AHeap} {r : AV} {g : Arg} {l : List Arg} {lbl : Nat} {vs : List AV} (hg : evA args g = some (.lf lbl)) (hl : allAV (evA args) l = some vs)
    (h : ARound P lbl vs H r H') : AOpT P (.call g l) args H r H' := by
  refine ⟨fun x hx hb => (by subst hx; cases hb), fun o hao => ?_⟩
  obtain ⟨c, fo, hop, hc, hfo, ha⟩ := compOp_call hao
  refine ⟨by simp [hop], fun S i w ρ hev hh hfr => ?_⟩
  obtain ⟨k1, k2⟩ := all_ok ha hl
  have hv := argV hev hfo hg
  generalize hu : ρ fo = u at hv
  cases hv with
  | lf hi =>
    rename_i b
    obtain ⟨⟨N, sl, ps, asg, bd, pend, m1, m2⟩, h⟩ := h
    rcases hh.obj _ _ m1 with ⟨b', hb', hro⟩ | ⟨_, hz⟩
    · rw [hi] at hb'; cases hb'
      obtain ⟨r0, hr0, q1, q2, q3, q4, q5, q6, q7, q8⟩ := hro
      have hsz : (c.args.map ρ).size = r0.params.size := by
        have : c.args.toList.length = vs.length := k1
        have e : r0.params.size = ps.length := by rw [← q2]; simp
        simp only [Array.size_map]
        simp at this; omega
      have hcall := h S i w ((c.args.map ρ).toList) (by simp [← k1]) (fun j h1 h2 => by
        have := k2 hev j h1 (by omega)
        simpa using this) hh hfr b r0 hi hr0 (by simpa using hsz)
      rw [show (c.args.map ρ).toList.toArray = c.args.map ρ from Array.toArray_toList] at hcall
      have hrun : (execOp ρ o).run P w = .ok (.round b r0.fn ((r0.params.zip (c.args.map ρ)).foldl (fun tmps (t, a) => tmps.setIfInBounds t a) r0.tmps) r0.assign r0.body) w := by
        have hy := run_yield (P := P) hr0 hsz
        unfold execOp
        simp only [hop, resolve, hc, hu, Deferred.ofValue, Sem.run_bind]
        simp only [Sem.run_pure, Result.andThen_ok, invoke, Array.empty_append]
        exact hy
      rw [hrun]
      exact hcall
    · exact hz.elim

/-- the end of a body, as the caller sees it -/
theorem post_end {S S' : Seal} {i i'' : Emb} {H H' H'' : AHeap} {w w' : World} {r : AV} {v : Value} {n : Nat} (hh : HeapRel S i H w) (hnew : ∀ l ∈ H'.keys, l ∉ H.keys → i l = none)
    (hr : r.lb fun l => l < n ∨ l ∈ H'.keys ∧ l ∉ H.keys) (hH' : ∀ l o, (l, o) ∈ H' → (l < n ∨ l ∉ H.keys) ∧ o.lb fun l => l < n ∨ l ∈ H'.keys ∧ l ∉ H.keys)
    (hv2 : V S' i'' r v) (rh : HeapRel S' i'' H'' w') (re : ∀ l, l < n → i'' l = i.cut n l) (rt : Tr S (i.cut n) H w S' i'' H'' w') (hsub : ∀ x ∈ H', x ∈ H'') : Post S i H w r H' v w' := by
  classical
  let j : Emb := fun l => if l ∈ H'.keys ∧ l ∉ H.keys then i'' l else i l
  have hj : ∀ l, (l < n ∨ l ∈ H'.keys ∧ l ∉ H.keys) → j l = i'' l := by
    intro l hl
    simp only [j]
    split
    · rfl
    · rename_i hno
      rcases hl with hl | hl
      · rw [re l hl, Emb.cut_of hl]
      · exact absurd hl hno
  have hjle : i.le j := by
    intro l b hl
    simp only [j]
    split
    · rename_i hy
      rw [hnew l hy.1 hy.2] at hl; cases hl
    · exact hl
  have hk : ∀ l o, (l, o) ∈ H' → j l = i'' l := by
    intro l o hm
    refine hj l ?_
    rcases (hH' l o hm).1 with h | h
    · exact .inl h
    · exact .inr ⟨mem_keys.2 ⟨o, hm⟩, h⟩
  have hblk : ∀ b, blk (i.cut n) H b → blk i H b := fun b ⟨l, o, hx, hb⟩ => ⟨l, o, hx, (Emb.cut_some hb).2⟩
  have hjd : ∀ l b, j l = some b → i l = some b ∨ (l ∈ H'.keys ∧ l ∉ H.keys ∧ i'' l = some b) := by
    intro l b hl
    simp only [j] at hl
    split at hl
    · rename_i hy; exact .inr ⟨hy.1, hy.2, hl⟩
    · exact .inl hl
  refine ⟨S', j, hv2.relabel hj hr, ⟨rh.cell, rh.size, fun l o hm => ?_, fun l o l' o' b x y hl hl' => ?_, fun l b hl => ?_, rh.gr⟩, hjle, ⟨rt.up, rt.grow, fun b hb hx => rt.old b hb fun h => hx (hblk b h),
    fun a v hv => (rt.newSeal a v hv).imp id (Or.imp (hblk _) id), fun l b hb => ?_, fun b ⟨l, o, hm, hb⟩ => ?_, rt.os, rt.out, rt.tape⟩, fun l b hl => (hjd l b hl).imp id fun h => ⟨h.1, h.2.1⟩⟩
  · rw [hk l o hm]
    rcases rh.obj l o (hsub _ hm) with ⟨b, hb, hro⟩ | ⟨h1, h2⟩
    · refine .inl ⟨b, hb, ?_⟩
      exact hro.relabel hj (hH' l _ hm).2
    · exact .inr ⟨h1, h2⟩
  · rw [hk l o x] at hl
    rw [hk l' o' y] at hl'
    exact rh.inj l o l' o' b (hsub _ x) (hsub _ y) hl hl'
  · rcases hjd l b hl with h | ⟨_, _, h⟩
    · exact Nat.lt_of_lt_of_le (hh.dom l b h) rt.grow
    · exact rh.dom l b h
  · rcases hjd l b hb with h | ⟨_, _, h⟩
    · exact .inl h
    · exact (rt.newEmb l b h).imp (fun h => (Emb.cut_some h).2) (Or.imp (hblk b) id)
  · rw [hk l o hm] at hb
    exact (rt.sub b ⟨l, o, hsub _ hm, hb⟩).imp (hblk b) id

/-- one object is another one -/
def setH (l : Nat) (o : AObj) : AHeap → AHeap
  | [] => []
  | (k, p) :: r => bif Nat.beq k l then (k, o) :: setH l o r else (k, p) :: setH l o r
theorem mem_setH {l : Nat} {o : AObj} : ∀ {H : AHeap} {k : Nat} {p : AObj}, (k, p) ∈ setH l o H → (k = l ∧ p = o ∧ ∃ q, (l, q) ∈ H) ∨ (k ≠ l ∧ (k, p) ∈ H)
  | [], k, p, h => by cases h
  | (m, q) :: r, k, p, h => by
    simp only [setH] at h
    cases hb : Nat.beq m l with
    | true =>
      rw [hb] at h
      cases Nat.eq_of_beq_eq_true hb
      rcases List.mem_cons.1 h with h | h
      · cases h; exact .inl ⟨rfl, rfl, q, List.mem_cons_self⟩
      · exact (mem_setH h).imp (fun ⟨a, b, c, d⟩ => ⟨a, b, c, List.mem_cons_of_mem _ d⟩) fun ⟨a, b⟩ => ⟨a, List.mem_cons_of_mem _ b⟩
    | false =>
      rw [hb] at h
      rcases List.mem_cons.1 h with h | h
      · cases h; exact .inr ⟨fun e => (by subst e; rw [Nat.beq_refl] at hb; cases hb), List.mem_cons_self⟩
      · exact (mem_setH h).imp (fun ⟨a, b, c, d⟩ => ⟨a, b, c, List.mem_cons_of_mem _ d⟩) fun ⟨a, b⟩ => ⟨a, List.mem_cons_of_mem _ b⟩

/-- a loop's record is written -/
theorem heap_setLp {S : Seal} {i : Emb} {H : AHeap} {w : World} {lbl b : Nat} {o o' : AObj} {r r' : Loop} (hh : HeapRel S i H w) (hl : (lbl, o) ∈ H) (hi : i lbl = some b) (hb : w.heap[b]? = some (.loop r))
    (ho' : ObjRel S i (w.putObj b (.loop r')) b o') : HeapRel S i (setH lbl o' H) (w.putObj b (.loop r')) := by
  refine ⟨fun a v h => cell_putDef hb (by simp) (hh.cell a v h), fun k n h => ?_, fun l p hm => ?_, fun l p l' p' k x y hl1 hl2 => ?_, fun l k h => (by simpa using hh.dom l k h), hh.gr⟩
  · obtain ⟨c, e, f, hc, hs⟩ := hh.size k n h
    exact ⟨c, e, f, (World.putObj_heap_other (by rintro rfl; rw [hb] at hc; cases hc)).trans hc, hs⟩
  · rcases mem_setH hm with ⟨rfl, rfl, _⟩ | ⟨hne, hm⟩
    · exact .inl ⟨b, hi, ho'⟩
    · rcases hh.obj l p hm with ⟨k, hk, hro⟩ | h
      · refine .inl ⟨k, hk, hro.later (.refl _) (fun _ _ h => h) (World.putObj_heap_other ?_) (fun a v h _ => h)⟩
        rintro rfl
        exact hne (hh.inj _ _ _ _ _ hm hl hk hi)
      · exact .inr h
  · have k1 : ∃ q, (l, q) ∈ H := by
      rcases mem_setH x with ⟨rfl, _, h⟩ | ⟨_, h⟩
      · exact h
      · exact ⟨_, h⟩
    have k2 : ∃ q, (l', q) ∈ H := by
      rcases mem_setH y with ⟨rfl, _, h⟩ | ⟨_, h⟩
      · exact h
      · exact ⟨_, h⟩
    obtain ⟨q, h1⟩ := k1
    obtain ⟨q', h2⟩ := k2
    exact hh.inj _ _ _ _ k h1 h2 hl1 hl2
theorem tr_setLp {S S' : Seal} {i i' : Emb} {H H' : AHeap} {w w' : World} {lbl b : Nat} {o o' : AObj} {ob : Obj} (t : Tr S i H w S' i' H' w') (hl : (lbl, o) ∈ H') (hi : i' lbl = some b) :
    Tr S i H w S' i' (setH lbl o' H') (w'.putObj b ob) := by
  refine ⟨t.up, by simpa using t.grow, fun k hk hx => ?_, t.newSeal, t.newEmb, fun k ⟨l, p, hm, hk⟩ => ?_, t.os, t.out, t.tape⟩
  · refine (World.putObj_heap_other ?_).trans (t.old k hk hx)
    rintro rfl
    rcases t.sub k ⟨lbl, o, hl, hi⟩ with h | h
    · exact hx h
    · omega
  · rcases mem_setH hm with ⟨rfl, _, q, h⟩ | ⟨_, h⟩
    · exact t.sub k ⟨_, q, h, hk⟩
    · exact t.sub k ⟨_, _, h, hk⟩

def putArgs : List Nat → List AV → List (Nat × AV) → List (Nat × AV)
  | p :: ps, a :: as, l => putArgs ps as ((p, a) :: l)
  | _, _, l => l
theorem putArgs_rel {S : Seal} {i : Emb} {N : Nat} {ds : List Deferred} : ∀ {ps : List Nat} {as : List AV} {vs : List Value} {l : List (Nat × AV)} {tm : Array Value}, ActRel S i ⟨N, l⟩ { tmps := tm, defers := ds } → ps.length = as.length → as.length = vs.length →
    (∀ p ∈ ps, p < N) → (∀ j (h1 : j < as.length) (h2 : j < vs.length), V S i as[j] vs[j]) →
    ActRel S i ⟨N, putArgs ps as l⟩ { tmps := (ps.zip vs).foldl (fun tmps (t, a) => tmps.setIfInBounds t a) tm, defers := ds }
  | [], [], [], l, tm, h, _, _, _, _ => h
  | p :: ps, a :: as, v :: vs, l, tm, h, h1, h2, h3, h4 => by
    simp only [putArgs, List.zip_cons_cons, List.foldl_cons]
    have hv := h4 0 (by simp) (by simp)
    have := h.put (dst := some p) hv (fun t ht => by cases ht; exact h3 p List.mem_cons_self)
    exact putArgs_rel this (by simpa using h1) (by simpa using h2) (fun q hq => h3 q (List.mem_cons_of_mem _ hq)) (fun j k1 k2 => h4 (j + 1) (by simpa using k1) (by simpa using k2))

def jumpOf : Exit → Option (Option Code)
  | .normal => some none
  | .ret => some (some .ret)
  | .exit id => some (some (.exit id))
  | _ => none
/-- how a round ends well -/
def RoundS (lbl : Nat) (r : AV) (H' : AHeap) : Exit → AAct → AHeap → Nat → Prop := fun ex a H _ =>
  ∃ jump N sl ps asg bd st pend, jumpOf ex = some jump ∧ lkH H lbl = some (.lp N sl ps asg bd st pend) ∧ r = .d (.bool jump.isNone) ∧
    ∀ x ∈ H', x ∈ setH lbl (.lp N sl ps asg bd (bif jump.isNone then .ready else .done) jump) H

theorem around_of_body {lbl N : Nat} {sl : List (Nat × AV)} {ps : List Nat} {asg bd : Code} {pend : Option Code} {args : List AV} {H H' : AHeap} {r : AV} (n : Nat) (hlp : (lbl, AObj.lp N sl ps asg bd .ready pend) ∈ H)
    (hargs : ∀ x ∈ args, x.lt n) (hH : ∀ l o, (l, o) ∈ H → l < n ∧ o.lt n) (hr : r.lb fun l => l < n ∨ l ∈ H'.keys ∧ l ∉ H.keys)
    (hH' : ∀ l o, (l, o) ∈ H' → (l < n ∨ l ∉ H.keys) ∧ o.lb fun l => l < n ∨ l ∈ H'.keys ∧ l ∉ H.keys) (hps : ps.length = args.length) (hpN : ∀ p ∈ ps, p < N)
    (hb : ∀ ro, AW P ro n asg ⟨N, putArgs ps args sl⟩ H n (fun ex a H1 n1 => ex = .normal ∧ lkH H1 lbl = some (.lp N sl ps asg bd .ready pend) ∧
      AW P ro n bd a (setH lbl (.lp N sl ps asg bd .busy pend) H1) n1 (RoundS lbl r H'))) : ARound P lbl args H r H' := by
  refine ⟨⟨N, sl, ps, asg, bd, pend, hlp, hps⟩, fun S i w vs hlen hvs hh hnew b r0 hib hr0 hsz => ?_⟩
  obtain ⟨hl, ho⟩ := hH _ _ hlp
  rcases hh.obj _ _ hlp with ⟨b', hb', hro⟩ | ⟨_, hz⟩
  case inr => exact hz.elim
  rw [hib] at hb'; cases hb'
  obtain ⟨r1, hr1, q1, q2, q3, q4, q5, q6, q7, q8⟩ := hro
  rw [hr0] at hr1; cases hr1
  have hfw : fen (some b) = Fence.wide.inRound b := rfl
  have hcut : HeapRel S (i.cut n) H w := by
    refine ⟨hh.cell, hh.size, fun l o hm => ?_, fun l o l' o' b x y hl hl' => hh.inj l o l' o' b x y (Emb.cut_some hl).2 (Emb.cut_some hl').2, fun l b hl => hh.dom l b (Emb.cut_some hl).2, hh.gr⟩
    obtain ⟨hl, ho⟩ := hH l o hm
    rcases hh.obj l o hm with ⟨b, hb, hr⟩ | ⟨hn, ho'⟩
    case inr => exact .inr ⟨by rw [Emb.cut_of hl]; exact hn, ho'⟩
    refine .inl ⟨b, by rw [Emb.cut_of hl]; exact hb, ?_⟩
    exact hr.relabel (fun _ hl => Emb.cut_of hl) ho
  have hact : ActRel S (i.cut n) ⟨N, putArgs ps args sl⟩ { tmps := (r0.params.zip vs.toArray).foldl (fun tmps (t, a) => tmps.setIfInBounds t a) r0.tmps, defers := [] } := by
    have e : (r0.params.zip vs.toArray).foldl (fun tmps (t, a) => tmps.setIfInBounds t a) r0.tmps = (ps.zip vs).foldl (fun tmps (t, a) => tmps.setIfInBounds t a) r0.tmps := by
      rw [← Array.foldl_toList]
      congr 1
      rw [Array.toList_zip, q2]
    rw [e]
    refine putArgs_rel ⟨q1, fun t x hx => ?_⟩ hps hlen hpN fun j h1 h2 => (hvs j h1 h2).cut (hargs _ (List.getElem_mem h1))
    exact (q7 _ (lk_mem hx)).cut (ho _ (lk_mem hx))
  refine roundIn_of_wpIn trivial ?_
  rw [q3]
  have hw := hb (some b) S (i.cut n) w _ hact hcut (fun l b h => (Emb.cut_some h).1)
  rw [hfw] at hw
  refine wpIn_mono hw ?_
  rintro ex ca1 w1 ⟨a1, H1, n1, S1, i1, ⟨rfl, hlk, hbody⟩, ra, rd, rh, rn, re, rt⟩
  have hm1 := lkH_mem hlk
  have hi1 : i1 lbl = some b := by rw [re lbl hl, Emb.cut_of hl]; exact hib
  rcases rh.obj _ _ hm1 with ⟨b', hb', hro1⟩ | ⟨_, hz⟩
  case inr => exact hz.elim
  rw [hi1] at hb'; cases hb'
  obtain ⟨r2, hr2, p1, p2, p3, p4, p5, p6, p7, p8⟩ := hro1
  refine ⟨_, run_beginRound hr2 p5, ?_⟩
  have hlt : b < w1.heap.size := (Array.getElem?_eq_some_iff.1 hr2).1
  have hh2 : HeapRel S1 i1 (setH lbl (.lp N sl ps asg bd .busy pend) H1) (w1.putObj b (.loop { r2 with state := .busy })) :=
    heap_setLp rh hm1 hi1 hr2 ⟨_, World.putObj_heap_same hlt, p1, p2, p3, p4, rfl, p6, p7, p8⟩
  have ht2 := tr_setLp (o' := .lp N sl ps asg bd .busy pend) (ob := .loop { r2 with state := .busy }) rt hm1 hi1
  rw [q4]
  have hw2 := hbody S1 i1 _ ca1 ra hh2 rn
  rw [hfw] at hw2
  refine wpIn_mono hw2 ?_
  rintro ex ca2 w2 ⟨a2, H2, n2, S2, i2, ⟨jump, N', sl', ps', asg', bd', st', pend', hj, hlk2, hre, hsub⟩, ra2, rd2, rh2, rn2, re2, rt2⟩
  subst hre
  have hm2 := lkH_mem hlk2
  have hi2 : i2 lbl = some b := by rw [re2 lbl hl]; exact hi1
  rcases rh2.obj _ _ hm2 with ⟨b', hb', hro2⟩ | ⟨_, hz⟩
  case inr => exact hz.elim
  rw [hi2] at hb'; cases hb'
  obtain ⟨r3, hr3, s1, s2, s3, s4, s5, s6, s7, s8⟩ := hro2
  have hlt2 : b < w2.heap.size := (Array.getElem?_eq_some_iff.1 hr3).1
  have fin : ∀ jump' : Option Code, jump = jump' → ∃ v w', (Instr.endRound b jump').run P w2 = .ok v w' ∧ ∃ v', Ending.returned v = .returned v' ∧ Post S i H w (.d (.bool jump.isNone)) H' v' w' := by
    intro jump' hjj
    subst hjj
    refine ⟨_, _, run_endRound _ hr3, _, rfl, ?_⟩
    have hh3 : HeapRel S2 i2 (setH lbl (.lp N' sl' ps' asg' bd' (bif jump.isNone then .ready else .done) jump) H2) (w2.putObj b (.loop { r3 with state := if jump.isNone then .ready else .done, pending := jump })) :=
      heap_setLp rh2 hm2 hi2 hr3 ⟨_, World.putObj_heap_same hlt2, s1, s2, s3, s4, by cases jump <;> rfl, rfl, s7, s8⟩
    have ht3 := tr_setLp (o' := .lp N' sl' ps' asg' bd' (bif jump.isNone then .ready else .done) jump) (ob := .loop { r3 with state := if jump.isNone then .ready else .done, pending := jump }) (ht2.trans rt2) hm2 hi2
    exact post_end hh hnew hr hH' (.d .bool) hh3 (fun l hl => (re2 l hl).trans (re l hl)) ht3 hsub
  cases ex <;> simp only [jumpOf, Option.some.injEq, reduceCtorEq] at hj
  · exact fin _ hj.symm
  · exact fin _ hj.symm
  · exact fin _ hj.symm
end
end Go.Proofs.Abs
end
