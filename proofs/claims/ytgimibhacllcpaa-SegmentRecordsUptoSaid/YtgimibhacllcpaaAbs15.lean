/- Structs that are built; texts of bytes; the least and the most. -/
import Derived.Test.YtgimibhacllcpaaAbs14
import Derived.Laws.Tables
namespace Go.Proofs.Abs
open Go
section
variable {P : Program} {args : List (Nat × AV)} {H : AHeap} {o : Oper} {own : Bool} {nl : Nat} {q : Out}

theorem mmL_ok {S : Seal} {i : Emb} {w : World} {b : Bool} : ∀ {vs : List AV} {us : List Value} {k k' : IntKind} {n n' : Int}, mmL b (k, n) vs = some (k', n') → vs.length = us.length →
    (∀ j (h1 : j < vs.length) (h2 : j < us.length), V S i vs[j] us[j]) → (us.foldlM (if b then Builtin.max2 else Builtin.min2) (.int k n)).run P w = .ok (.int k' n') w
  | [], us, k, k', n, n', h, hl, _ => by
    cases us <;> simp at hl
    cases h
    rfl
  | v :: vs, us, k, k', n, n', h, hl, hv => by
    cases us with
    | nil => simp at hl
    | cons u us =>
      unfold mmL at h
      split at h <;> first | cases h | skip
      · rename_i heq; cases heq
      · rename_i k1 n1 k2 m r h1 h2
        cases h1
        cases h2
        have hu := vInt (hv 0 (by simp) (by simp))
        simp only [List.getElem_cons_zero] at hu
        subst hu
        have hrec := mmL_ok (w := w) (us := us) h (by simpa using hl) fun j h1 h2 => by
          have := hv (j + 1) (by simpa using h1) (by simpa using h2)
          simpa using this
        rw [List.foldlM_cons, Sem.run_bind]
        cases b with
        | true =>
          have : ((if true = true then Builtin.max2 else Builtin.min2) (.int k n) (.int k2 m)).run P w = .ok (.int k (max n m)) w := by
            simp only [if_true, Builtin.max2]
            have : (if m > n then m else n) = max n m := by split <;> omega
            rw [this]; rfl
          rw [this, Result.andThen_ok]
          exact hrec
        | false =>
          have : ((if false = true then Builtin.max2 else Builtin.min2) (.int k n) (.int k2 m)).run P w = .ok (.int k (min n m)) w := by
            simp only [Bool.false_eq_true, if_false, Builtin.min2]
            have : (if m < n then m else n) = min n m := by split <;> omega
            rw [this]; rfl
          rw [this, Result.andThen_ok]
          exact hrec

theorem ok_mm {c : Call} {l : List Arg} {b : Bool} (hop : o.op = .call c) (hc : c.callee = .builtin (if b then .max else .min)) (hl : argsA c.args.toList = some l) (h : evOp own nl (evA args) H (.mm b l) = some q) :
    OpT P (evL args) o q.hin q.r q.hout := by
  simp only [evOp] at h
  split at h <;> first | cases h | skip
  rename_i k n hkn
  simp only [Option.bind_eq_some_iff] at hkn
  obtain ⟨vs, hvs, hm⟩ := hkn
  obtain ⟨hlen, hall⟩ := all_ok hl hvs
  refine .pure (by simp [hop]) fun S i w ρ hev hh => ⟨_, ?_, .d .int⟩
  cases vs with
  | nil => cases hm
  | cons v vs =>
    cases hos : c.args.toList with
    | nil => rw [hos] at hlen; simp at hlen
    | cons x xs =>
      unfold mmA at hm
      split at hm <;> first | cases hm | skip
      rename_i k0 n0 r heq
      cases heq
      have hlen' : c.args.toList.length = (AV.d (.int k0 n0) :: vs).length := hlen
      have h0 := vInt (hall hev 0 (by simp) (by rw [hlen]; simp))
      simp only [hos, List.getElem_cons_zero] at h0
      have hf := mmL_ok (P := P) (w := w) (us := xs.map ρ) hm (by rw [hos] at hlen; simpa using hlen.symm) fun j h1 h2 => by
        have := hall hev (j + 1) (by simpa using h1) (by rw [hlen]; simpa using h1)
        simp only [hos, List.getElem_cons_succ] at this
        simpa using this
      have hargs : (Array.map ρ c.args).toList = .int k0 n0 :: xs.map ρ := by simp [hos, h0]
      cases b with
      | true =>
        simp only [execOp, hop, resolve, hc, if_true, Sem.run_bind, Sem.run_pure, Result.andThen_ok, invoke, builtin, Builtin.max_, hargs]
        simp only [if_true] at hf
        rw [hf]; rfl
      | false =>
        simp only [execOp, hop, resolve, hc, Bool.false_eq_true, if_false, Sem.run_bind, Sem.run_pure, Result.andThen_ok, invoke, builtin, Builtin.min_, hargs]
        simp only [Bool.false_eq_true, if_false] at hf
        rw [hf]; rfl

theorem ok_bs2s {s d e : TypeId} {x : Operand} {a : Arg} (hop : o.op = .convert s d x) (hx : argA x = some a) (hs' : und P s = .slice e) (hd : und P d = .string) (he : und P e = .int .u8)
    (h : evOp own nl (evA args) H (.bs2s a) = some q) (hs : q.side) : OpT P (evL args) o q.hin q.r q.hout := by
  have h1 := und_some hs' (by simp)
  have h2 := und_some hd (by simp)
  have h3 := und_some he (by simp)
  simp only [evOp] at h
  split at h <;> first | cases h | skip
  rename_i l hl
  simp only [Option.bind_eq_some_iff] at hl
  obtain ⟨y, hy, hl⟩ := hl
  have hb : ∀ d ∈ l, isByte d := hs
  refine .pure (by simp [hop]) fun S i w ρ hev hh => ?_
  have hdv := toSl_ok hl (argV hev hx hy)
  have hcells : ∀ d ∈ l, d.cells = [d] := by
    intro d hd
    have := hb d hd
    cases d <;> first | rfl | (simp [isByte] at this; done)
  have hflat : flat l = l := by
    have gen : ∀ r : List D, (∀ d ∈ r, d.cells = [d]) → flat r = r := by
      intro r
      induction r with
      | nil => intro _; rfl
      | cons x r ih =>
        intro hr
        show x.cells ++ flat r = _
        rw [hr x List.mem_cons_self, ih fun d hd => hr d (List.mem_cons_of_mem _ hd)]
        rfl
    exact gen l hcells
  let xs : List Int := l.map fun d => match d with
    | .int _ n => n
    | _ => 0
  have hstr : strOfNums xs = ⟨(l.map byteOf).toArray⟩ := by
    unfold strOfNums
    congr 2
    simp only [xs, List.map_map]
    apply List.map_congr_left
    intro d hd
    have := hb d hd
    cases d <;> first | rfl | (simp [isByte] at this; done)
  rcases dSlice hdv with ⟨rfl, hv⟩ | ⟨bl, off, cap, z, f, hv, hz, hg, hc, hsl, hall⟩ | ⟨rfl, a0, hv⟩
  case inr.inr =>
    have hl0 : (loadCells a0 0).run P w = .ok (([] : List Int).map (Value.int .u8)).toArray w := by
      have := run_loadCells_list (P := P) w a0 ([] : List Value) (fun j v hj => by simp at hj)
      simpa using this
    refine ⟨.string (strOfNums []), ?_, ?_⟩
    · simp only [execOp, hop, hv, Sem.run_bind]
      rw [run_convert_bytes_string (P := P) w s d e (some a0) 0 0 h1 h3 h2, run_bytesToString (P := P) w a0 0 0 [] hl0]
      rfl
    · exact .d .str
  · refine ⟨.string ⟨#[]⟩, ?_, .d .str⟩
    simp only [execOp, hop, hv, Sem.run_bind]
    rw [run_convert_bytes_nil (P := P) (w := w) s e h1 h3 0 0 d h2]
    rfl
  · refine ⟨.string (strOfNums xs), ?_, ?_⟩
    · simp only [execOp, hop, hv, Sem.run_bind]
      rw [run_convert_bytes_arg (P := P) (w := w) s e h1 h3 bl off l.length cap xs (by simp [xs]) (fun k hk => ?_) d h2]
      · rfl
      · have hk' : k < (flat l).length := by rw [hflat]; exact hk
        rw [hh.cell _ _ (hsl k hk')]
        have := hall k hk'
        have he : (flat l)[k] = l[k] := by simp only [hflat]
        rw [he] at this
        have hby := hb l[k] (List.getElem_mem hk)
        generalize hlk : l[k] = y at *
        cases y <;> simp only [isByte] at hby <;> try cases hby
        rename_i kk n
        have hk8 : kk = .u8 := by cases kk <;> first | rfl | cases hby
        subst hk8
        rw [dInt this]
        have : xs.getD k 0 = n := by
          simp only [xs, List.getD, List.getElem?_map, List.getElem?_eq_getElem hk, hlk, Option.map_some, Option.getD_some]
        rw [this]
    · rw [hstr]; exact .d .str

theorem fold_set0 (v : Array Value) (off : Nat) (cells : Array Value) (h : off + v.size ≤ cells.size) :
    (v.zipIdx.foldl (fun cs (x : Value × Nat) => match x with | (c, j) => cs.setIfInBounds (off + j) c) cells).size = cells.size ∧
    ∀ t, (v.zipIdx.foldl (fun cs (x : Value × Nat) => match x with | (c, j) => cs.setIfInBounds (off + j) c) cells)[t]? = if off ≤ t ∧ t < off + v.size then v[t - off]? else cells[t]? := by
  have := fold_set v.toList 0 off cells (by simpa using h)
  have he : Array.foldl (fun cs (x : Value × Nat) => cs.setIfInBounds (off + x.2) x.1) cells v.zipIdx = (v.toList.zipIdx 0).foldl (fun cs (x : Value × Nat) => cs.setIfInBounds (off + x.2) x.1) cells := by
    rw [← Array.foldl_toList]
    congr 1
    simp
  have he' : (v.zipIdx.foldl (fun cs (x : Value × Nat) => match x with | (c, j) => cs.setIfInBounds (off + j) c) cells) = (v.toList.zipIdx 0).foldl (fun cs (x : Value × Nat) => cs.setIfInBounds (off + x.2) x.1) cells := he
  rw [he']
  simpa using this

theorem fill_build {fs : Array Field} {place : Nat → Option (Nat × Nat)} (hplace : ∀ (n : Nat) (f : Field) (j : TypeInfo), fs[n]? = some f → P.info? f.type = some j → place n = some (f.offset, j.size)) {S : Seal} {i : Emb} {ρ : Operand → Value}
    (hev : ∀ x a, evL args x = some a → V S i a (ρ x)) : ∀ {parts : List (Nat × Operand)} {ps : List (Nat × Arg)} {pl : List (Nat × Nat × Arg)} {L L' : List AV} {s : Prop} {cells : Array Value},
    partsA parts = some ps → placesA P fs ps = some pl → buildF (evA args) L pl = some (L', s) → s → cells.size = L.length → (∀ k (h1 : k < L.length) (h2 : k < cells.size), V S i L[k] cells[k]) →
    ∃ C, Instr.fill place cells (parts.map fun p => (p.1, ρ p.2)) = some C ∧ C.size = L'.length ∧ ∀ k (h1 : k < L'.length) (h2 : k < C.size), V S i L'[k] C[k]
  | [], ps, pl, L, L', s, cells, h1, h2, h3, _, hsz, hv => by
    cases h1
    cases h2
    cases h3
    exact ⟨cells, rfl, hsz, hv⟩
  | (n, x) :: r, ps, pl, L, L', s, cells, h1, h2, h3, hs, hsz, hv => by
    simp only [partsA] at h1
    split at h1 <;> first | cases h1 | skip
    rename_i a l ha hl
    simp only [placesA] at h2
    split at h2 <;> first | cases h2 | skip
    rename_i f l' hf hl'
    simp only [Option.map_eq_some_iff] at h2
    obtain ⟨j, hj, rfl⟩ := h2
    simp only [buildF] at h3
    split at h3 <;> first | cases h3 | skip
    rename_i cs hcs
    split at h3 <;> first | cases h3 | skip
    rename_i L2 s2 hrec
    obtain ⟨⟨q1, q2⟩, q3⟩ := hs
    simp only [Option.bind_eq_some_iff] at hcs
    obtain ⟨y, hy, hcs⟩ := hcs
    obtain ⟨c1, c2⟩ := cellsAV_ok hcs (argV hev ha hy)
    obtain ⟨u1, u2⟩ := upd_at L f.offset cs (by omega)
    obtain ⟨g1, g2⟩ := fold_set0 (ρ x).cells f.offset cells (by omega)
    have hp := hplace n f j hf hj
    generalize hC : ((ρ x).cells.zipIdx.foldl (fun cs (x : Value × Nat) => match x with | (c, j) => cs.setIfInBounds (f.offset + j) c) cells) = C1 at g1 g2
    obtain ⟨C, hC1, hC2, hC3⟩ := fill_build hplace hev (cells := C1) hl hl' hrec q3 (by omega) fun k k1 k2 => by
      have hk := g2 k
      rw [getElem?_pos C1 k k2] at hk
      rw [u2 k k1]
      split
      · rename_i hb
        rw [if_pos (by omega)] at hk
        rw [getElem?_pos (ρ x).cells (k - f.offset) (by omega)] at hk
        injection hk with hk
        rw [hk]
        exact c2 _ _ _
      · rename_i hb
        rw [if_neg (by omega)] at hk
        rw [getElem?_pos cells k (by omega)] at hk
        injection hk with hk
        rw [hk]
        have h3 : k < L.length := by omega
        simpa [List.getD, h3] using hv k h3 (by omega)
    refine ⟨C, ?_, hC2, hC3⟩
    simp only [List.map_cons, Instr.fill, hp]
    rw [if_neg (by simp; omega)]
    rw [hC]
    exact hC1

theorem ok_build {t : TypeId} {parts : Array (Nat × Operand)} {fs : Array Field} {zz : List D} {ps : List (Nat × Arg)} {pl : List (Nat × Nat × Arg)} (hop : o.op = .build t parts) (hu : und P t = .struct fs)
    (hz : zeroA P t = some zz) (hps : partsA parts.toList = some ps) (hall : fs.toList.all (fun (f : Field) => (P.info? f.type).isSome) = true) (hpl : placesA P fs ps = some pl)
    (h : evOp own nl (evA args) H (.build zz pl) = some q) (hs : q.side) : OpT P (evL args) o q.hin q.r q.hout := by
  have hund := und_some hu (by simp)
  obtain ⟨j0, z0, hj0, hz0, hcz⟩ := zeroA_inv hz
  obtain ⟨hzz0, hzat⟩ := constDs_at hcz
  simp only [evOp] at h
  split at h <;> first | cases h | skip
  rename_i L s hL
  refine .pure (by simp [hop]) fun S i w ρ hev hh => ?_
  -- where each field lies
  let pls : List (Nat × Nat) := fs.toList.map fun (f : Field) => (f.offset, ((P.info? f.type).map (·.size)).getD 0)
  have hpls : fs.toList.mapM (fun (f : Field) => (P.info? f.type).map fun i => (f.offset, i.size)) = some pls := by
    have gen : ∀ l : List Field, l.all (fun (f : Field) => (P.info? f.type).isSome) = true → l.mapM (fun (f : Field) => (P.info? f.type).map fun i => (f.offset, i.size)) = some (l.map fun (f : Field) => (f.offset, ((P.info? f.type).map (·.size)).getD 0)) := by
      intro l
      induction l with
      | nil => intro _; rfl
      | cons f r ih =>
        intro h
        simp only [List.all_cons, Bool.and_eq_true] at h
        obtain ⟨j, hj⟩ := Option.isSome_iff_exists.1 h.1
        simp only [List.mapM_cons, hj, Option.map_some, ih h.2, List.map_cons, Option.getD_some]
        rfl
    exact gen _ hall
  have hplace : ∀ (n : Nat) (f : Field) (j : TypeInfo), fs[n]? = some f → P.info? f.type = some j → pls.toArray[n]? = some (f.offset, j.size) := by
    intro n f j hf hj
    simp only [pls, List.getElem?_toArray, List.getElem?_map, Array.getElem?_toList, hf, Option.map_some, hj, Option.getD_some]
  obtain ⟨C, hC1, hC2, hC3⟩ := fill_build (place := (pls.toArray[·]?)) (cells := z0.cells) hplace hev hps hpl hL hs (by simpa using hzz0.symm) fun k h1 h2 => by
    have := zAV_ok (S := S) (i := i) (hzat k (by simpa using h1) (by simpa using h2))
    simpa using this
  have hmk := mkAgg_ok (S := S) (i := i) (l := L) (f := fun k => C.getD k undef) fun m hm => by
    have := hC3 m hm (by omega)
    have h2 : m < C.size := by omega
    simpa [h2] using this
  have hCC : ((List.range L.length).map fun k => C.getD k undef).toArray = C := by
    apply Array.ext
    · simp [hC2]
    · intro k h1 h2
      simp [h2]
  rw [hCC] at hmk
  refine ⟨.agg C, ?_, hmk⟩
  have hbuilt : P.built t (parts.map fun (p : Nat × Operand) => (p.1, ρ p.2)).toList = some C := by
    simp only [Program.built, hj0, hund, hz0, hpls, Array.toList_map]
    exact hC1
  have := run_build (P := P) w t (parts.map fun (p : Nat × Operand) => (p.1, ρ p.2)) C hbuilt
  simp only [execOp, hop, Sem.run_bind]
  have he : (Instr.build t (parts.map fun x => match x with | (i, x) => (i, ρ x))).run P w = .ok (.agg C) w := this
  rw [he]
  rfl
end
end Go.Proofs.Abs
