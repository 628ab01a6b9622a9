/- append: the operation. -/
import Derived.Test.YtgimibhacllcpaaAbs10
namespace Go.Proofs.Abs
open Go
section
variable {P : Program} {args : List (Nat × AV)} {H : AHeap} {o : Oper} {own : Bool} {nl : Nat} {q : Out}

/-- appended to what has no room: a new row -/
theorem app_new {S : Seal} {i : Emb} {w : World} {c : Call} {t u e : TypeId} {ts : List TypeId} {d : TypeDesc} {j : TypeInfo} {z0 : Value} {zz : List D} {ty : TypeId}
    (ht : c.argTypes.toList = t :: u :: ts) (hut : P.underlying t = some (.slice e)) (huu : P.underlying u = some d) (hd : (∃ e', d = .slice e') ∨ d = .string) (hj : P.info? e = some j) (hz0 : j.zero = some z0)
    (hzz : zz.length = z0.cells.size) (hzl : zz.length = j.size) {base : Option Addr} {sCap : Nat} {xs ys : List D} {vx vy : Value} (hvx : vx = .slice base xs.length sCap)
    (hx : DV S (.sl xs) vx) (hxz : ∀ d ∈ xs, d.cells.length = j.size) {y : AV} (hsrc : toSrc y = some ys) (hvy : V S i y vy) (hyz : ∀ d ∈ ys, d.cells.length = j.size) (hh : HeapRel S i [] w)
    (hg : sCap < xs.length + ys.length) (h63 : xs.length + ys.length ≤ 9223372036854775807) (hfit : Builtin.nextslicecap (xs.length + ys.length) sCap * j.bytes ≤ 281474976710656) :
    ∃ v w', (Builtin.append_ c.argTypes ty #[vx, vy]).run P w = .ok v w' ∧ Post S i [] w (.d (.sl (xs ++ ys))) [] v w' ∧
      (i nl = none → Post S i [] w (.ap nl j.size (xs ++ ys)) [(nl, .tok ((xs ++ ys).length * j.size))] v w') := by
  obtain ⟨new, hn1, hn2, hn3, hn4⟩ := src_ok (P := P) hsrc hvy hyz
  obtain ⟨old, ho1, ho2, ho3, ho4⟩ := src_ok (P := P) (x := .d (.sl xs)) (i := i) rfl (.d hx) hxz
  have hcell : ∀ a v, S.cell a = some v → w.drew.cell? a = some v := fun a v h => by rw [World.cell?_drew]; exact hh.cell a v h
  subst hvx
  have h0 : c.argTypes[0]? = some t := arr0 ht
  have h1 : c.argTypes[1]? = some u := by rw [← Array.getElem?_toList, ht]; rfl
  have hrun := run_append_grows' (P := P) (w := w) (ty := ty) h0 h1 hut huu hd hj hz0 (hn4 w hh.cell).1 (hn4 w.drew hcell).2 (ho4 w.drew hcell).2 hg h63 hfit
  have hcap := grownCap_ge w (xs.length + ys.length) sCap e
  generalize hgc : grownCap w (xs.length + ys.length) sCap e = cap at *
  generalize hC : old.toArray ++ new.toArray ++ Builtin.zeroCells z0.cells (cap - (xs.length + ys.length)) = C at *
  have hnb : NewBlk w (w.drew.alloc (.cells C e)) C e (0, 0) := by
    have := newblk_alloc w.drew C e
    exact ⟨this.size, this.old, this.new, this.os, this.out, this.tape⟩
  have hl : (old ++ new).length = (xs ++ ys).length * j.size := by simp [ho1, hn1, Nat.add_mul]
  have hzs : ∀ d ∈ xs ++ ys, d.cells.length = j.size := fun d hd => (List.mem_append.1 hd).elim (hxz d) (hyz d)
  have hdv : DV (S.add w.heap.size ((xs ++ ys).length * j.size) C) (.sl (xs ++ ys)) (.slice (some ⟨w.heap.size, 0, none⟩) (xs ++ ys).length cap) := by
    refine dv_new (cs := old ++ new) hh hzs (fun d hd => ?_) hl (fun m hm => ?_) (fun m h1 h2 => ?_) (by simpa using hcap)
    · rw [flat_append] at hd
      exact (List.mem_append.1 hd).elim (ho2 d) (hn2 d)
    · rw [← hC]
      have : (old.toArray ++ new.toArray).toList = old ++ new := by simp
      rw [Array.getElem?_append_left (by simpa using hm), ← Array.getElem?_toList, this, List.getElem?_eq_getElem hm]
    · have hfx := flat_len hxz
      simp only [flat_append]
      by_cases hm : m < (flat xs).length
      · rw [List.getElem_append_left hm, List.getElem_append_left (by omega)]
        exact ho3 m hm (by omega)
      · have h1' : m < (flat xs).length + (flat ys).length := by simpa [flat_append] using h1
        rw [List.getElem_append_right (by omega), List.getElem_append_right (by omega)]
        have := hn3 (m - (flat xs).length) (by omega) (by simp at h2; omega)
        have he : m - old.length = m - (flat xs).length := by omega
        simp only [he]
        exact this
  have hlen : (xs ++ ys).length = xs.length + ys.length := by simp
  rw [← hlen] at hrun
  refine ⟨_, _, hrun, post_seal (k := (xs ++ ys).length * j.size) hh hnb (.d hdv), fun hf => post_tok (k := (xs ++ ys).length * j.size) hh hnb hf ?_⟩
  refine .ap (n := C.size) (by simp [Emb.set]) hdv hzs (by simp [Seal.add]) ?_
  rw [← hC]
  simp only [Array.size_append, size_zeroCells, ← hzz, hzl, List.size_toArray, ho1, hn1]
  rw [← Nat.add_mul, ← Nat.add_mul]
  exact Nat.mul_le_mul_right _ (by omega)

theorem ok_app {c : Call} {x y : Operand} {a b : Arg} {t u e : TypeId} {ts : List TypeId} {zz : List D} {j : TypeInfo} (hop : o.op = .call c) (hc : c.callee = .builtin .append)
    (ha : c.args.toList = [x, y]) (hx : argA x = some a) (hy : argA y = some b) (ht : c.argTypes.toList = t :: u :: ts) (hu : und P t = .slice e) (hu2 : (∃ e', und P u = .slice e') ∨ und P u = .string)
    (hz : zeroA P e = some zz) (hj : P.info? e = some j) (h : evOp own nl (evA args) H (.app a b j.size j.bytes zz) = some q) (hs : q.side) : OpT P (evL args) o q.hin q.r q.hout := by
  obtain ⟨j', z0, hj', hz0, hcz⟩ := zeroA_inv hz
  rw [hj] at hj'
  cases hj'
  have hzz : zz.length = z0.cells.size := by simpa using (constDs_at hcz).1
  have hut := und_some hu (by simp)
  obtain ⟨d, hd, huu⟩ : ∃ d, ((∃ e', d = .slice e') ∨ d = .string) ∧ P.underlying u = some d := by
    rcases hu2 with ⟨e', h⟩ | h
    · exact ⟨_, .inl ⟨e', rfl⟩, und_some h (by simp)⟩
    · exact ⟨_, .inr rfl, und_some h (by simp)⟩
  have hexec : ∀ (ρ : Operand → Value) (w : World), (execOp ρ o).run P w = ((Builtin.append_ c.argTypes o.type #[ρ x, ρ y]).run P w).andThen fun v w' => .ok (.value v) w' := by
    intro ρ w
    simp only [execOp, hop, resolve, hc, arr2 ha, List.map_toArray, List.map_cons, List.map_nil, Sem.run_bind, Sem.run_pure, Result.andThen_ok, invoke, builtin]
  have h0 : c.argTypes[0]? = some t := arr0 ht
  have h1 : c.argTypes[1]? = some u := by rw [← Array.getElem?_toList, ht]; rfl
  -- onto nothing
  have onNil : ∀ (own : Bool) (yv : AV) (ys : List D) (S : Seal) (i : Emb) (w : World) (ρ : Operand → Value), ρ x = .slice none 0 0 → toSrc yv = some ys → V S i yv (ρ y) → HeapRel S i [] w →
      zz.length = j.size → 0 < j.bytes → ys.length * j.bytes ≤ 281474976710656 → (∀ d ∈ ys, d.cells.length = j.size) →
      (own = true → i nl = none) → Ends P (Post S i [] w (bif own then .ap nl j.size ys else .d (.sl ys)) (bif own then [(nl, .tok (ys.length * j.size))] else [])) ((execOp ρ o).run P w) := by
    intro own yv ys S i w ρ hxn hsrc hvy hh hzl hb hfit hyz hf
    rw [hexec, hxn]
    cases ys with
    | nil =>
      obtain ⟨new, hn1, hn2, hn3, hn4⟩ := src_ok (P := P) hsrc hvy hyz
      rw [run_append_none' h0 h1 hut huu hd hj (hn4 w hh.cell).1 (hn4 w hh.cell).2, Result.andThen_ok]
      cases own with
      | false => exact postSame (.d .nilsl) hh
      | true =>
        have hf := hf rfl
        refine ⟨S, i, .apn, ⟨hh.cell, hh.size, fun l o hm => ?_, fun l o l' o' b hm hm' _ _ => ?_, hh.dom⟩, fun _ _ h => h, ⟨.refl S, Nat.le_refl _, fun _ _ _ => rfl, fun _ _ h => .inl h, fun _ _ h => .inl h, ?_, rfl, rfl, rfl⟩, fun _ _ h => .inl h⟩
        · simp only [cond_true, List.mem_singleton, Prod.mk.injEq] at hm
          exact .inr ⟨by rw [hm.1]; exact hf, by rw [hm.2]; simp [AObj.nil0]⟩
        · simp only [cond_true, List.mem_singleton, Prod.mk.injEq] at hm hm'
          rw [hm.1, hm'.1]
        · rintro b ⟨l, o, hm, hb⟩
          simp only [cond_true, List.mem_singleton, Prod.mk.injEq] at hm
          rw [hm.1, hf] at hb; cases hb
    | cons y0 yr =>
      have hnc : Builtin.nextslicecap ((y0 :: yr).length) 0 = (y0 :: yr).length := nextslicecap_zero (by simp)
      have hlen : (y0 :: yr).length ≤ 281474976710656 := Nat.le_trans (Nat.le_mul_of_pos_right _ hb) hfit
      obtain ⟨v, w', hr, hp1, hp2⟩ := app_new (nl := nl) (ty := o.type) (base := none) (xs := []) (sCap := 0) ht hut huu hd hj hz0 hzz hzl rfl .nilsl (by simp) hsrc hvy hyz hh (by simp)
        (by simp at hlen ⊢; omega) (by rw [show ([] : List D).length + (y0 :: yr).length = (y0 :: yr).length by simp, hnc]; exact hfit)
      simp only [List.length_nil] at hr
      rw [hr, Result.andThen_ok]
      cases own with
      | false => exact hp1
      | true => exact hp2 (hf rfl)
  simp only [evOp] at h
  split at h
  · -- nil
    rename_i ys hax hys
    simp only [Option.bind_eq_some_iff] at hys
    obtain ⟨yv, hyv, hsrc⟩ := hys
    cases own with
    | true =>
      simp only [cond_true] at h
      cases h
      obtain ⟨hs1, hs2, hs3, hs4⟩ := hs
      refine ⟨by simp [hop], fun S i w ρ hev hh hf => ?_⟩
      have hxv : ρ x = .slice none 0 0 := by
        have := argV hev hx hax
        generalize ρ x = v at this
        cases this; rfl
      exact onNil true yv ys S i w ρ hxv hsrc (argV hev hy hyv) hh hs1 hs2 hs3 hs4 (fun _ => hf nl (by simp [AHeap.keys]) (by simp [AHeap.keys]))
    | false =>
      simp only [cond_false] at h
      cases h
      obtain ⟨hs1, hs2, hs3, hs4⟩ := hs
      refine ⟨by simp [hop], fun S i w ρ hev hh hf => ?_⟩
      have hxv : ρ x = .slice none 0 0 := by
        have := argV hev hx hax
        generalize ρ x = v at this
        cases this; rfl
      exact onNil false yv ys S i w ρ hxv hsrc (argV hev hy hyv) hh hs1 hs2 hs3 hs4 (fun h => by cases h)
  · rename_i l z' xs ys hax hys
    simp only [Option.bind_eq_some_iff] at hys
    obtain ⟨yv, hyv, hsrc⟩ := hys
    cases hzb : Nat.beq j.size z' <;> rw [hzb] at h <;> try cases h
    have hzeq := Nat.eq_of_beq_eq_true hzb
    subst hzeq
    split at h <;> first | cases h | skip
    obtain ⟨hne, hn, hzl, hb, hfit, hyz⟩ := hs
    rename_i n _
    refine ⟨by simp [hop], fun S i w ρ hev hh hf => ?_⟩
    have hvx := argV hev hx hax
    have hvy := argV hev hy hyv
    have hnone : i nl = none := hf nl (by simp [AHeap.keys]) (by simp [AHeap.keys, hne])
    have hh0 : HeapRel S i [] w := hh.perm (fun x hx => by cases hx)
    have hkeys : ∀ k ∈ AHeap.keys [(nl, AObj.tok ((xs ++ ys).length * j.size))], k ∉ AHeap.keys [(l, AObj.tok n)] := by simp [AHeap.keys, hne]
    generalize hvx' : ρ x = vx at hvx
    have hlen : xs.length + ys.length ≤ 140737488355328 := by
      have h1 : (xs.length + ys.length) * 2 ≤ (xs.length + ys.length) * 2 * j.bytes := Nat.le_mul_of_pos_right _ hb
      omega
    have hfit1 : (xs.length + ys.length) * 2 * j.bytes = 2 * (xs.length + ys.length) * j.bytes := by rw [Nat.mul_comm _ 2]
    cases hvx with
    | apn =>
      have hfit2 : ys.length * j.bytes ≤ 281474976710656 := by
        refine Nat.le_trans (Nat.mul_le_mul_right _ ?_) hfit
        simp; omega
      exact (onNil true yv ys S i w ρ hvx' hsrc hvy hh0 hzl hb hfit2 hyz (fun _ => hnone)).mono fun v w' hp => hp.more hkeys
    | ap hi hdx hzx hNs hcN =>
      rename_i bb cap N
      rcases hh.obj l (.tok n) List.mem_cons_self with ⟨b', hb', C, eb, hC, hns⟩ | ⟨hno, _⟩
      case inr => rw [hi] at hno; cases hno
      rw [hi] at hb'
      cases hb'
      obtain ⟨c1, e1, f1, h1', hN⟩ := hh.size _ _ hNs
      rw [hC] at h1'
      cases h1'
      have hcapx : xs.length ≤ cap := by
        rcases dSlice hdx with ⟨h0, h00⟩ | ⟨_, _, _, _, _, h00, _, _, hle, _⟩ | ⟨h0, a, h00⟩
        · cases h00
        · cases h00; exact hle
        · rw [h0]; exact Nat.zero_le _
      by_cases hroom : xs.length + ys.length ≤ cap
      · -- there is room
        obtain ⟨new, hn1, hn2, hn3, hn4⟩ := src_ok (P := P) hsrc hvy hyz
        have hone : ∀ v ∈ new, v.oneCell' = true := by
          intro v hv
          obtain ⟨m, hm, rfl⟩ := List.getElem_of_mem hv
          have hm' : m < (flat ys).length := by rw [flat_len hyz]; omega
          exact one_of_dv (hn3 m hm' hm) (hn2 _ (List.getElem_mem hm'))
        have hfitC : xs.length * j.size + new.length ≤ C.size := by
          rw [hn1, ← Nat.add_mul, hN]
          exact Nat.le_trans (Nat.mul_le_mul_right _ hroom) hcN
        rw [hexec, hvx', run_append_room' h0 h1 hut huu hd hj (hn4 w hh.cell).1 (hn4 w hh.cell).2 hC hone hroom hfitC, Result.andThen_ok]
        generalize hC' : (C.toList.take (xs.length * j.size) ++ new ++ C.toList.drop (xs.length * j.size + new.length)).toArray = C'
        have hsz : C'.size = C.size := by rw [← hC']; simp; omega
        have hkeep : ∀ m, m < n → C'[m]? = C[m]? := by
          intro m hm
          rw [← hC']
          simp only [List.getElem?_toArray]
          rw [List.getElem?_append_left (by simp; omega), List.getElem?_append_left (by simp; omega), List.getElem?_take]
          rw [if_pos (by omega)]
          simp
        have hat : ∀ m (h : m < new.length), C'[n + m]? = some new[m] := by
          intro m hm
          rw [← hC']
          simp only [List.getElem?_toArray]
          rw [List.getElem?_append_left (by simp; omega), List.getElem?_append_right (by simp; omega)]
          have : n + m - (List.take (xs.length * j.size) C.toList).length = m := by simp; omega
          rw [this, List.getElem?_eq_getElem hm]
        have hzs : ∀ d ∈ xs ++ ys, d.cells.length = j.size := fun d hd => (List.mem_append.1 hd).elim (hzx d) (hyz d)
        have hk : (xs ++ ys).length * j.size = n + new.length := by simp [hn1, hn, Nat.add_mul]
        have hfx := flat_len hzx
        have hup : S.le (S.ext bb n ((xs ++ ys).length * j.size) C') := by
          refine ⟨fun a v ha => ?_, fun b n h => h⟩
          simp only [Seal.ext]
          rw [if_neg]
          · exact ha
          · rintro ⟨h1, h2, h3, _⟩
            rw [hns a h1 h3] at ha; cases ha
        have hdv : DV (S.ext bb n ((xs ++ ys).length * j.size) C') (.sl (xs ++ ys)) (.slice (some ⟨bb, 0, none⟩) (xs ++ ys).length cap) := by
          -- the old ones, and the new ones
          have hold : ∃ f : Nat → Value, (∀ m, m < (flat xs).length → S.cell ⟨bb, 0 + m, none⟩ = some (f m)) ∧ (∀ m (hm : m < (flat xs).length), DV S (flat xs)[m] (f m)) ∧ ∀ d ∈ flat xs, d.isAgg = false := by
            rcases dSlice hdx with ⟨h0, h00⟩ | ⟨b, o', cp, z', f, h00, _, hgx, _, hsx, hvx⟩ | ⟨h0, a, h00⟩
            · cases h00
            · cases h00; exact ⟨f, hsx, hvx, hgx⟩
            · subst h0; exact ⟨fun _ => undef, by simp [flat], by simp [flat], by simp [flat]⟩
          obtain ⟨f, hf1, hf2, hf3⟩ := hold
          refine .sl (fun m => if m < n then f m else new.getD (m - n) undef) hzs (fun d hd => ?_) (by simpa using hroom) (fun m hm => ?_) fun m hm => ?_
          · rw [flat_append] at hd
            exact (List.mem_append.1 hd).elim (hf3 d) (hn2 d)
          · have hmk : m < n + new.length := by rw [flat_len hzs] at hm; omega
            by_cases hmn : m < n
            · rw [if_pos hmn]
              exact hup.cell _ _ (hf1 m (by omega))
            · rw [if_neg hmn]
              simp only [Seal.ext]
              rw [if_pos ⟨trivial, trivial, by show n ≤ 0 + m; omega, by show 0 + m < _; omega⟩]
              show C'[0 + m]? = _
              have h2 : m - n < new.length := by omega
              have := hat (m - n) h2
              rw [show n + (m - n) = 0 + m by omega] at this
              rw [this]
              simp [List.getD, h2]
          · have hmk : m < n + new.length := by rw [flat_len hzs] at hm; omega
            simp only [flat_append]
            by_cases hmn : m < n
            · rw [if_pos hmn, List.getElem_append_left (by omega)]
              exact (hf2 m (by omega)).mono hup
            · rw [if_neg hmn, List.getElem_append_right (by omega)]
              have h2 : m - n < new.length := by omega
              have h3 : m - (flat xs).length < (flat ys).length := by rw [flat_len hyz]; omega
              have := (hn3 (m - (flat xs).length) h3 (by omega)).mono hup
              have he : m - n = m - (flat xs).length := by omega
              simp only [he] at h2 ⊢
              simpa [List.getD, h2] using this
        refine post_room hh hi hC hns hsz hkeep hnone hne ?_ (by omega)
        have hr : V (S.ext bb n ((xs ++ ys).length * j.size) C') (i.set nl bb) (.ap nl j.size (xs ++ ys)) (.slice (some ⟨bb, 0, none⟩) (xs ++ ys).length cap) :=
          .ap (n := N) (by simp [Emb.set]) hdv hzs hNs hcN
        simpa using hr
      · -- there is none
        have hfitg : Builtin.nextslicecap (xs.length + ys.length) cap * j.bytes ≤ 281474976710656 :=
          Nat.le_trans (Nat.mul_le_mul_right _ (nextslicecap_le (by omega))) (by omega)
        obtain ⟨v, w', hr, hp1, hp2⟩ := app_new (nl := nl) (ty := o.type) ht hut huu hd hj hz0 hzz hzl rfl hdx hzx hsrc hvy hyz hh0 (by omega) (by omega) hfitg
        rw [hexec, hvx', hr, Result.andThen_ok]
        exact (hp2 hnone).more hkeys
  · -- into a block of our own
    rename_i ys hax hys
    simp only [Option.bind_eq_some_iff] at hys
    obtain ⟨yv, hyv, hsrc⟩ := hys
    generalize hzb : Nat.beq j.size _ = bz at h
    cases bz
    · cases h
    simp only [cond_true] at h
    have hzeq := Nat.eq_of_beq_eq_true hzb
    subst hzeq
    split at h <;> first | cases h | skip
    rename_i L _
    obtain ⟨hzl, hb, hroom, hfit, hyz⟩ := hs
    refine ⟨by simp [hop], fun S i w ρ hev hh hf => ?_⟩
    have hvx := argV hev hx hax
    have hvy := argV hev hy hyv
    generalize hvx' : ρ x = vx at hvx
    cases hvx with
    | sl hi =>
      rename_i bb
      rcases hh.obj _ (.cells L) List.mem_cons_self with ⟨b', hb', C, eb, hC, hsz, hval, hns⟩ | ⟨hno, _⟩
      case inr => rw [hi] at hno; cases hno
      rw [hi] at hb'
      cases hb'
      obtain ⟨new, hn1, hn2, hn3, hn4⟩ := src_ok (P := P) hsrc hvy hyz
      have hfy := flat_len hyz
      have hone : ∀ v ∈ new, v.oneCell' = true := by
        intro v hv
        obtain ⟨m, hm, rfl⟩ := List.getElem_of_mem hv
        have hm' : m < (flat ys).length := by omega
        exact one_of_dv (hn3 m hm' hm) (hn2 _ (List.getElem_mem hm'))
      have hle := Nat.mul_le_mul_right j.size hroom
      rw [Nat.add_mul] at hle
      rw [hexec, hvx', run_append_room' h0 h1 hut huu hd hj (hn4 w hh.cell).1 (hn4 w hh.cell).2 hC hone hroom (by omega), Result.andThen_ok]
      rename_i n _ _ _
      obtain ⟨u1, u2⟩ := upd_at L (n * j.size) ((flat ys).map .d) (by simp only [List.length_map]; omega)
      refine post_store hh hi hC hns rfl (by simp; omega) (by rw [u1]; simp; omega) (fun k k1 k2 => ?_) (.sl hi)
      rw [u2 k k1]
      have hk : k < C.size := by rw [u1] at k1; omega
      by_cases hin : n * j.size ≤ k ∧ k < n * j.size + ((flat ys).map AV.d).length
      · rw [dif_pos hin]
        obtain ⟨q1, q2⟩ := hin
        simp only [List.length_map] at q2
        have hm : k - n * j.size < new.length := by omega
        have := hn3 (k - n * j.size) (by omega) hm
        have e : (C.toList.take (n * j.size) ++ new ++ C.toList.drop (n * j.size + new.length)).toArray[k]? = some new[k - n * j.size] := by
          simp only [List.getElem?_toArray]
          rw [List.getElem?_append_left (by simp; omega), List.getElem?_append_right (by simp; omega)]
          have : k - (List.take (n * j.size) C.toList).length = k - n * j.size := by simp; omega
          rw [this, List.getElem?_eq_getElem hm]
        have e2 := (Array.getElem?_eq_some_iff.1 e).2
        rw [e2]
        simp only [List.getElem_map]
        exact .d this
      · rw [dif_neg hin]
        simp only [List.length_map] at hin
        have := hval k (by omega) hk
        have e : (C.toList.take (n * j.size) ++ new ++ C.toList.drop (n * j.size + new.length)).toArray[k]? = some C[k] := by
          simp only [List.getElem?_toArray]
          by_cases hlt : k < n * j.size
          · rw [List.getElem?_append_left (by simp; omega), List.getElem?_append_left (by simp; omega), List.getElem?_take, if_pos hlt]
            simp [hk]
          · rw [List.getElem?_append_right (by simp; omega), List.getElem?_drop]
            have : n * j.size + new.length + (k - (List.take (n * j.size) C.toList ++ new).length) = k := by simp; omega
            rw [this]
            simp [hk]
        have e2 := (Array.getElem?_eq_some_iff.1 e).2
        rw [e2]
        have hL : k < L.length := by omega
        simpa [hL] using this
  · cases h
end
end Go.Proofs.Abs
