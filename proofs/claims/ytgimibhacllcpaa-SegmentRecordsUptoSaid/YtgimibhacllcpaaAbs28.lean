/- A region is walked operation by operation, whether its order is drawn or not. -/
import Derived.Test.YtgimibhacllcpaaAbs27
namespace Go.Proofs.Abs
open Go

/-- the labels that an operation touches; does it only read? -/
structure Tk where
  lab : List Nat
  quiet : Bool
def TkR (t : Tk) (r : Rec) : Prop := (∀ x ∈ r.lab, x ∈ t.lab) ∧ (t.quiet = true → r.hin = r.hout)
inductive TkL : List Tk → List Rec → Prop
  | nil : TkL [] []
  | cons {t r T rs} : TkR t r → TkL T rs → TkL (t :: T) (r :: rs)

def URec (P : Program) (aops : List AOper) (r : Rec) : Prop := RecOK P aops r ∧ ∃ ao, aops[r.idx]? = some ao ∧ ao.dst = r.dst ∧ ∀ t x, lk r.args t = some x → t ∈ usesO ao

structure UOut where
  l : List (Nat × AV)
  H : AHeap
  c : Nat
def UOK (P : Program) (aops : List AOper) (N k m : Nat) (c : Nat) (l : List (Nat × AV)) (H : AHeap) (T : List Tk) (o : UOut) : Prop :=
  ∃ rs : List Rec, rs.map (·.idx) = List.range' k m ∧ (∀ r ∈ rs, URec P aops r) ∧ hchain rs ⟨N, l⟩ H ⟨N, o.l⟩ o.H ∧ TkL T rs ∧ c ≤ o.c ∧ (∀ r ∈ rs, ∀ x ∈ newLab r, c ≤ x ∧ x < o.c) ∧ rs.Pairwise fun p r => ∀ x ∈ newLab p, x ∉ newLab r

/-- a region from its operation k on: os is left -/
def RegU (P : Program) (aops : List AOper) (N k : Nat) (os : List AOper) (c : Nat) (l : List (Nat × AV)) (H : AHeap) (T : List Tk) (Q : AAct → AHeap → Nat → Prop) : Prop :=
  aops.drop k = os → ∃ o : UOut, UOK P aops N k os.length c l H T o ∧ Q ⟨N, o.l⟩ o.H o.c

section
variable {P : Program} {aops os : List AOper} {N k c : Nat} {l : List (Nat × AV)} {H : AHeap} {T : List Tk} {Q : AAct → AHeap → Nat → Prop}

theorem RegU.nil (h : Q ⟨N, l⟩ H c) : RegU P aops N k [] c l H [] Q :=
  fun _ => ⟨⟨l, H, c⟩, ⟨[], rfl, fun r hr => (by cases hr), ⟨⟨rfl, fun _ => rfl⟩, fun _ => Iff.rfl⟩, .nil, Nat.le_refl _, fun r hr => (by cases hr), .nil⟩, h⟩

theorem UOK.cons {m : Nat} {d : Option Nat} {args : List (Nat × AV)} {hin hout : AHeap} {r : AV} {o : UOut} {ao : AOper} (hget : aops[k]? = some ao) (hdst : ao.dst = d) (huse : ∀ t x, lk args t = some x → t ∈ usesO ao)
    (hargs : ∀ t x, lk args t = some x → lk l t = some x) (hd : dstOK d N = true) (hn : newOK c hin hout = true) (hok : RecOK P aops ⟨k, d, args, hin, hout, r⟩) (hsub : ∀ x ∈ hin, x ∈ H) (hF : nodupH hout = true) {q : Bool} (hq : q = true → hin = hout)
    (h : UOK P aops N (k + 1) m (topK c hout) (putL d r l) (appK hout (restK hin hout H)) T o) : UOK P aops N k (m + 1) c l H (⟨hin.keys ++ hout.keys, q⟩ :: T) o := by
  obtain ⟨rs, r1, r2, r3, r4, r5, r6, r7⟩ := h
  obtain ⟨t1, t2⟩ := topK_le (c := c) (H := hout)
  have hnew : ∀ x ∈ newLab ⟨k, d, args, hin, hout, r⟩, c ≤ x ∧ x < topK c hout := by
    intro x hx
    obtain ⟨h1, h2⟩ := mem_newLab.1 hx
    refine ⟨?_, t2 x h1⟩
    rcases newOK_iff hn x h1 with h | h
    · exact h
    · exact absurd h h2
  have e1 : (AAct.put ⟨N, l⟩ d r) = ⟨N, putL d r l⟩ := by cases d <;> rfl
  have e2 : stepH ⟨k, d, args, hin, hout, r⟩ H = appK hout (restK hin hout H) := by rw [appK_eq, restK_eq]; rfl
  refine ⟨⟨k, d, args, hin, hout, r⟩ :: rs, by simp [r1, List.range'], fun x hx => ?_, ⟨⟨⟨hargs, fun t ht => ?_⟩, hsub, nodupH_fun hF⟩, by rw [e1, e2]; exact r3⟩, .cons ⟨fun x hx => hx, hq⟩ r4, by omega, fun x hx y hy => ?_, ?_⟩
  · rcases List.mem_cons.1 hx with rfl | hx
    · exact ⟨hok, ao, hget, hdst, huse⟩
    · exact r2 x hx
  · dsimp only at ht
    subst ht
    exact Nat.le_of_ble_eq_true hd
  · rcases List.mem_cons.1 hx with rfl | hx
    · have := hnew y hy; omega
    · have := r6 x hx y hy; omega
  · refine List.pairwise_cons.2 ⟨fun x hx y hy hy' => ?_, r7⟩
    have := (hnew y hy).2
    have := (r6 x hx y hy').1
    omega

/-- one operation -/
theorem RegU.op {d : Option Nat} {op : AOp} {g : Option (Nat × Bool)} {af : List Nat} {v v' : AV} {hin hout H' : AHeap} {c' : Nat} {q : Bool} (hg : gOn g (pickL l (usesO ⟨d, op, g, af⟩)) = some true)
    (ht : AOpT P op (pickL l (usesO ⟨d, op, g, af⟩)) hin v hout) (hd : dstOK d N = true) (hsub : ∀ x ∈ hin, x ∈ H) (hn : newOK c hin hout = true) (hF : nodupH hout = true) (hq : q = true → hin = hout) (hv : v = v')
    (hH : appK hout (restK hin hout H) = H') (hc : topK c hout = c') (h : RegU P aops N (k + 1) os c' (putL d v' l) H' T Q) : RegU P aops N k (⟨d, op, g, af⟩ :: os) c l H (⟨hin.keys ++ hout.keys, q⟩ :: T) Q := by
  intro hdrop
  subst hv hH hc
  have hget : aops[k]? = some ⟨d, op, g, af⟩ := by
    have := List.getElem?_drop (xs := aops) (i := k) (j := 0)
    rw [hdrop] at this
    simpa using this.symm
  obtain ⟨o, h1, h2⟩ := h (by rw [← List.drop_drop, hdrop]; rfl)
  exact ⟨o, UOK.cons hget rfl (fun t x hx => (pickL_some hx).2) (fun t x hx => (pickL_some hx).1) hd hn ⟨_, hget, rfl, .inl ⟨hg, ht⟩⟩ hsub hF hq h1, h2⟩
/-- one that is not wanted -/
theorem RegU.no {d : Option Nat} {op : AOp} {g : Option (Nat × Bool)} {af : List Nat} (hg : gOn g (pickL l (usesO ⟨d, op, g, af⟩)) = some false) (hd : dstOK d N = true)
    (h : RegU P aops N (k + 1) os c (putL d (.tup []) l) H T Q) : RegU P aops N k (⟨d, op, g, af⟩ :: os) c l H (⟨[], true⟩ :: T) Q := by
  intro hdrop
  have hget : aops[k]? = some ⟨d, op, g, af⟩ := by
    have := List.getElem?_drop (xs := aops) (i := k) (j := 0)
    rw [hdrop] at this
    simpa using this.symm
  obtain ⟨o, h1, h2⟩ := h (by rw [← List.drop_drop, hdrop]; rfl)
  have e : appK ([] : AHeap) (restK [] [] H) = H := by
    rw [appK_eq, restK_eq]
    simp [restH, AHeap.keys]
  refine ⟨o, UOK.cons (hin := []) (hout := []) (r := .tup []) hget rfl (fun t x hx => (pickL_some hx).2) (fun t x hx => (pickL_some hx).1) hd rfl ⟨_, hget, rfl, .inr ⟨hg, rfl, rfl, rfl⟩⟩ (fun x hx => by cases hx) rfl (fun _ => rfl) ?_, h2⟩
  rw [e]
  exact h1

variable {op : AOp} {g : Option (Nat × Bool)} {af : List Nat} {t : Nat}
theorem restK_nil (H : AHeap) : appK ([] : AHeap) (restK [] [] H) = H := by
  rw [appK_eq, restK_eq]
  simp [restH, AHeap.keys]
/-- it only computes -/
theorem RegU.p1 {v v' : AV} {s : Prop} (hg : gOn g (pickL l (usesO ⟨some t, op, g, af⟩)) = some true) (h : evOp false 0 (evA (pickL l (usesO ⟨some t, op, g, af⟩))) H op = some ⟨v, [], [], s⟩) (hs : s) (hd : Nat.blt t N = true) (hv : v = v')
    (hn : RegU P aops N (k + 1) os c ((t, v') :: l) H T Q) : RegU P aops N k (⟨some t, op, g, af⟩ :: os) c l H (⟨[], true⟩ :: T) Q :=
  RegU.op (hin := []) (hout := []) hg (evOp_ok h hs) hd (fun x hx => by cases hx) rfl rfl (fun _ => rfl) hv (restK_nil H) rfl hn
theorem RegU.p0 {v : AV} (hg : gOn g (pickL l (usesO ⟨some t, op, g, af⟩)) = some true) (h : evOp false 0 (evA (pickL l (usesO ⟨some t, op, g, af⟩))) H op = some ⟨v, [], [], True⟩) (hd : Nat.blt t N = true)
    (hn : RegU P aops N (k + 1) os c ((t, v) :: l) H T Q) : RegU P aops N k (⟨some t, op, g, af⟩ :: os) c l H (⟨[], true⟩ :: T) Q := RegU.p1 hg h trivial hd rfl hn
/-- it reads an object -/
theorem RegU.ld {v v' : AV} {s : Prop} {x : Nat × AObj} (hg : gOn g (pickL l (usesO ⟨some t, op, g, af⟩)) = some true) (h : evOp false 0 (evA (pickL l (usesO ⟨some t, op, g, af⟩))) H op = some ⟨v, [x], [x], s⟩) (hs : s) (hd : Nat.blt t N = true) (hv : v = v')
    (hH : appK [x] (restK [x] [x] H) = H) (hn : newOK c [x] [x] = true) (hc : topK c [x] = c)
    (hn' : RegU P aops N (k + 1) os c ((t, v') :: l) H T Q) : RegU P aops N k (⟨some t, op, g, af⟩ :: os) c l H (⟨AHeap.keys [x] ++ AHeap.keys [x], true⟩ :: T) Q :=
  RegU.op (hin := [x]) (hout := [x]) hg (evOp_ok h hs) hd (fun y hy => by rw [← hH]; rw [appK_eq]; exact List.mem_append.2 (.inl hy)) hn rfl (fun _ => rfl) hv hH hc hn'
/-- whatever it does -/
theorem RegU.ev {d : Option Nat} {own : Bool} {v v' : AV} {s : Prop} {hin hout H' : AHeap} {c' : Nat} (hg : gOn g (pickL l (usesO ⟨d, op, g, af⟩)) = some true) (h : evOp own c (evA (pickL l (usesO ⟨d, op, g, af⟩))) H op = some ⟨v, hin, hout, s⟩) (hs : s)
    (hd : dstOK d N = true) (hn : newOK c hin hout = true) (hF : nodupH hout = true) (hv : v = v') (hH : appK hout (restK hin hout H) = H') (hc : topK c hout = c')
    (hn' : RegU P aops N (k + 1) os c' (putL d v' l) H' T Q) : RegU P aops N k (⟨d, op, g, af⟩ :: os) c l H (⟨hin.keys ++ hout.keys, false⟩ :: T) Q :=
  RegU.op hg (evOp_ok h hs) hd (evOp_hin h) hn hF (fun h => by cases h) hv hH hc hn'
/-- arguments, one by one -/
inductive SubL : List AV → List AV → Prop
  | nil : SubL [] []
  | cons {x y xs ys} : Sub x y → SubL xs ys → SubL (x :: xs) (y :: ys)
theorem SubL.refl : ∀ l : List AV, SubL l l
  | [] => .nil
  | _ :: r => .cons (.refl _) (SubL.refl r)
theorem SubL.get : ∀ {xs ys : List AV}, SubL xs ys → xs.length = ys.length ∧ ∀ j (h1 : j < xs.length) (h2 : j < ys.length), Sub xs[j] ys[j]
  | _, _, .nil => ⟨rfl, fun j h1 => by simp at h1⟩
  | _, _, .cons h hs => by
    obtain ⟨a, b⟩ := SubL.get hs
    refine ⟨by simp [a], fun j h1 h2 => ?_⟩
    cases j with
    | zero => exact h
    | succ j => exact b j (by simpa using h1) (by simpa using h2)
/-- a call -/
theorem RegU.call {d : Option Nat} {gg : Arg} {as : List Arg} {fv : AV} {vs ws ys : List AV} {f : FuncId} {r r' : AV} {hin hout H' : AHeap} {c' : Nat} {q : Bool} (hcall : ACalls P f ys hin r hout)
    (hg : gOn g (pickL l (usesO ⟨d, .call gg as, g, af⟩)) = some true) (hf : evA (pickL l (usesO ⟨d, .call gg as, g, af⟩)) gg = some fv) (has : allAV (evA (pickL l (usesO ⟨d, .call gg as, g, af⟩))) as = some vs) (hco : callOf fv vs = some (f, ws)) (hsub : SubL ws ys)
    (hr : Sub r r') (hq : q = true → hin = hout) (hd : dstOK d N = true) (hin' : ∀ x ∈ hin, lkH H x.1 = some x.2) (hn : newOK c hin hout = true) (hF : nodupH hout = true) (hH : appK hout (restK hin hout H) = H') (hc : topK c hout = c')
    (hn' : RegU P aops N (k + 1) os c' (putL d r' l) H' T Q) : RegU P aops N k (⟨d, .call gg as, g, af⟩ :: os) c l H (⟨hin.keys ++ hout.keys, q⟩ :: T) Q := by
  have h1 := (hcall.args hsub.get.1 hsub.get.2).res hr
  refine RegU.op hg ?_ hd (fun x hx => lkH_mem (hin' x hx)) hn hF hq rfl hH hc hn'
  unfold callOf at hco
  split at hco <;> cases hco
  · exact AOpT.call hf has h1
  · exact AOpT.callC hf has h1
/-- a call on data alone -/
theorem RegU.call0 {gg : Arg} {as : List Arg} {fv : AV} {vs ws ys : List AV} {f : FuncId} {r : AV} (hcall : ACalls P f ys [] r [])
    (hg : gOn g (pickL l (usesO ⟨some t, .call gg as, g, af⟩)) = some true) (hf : evA (pickL l (usesO ⟨some t, .call gg as, g, af⟩)) gg = some fv) (has : allAV (evA (pickL l (usesO ⟨some t, .call gg as, g, af⟩))) as = some vs) (hco : callOf fv vs = some (f, ws)) (hsub : SubL ws ys)
    (hd : Nat.blt t N = true) (hn' : RegU P aops N (k + 1) os c ((t, r) :: l) H T Q) : RegU P aops N k (⟨some t, .call gg as, g, af⟩ :: os) c l H (⟨[], true⟩ :: T) Q :=
  RegU.call (hin := []) (hout := []) hcall hg hf has hco hsub (.refl _) (fun _ => rfl) hd (fun x hx => by cases hx) rfl rfl (restK_nil H) rfl hn'

/-! ### the region as a whole -/
def disjL (a b : List Nat) : Bool := a.all fun x => !memN x b
def reachB (aops : List AOper) : Nat → Nat → Nat → Bool
  | 0, _, _ => false
  | f + 1, i, j => match aops[i]? with
    | some r => memN j r.after || r.after.any fun q => Nat.blt j q && reachB aops f q j
    | none => false
def indepT : List Tk → List AOper → Bool := fun T aops =>
  (List.range aops.length).all fun i => match aops[i]?, T[i]? with
    | some r, some tr => (r.after.all fun j => Nat.blt j i) && (List.range i).all fun j => match aops[j]?, T[j]? with
      | some p, some tp => memN j r.after || (apartA p r && (disjL tp.lab tr.lab || (tp.quiet && tr.quiet))) || reachB aops 12 i j
      | _, _ => false
    | _, _ => false

inductive ClA (aops : List AOper) : Nat → Nat → Prop
  | one {i j : Nat} {r : AOper} (hr : aops[i]? = some r) (h : j ∈ r.after) : ClA aops i j
  | tr {i q j : Nat} {r : AOper} (hr : aops[i]? = some r) (h : q ∈ r.after) (hq : ClA aops q j) : ClA aops i j
theorem reachB_ok {aops : List AOper} : ∀ {f i j : Nat}, reachB aops f i j = true → ClA aops i j
  | 0, _, _, h => by cases h
  | f + 1, i, j, h => by
    simp only [reachB] at h
    split at h
    · rename_i r hr
      simp only [Bool.or_eq_true, List.any_eq_true, Bool.and_eq_true] at h
      rcases h with h | ⟨q, hq, _, h⟩
      · exact .one hr (memN_iff.1 h)
      · exact .tr hr hq (reachB_ok h)
    · cases h
theorem TkL.len : ∀ {T : List Tk} {rs : List Rec}, TkL T rs → T.length = rs.length
  | _, _, .nil => rfl
  | _, _, .cons _ h => by simp [TkL.len h]
theorem TkL.get : ∀ {T : List Tk} {rs : List Rec}, TkL T rs → ∀ (i : Nat) (t : Tk) (r : Rec), T[i]? = some t → rs[i]? = some r → TkR t r
  | _, _, .nil, i, t, r, h, _ => by simp at h
  | _, _, .cons h hs, i, t, r, h1, h2 => by
    cases i with
    | zero => simp at h1 h2; subst h1 h2; exact h
    | succ i => exact TkL.get hs i t r (by simpa using h1) (by simpa using h2)
end

section
variable {P : Program} {aops : List AOper} {ro : Option Nat} {N m n : Nat} {l : List (Nat × AV)} {H : AHeap} {T : List Tk} {Q : Exit → AAct → AHeap → Nat → Prop}

theorem reg_end {rs' : List Rec} {ops : Array Oper} {o : UOut} {w0 : World} (hm : m ≤ n) (hok : ∀ r ∈ rs', RecOK P (ops.toList.map (compOper P ops)) r) (hch : hchain rs' ⟨N, l⟩ H ⟨N, o.l⟩ o.H) (hno : n ≤ o.c)
    (hnew : ∀ r ∈ rs', ∀ x ∈ newLab r, n ≤ x ∧ x < o.c) (hpw : rs'.Pairwise fun p r => ∀ x ∈ newLab p, x ∉ newLab r) (hQ : Q .normal ⟨N, o.l⟩ o.H o.c) {S : Seal} {i : Emb} {w : World} {ca : Act} (ha : ActRel S i ⟨N, l⟩ ca) (hh : HeapRel S i H w)
    (hd : ∀ l b, i l = some b → l < n) (hw : ∀ {S' i' H' w'}, Tr S i H w S' i' H' w' → Tr S i H w0 S' i' H' w') :
    wpOpsIn (fen ro) 0 P ops (fun ex ca' w' => ∃ a' H' n' S' i', Q ex a' H' n' ∧ ActRel S' i' a' ca' ∧ Marks w0 w' ca.defers ca'.defers ∧ HeapRel S' i' H' w' ∧ (∀ l b, i' l = some b → l < n') ∧
      (∀ l, l < m → i' l = i l) ∧ Tr S i H w0 S' i' H' w') (rs'.map (·.idx)) ca w := by
  obtain ⟨a'', H'', c1, c2, c3, c4⟩ := h_chain hch
  refine recs_ok n rs' _ _ a'' H'' [] hok c1 (fresh_of (fun r hr x hx => ⟨(hnew r hr x hx).1, by simp⟩) hpw) S i w ca ha hh (fun l b hl => .inl (hd l b hl)) ?_
  intro S' i' w' ca' hact hdef hhp hle hdom hag htr
  refine ⟨⟨N, o.l⟩, o.H, o.c, S', i', hQ, ⟨hact.size.trans c3, fun t x hx => hact.get t x ((c4 t).symm.trans hx)⟩, .of_eq hdef, hhp.perm fun x hx => (c2 x).1 hx, fun l b hl => ?_, fun l hl => hag l (by omega),
    hw (htr.perm (fun _ h => h) (fun x hx => (c2 x).1 hx))⟩
  rcases hdom l b hl with h | h | h
  · omega
  · cases h
  · obtain ⟨r, hr, hx⟩ := List.mem_flatMap.1 h
    exact (hnew r hr l hx).2

/-- A REGION -/
theorem AWc.reg {draw : Bool} (hmix : P.follows .mixedOrders = true) (hm : m ≤ n) (hH : nodupH H = true) (h : RegU P aops N 0 aops n l H T (Q .normal)) (hT : draw = true → indepT T aops = true) : AWc P ro m (.region draw aops) ⟨N, l⟩ H n Q := by
  obtain ⟨o, ⟨rs, r1, r2, r3, r4, r5, r6, r7⟩, hQ⟩ := h rfl
  intro cc hcc
  cases cc <;> simp only [compCode] at hcc
  case region id ops dr =>
    injection hcc with h1 h2
    subst h1 h2
    have hlen : (ops.toList.map (compOper P ops)).length = ops.size := by simp
    cases dr with
    | false =>
      intro S i w ca ha hh hd
      refine wpIn_region ?_
      have hsz : ops.size = (ops.toList.map (compOper P ops)).length := by simp
      rw [hsz, List.range_eq_range', ← r1]
      exact reg_end hm (fun r hr => (r2 r hr).1) r3 r5 r6 r7 hQ ha hh hd fun t => t
    | true =>
      have hind := hT rfl
      have hidx : ∀ r ∈ rs, r.idx < ops.size := by
        intro r hr
        have : r.idx ∈ rs.map (·.idx) := List.mem_map.2 ⟨r, hr, rfl⟩
        rw [r1] at this
        simpa [hlen, List.mem_range'_1] using this
      have hmemall : ∀ i, i < ops.size → ∃ r ∈ rs, r.idx = i := by
        intro i hi
        have : i ∈ rs.map (·.idx) := by rw [r1]; simpa [hlen, List.mem_range'_1] using hi
        obtain ⟨r, hr, he⟩ := List.mem_map.1 this
        exact ⟨r, hr, he⟩
      have hsort : rs.Pairwise (fun p r => p.idx < r.idx) := by
        have : (rs.map (·.idx)).Pairwise (· < ·) := by rw [r1]; exact List.pairwise_lt_range'
        exact List.pairwise_map.1 this
      have hrl : rs.length = ops.size := by
        have := congrArg List.length r1
        simpa [hlen] using this
      have hat : ∀ r ∈ rs, rs[r.idx]? = some r := by
        intro r hr
        obtain ⟨j, hj, rfl⟩ := List.getElem_of_mem hr
        have : (rs.map (·.idx))[j]? = some j := by
          rw [r1]
          have : j < ops.size := by omega
          simp [hlen, this]
        simp only [List.getElem?_map, List.getElem?_eq_getElem hj, Option.map_some] at this
        injection this with this
        rw [this]
        exact List.getElem?_eq_getElem hj
      have hcheck : ∀ r ∈ rs, ∀ ar, (ops.toList.map (compOper P ops))[r.idx]? = some ar → (∀ j ∈ ar.after, j < r.idx) ∧ ∀ p ∈ rs, ∀ ap, p.idx < r.idx → (ops.toList.map (compOper P ops))[p.idx]? = some ap → ClA (ops.toList.map (compOper P ops)) r.idx p.idx ∨ (apartA ap ar = true ∧ labApart p r) := by
        intro r hr ar har
        have hi : r.idx < (ops.toList.map (compOper P ops)).length := (List.getElem?_eq_some_iff.1 har).1
        have h0 := List.all_eq_true.1 hind r.idx (List.mem_range.2 hi)
        rw [har] at h0
        have hTi : ∃ tr, T[r.idx]? = some tr := by
          have : r.idx < T.length := by rw [r4.len]; have := hidx r hr; omega
          exact ⟨_, List.getElem?_eq_getElem this⟩
        obtain ⟨tr, htr⟩ := hTi
        rw [htr] at h0
        simp only [Bool.and_eq_true] at h0
        refine ⟨fun j hj => Nat.le_of_ble_eq_true (List.all_eq_true.1 h0.1 j hj), fun p hp ap hlt hap => ?_⟩
        have h3 := List.all_eq_true.1 h0.2 p.idx (List.mem_range.2 hlt)
        rw [hap] at h3
        have hTp : ∃ tp, T[p.idx]? = some tp := by
          have : p.idx < T.length := by rw [r4.len]; have := hidx p hp; omega
          exact ⟨_, List.getElem?_eq_getElem this⟩
        obtain ⟨tp, htp⟩ := hTp
        rw [htp] at h3
        simp only [Bool.or_eq_true, Bool.and_eq_true] at h3
        rcases h3 with (h3 | h3) | h3
        · exact .inl (.one har (memN_iff.1 h3))
        case inr => exact .inl (reachB_ok h3)
        obtain ⟨h4, h5⟩ := h3
        refine .inr ⟨h4, ?_⟩
        obtain ⟨pa, pb⟩ := r4.get p.idx tp p htp (hat p hp)
        obtain ⟨ra, rb⟩ := r4.get r.idx tr r htr (hat r hr)
        rcases h5 with h5 | h5
        · refine .inl fun x hx hx' => ?_
          have := List.all_eq_true.1 h5 x (pa x hx)
          rw [memN_iff.2 (ra x hx')] at this
          cases this
        · exact .inr ⟨pb h5.1, rb h5.2⟩
      have haft : ∀ i r, (ops.toList.map (compOper P ops))[i]? = some r → ∀ j, j ∈ aft ops i ↔ j ∈ r.after := by
        intro i r hr j
        simp only [List.getElem?_map, Option.map_eq_some_iff] at hr
        obtain ⟨o, ho, rfl⟩ := hr
        have ho' : ops[i]? = some o := by simpa using ho
        simp only [aft, ho', compOper, List.mem_eraseDups]
      have hclA : ∀ {i j}, ClA (ops.toList.map (compOper P ops)) i j → Cl ops i j := by
        intro i j h
        induction h with
        | one hr hj => exact .one ((haft _ _ hr _).2 hj)
        | tr hr hq _ ih => exact .tr ((haft _ _ hr _).2 hq) ih
      intro S i w ca ha hh hd
      refine wpIn_region_draw fun t => ?_
      rw [hmix]
      have hsch : Region.schedule true ops t = Region.linearise.go .any ops ops.size t (Array.replicate ops.size false) [] := rfl
      rw [hsch]
      obtain ⟨rs', k1, k2, k3⟩ := lin_okH (ops := ops) ops.size t (Array.replicate ops.size false) rs ⟨N, l⟩ H (nodupH_fun hH) (fun i hi => by simp [Array.getD] at hi) (by omega) (by simp) (fun i hi => by simp [hi]; exact hmemall i hi) hidx hsort (by
        refine List.Pairwise.imp_of_mem ?_ hsort
        intro p r hp hr hlt
        obtain ⟨ap, ap1, ap2, ap3⟩ := (r2 p hp).2
        obtain ⟨ar, ar1, ar2, ar3⟩ := (r2 r hr).2
        rcases (hcheck r hr ar ar1).2 p hp ap hlt ap1 with h | ⟨h, hlab⟩
        · exact .inl (hclA h)
        · right
          have hno : ∀ {ao : AOper} {q : Rec}, (∀ t x, lk q.args t = some x → t ∈ usesO ao) → ∀ t, memN t (usesO ao) = false → lk q.args t = none := by
            intro ao q hq t ht
            cases hx : lk q.args t with
            | none => rfl
            | some x => rw [memN_iff.2 (hq t x hx)] at ht; cases ht
          simp only [apartA, Bool.and_eq_true] at h
          obtain ⟨h1, h2⟩ := h
          refine ⟨⟨fun t ht => ?_, fun t ht => ?_⟩, hlab⟩
          · rw [← ap2] at ht
            rw [ht] at h1
            simp only [Bool.and_eq_true, Bool.not_eq_true'] at h1
            refine ⟨hno ar3 t h1.1, fun hr' => ?_⟩
            rw [← ar2] at hr'
            rw [hr'] at h1
            have := h1.2
            simp at this
          · rw [← ar2] at ht
            rw [ht] at h2
            simp only [Bool.not_eq_true'] at h2
            exact hno ap3 t h2) (fun r hr j hj => by
        obtain ⟨ar, ar1, ar2, ar3⟩ := (r2 r hr).2
        exact (hcheck r hr ar ar1).1 j ((haft _ _ ar1 j).1 hj)) r3
      rw [← k1]
      have hmem : ∀ r ∈ rs', r ∈ rs := fun r hr => k2.mem_iff.1 hr
      refine reg_end (w0 := w) hm (fun r hr => (r2 r (hmem r hr)).1) k3 r5 (fun r hr => r6 r (hmem r hr)) ?_ hQ ha (hh.drawn _) hd fun t => t.drawn
      exact (k2.pairwise_iff (fun {p r} hpr x hx hx' => hpr x hx' hx)).2 r7
  all_goals first | (split at hcc <;> cases hcc) | cases hcc
end
end Go.Proofs.Abs
