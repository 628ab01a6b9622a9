/- A region is run: its evaluation at once, calls by what is known of them. -/
import Derived.Test.YtgimibhacllcpaaAbs17
namespace Go.Proofs.Abs
open Go
section
variable {P : Program}

theorem evOp_hin {args : List (Nat × AV)} {H : AHeap} {own : Bool} {nl : Nat} {q : Out} {ao : AOp} (h : evOp own nl (evA args) H ao = some q) : ∀ y ∈ q.hin, y ∈ H := by
  have hnil : ∀ {q : Out}, q.hin = [] → ∀ y ∈ q.hin, y ∈ H := fun h y hy => by rw [h] at hy; cases hy
  have hone : ∀ {q : Out} {l : Nat} {x : AObj}, lkH H l = some x → q.hin = [(l, x)] → ∀ y ∈ q.hin, y ∈ H := fun h h' y hy => by
    rw [h'] at hy
    cases List.mem_singleton.1 hy
    exact lkH_mem h
  cases ao with
  | load x z g =>
    simp only [evOp, Option.bind_eq_some_iff] at h
    obtain ⟨y, _, h⟩ := h
    exact loadA_hin h
  | store x v z =>
    simp only [evOp] at h
    split at h <;> first | cases h | skip
    split at h <;> first | cases h | skip
    exact hone (by assumption) rfl
  | app x y z b zz =>
    simp only [evOp] at h
    split at h <;> first | cases h | skip
    · cases own <;> cases h <;> exact hnil rfl
    · generalize Nat.beq z _ = bb at h
      cases bb
      · cases h
      · simp only [cond_true] at h
        split at h <;> first | cases h | skip
        exact hone (by assumption) rfl
    · generalize Nat.beq z _ = bb at h
      cases bb
      · cases h
      · simp only [cond_true] at h
        split at h <;> first | cases h | skip
        exact hone (by assumption) rfl
  | bs2bs x =>
    simp only [evOp] at h
    split at h <;> first | cases h | skip
    split at h <;> first | cases h | skip
    split at h <;> first | cases h | skip
    exact hone (by assumption) rfl
  | bslice n z zz ps =>
    simp only [evOp] at h
    cases hb : natListBeq (ps.map (·.1)) (List.range n) <;> rw [hb] at h
    · cases h
    · simp only [cond_true] at h
      split at h <;> first | cases h | skip
      cases own
      · simp only [cond_false] at h
        split at h <;> cases h
        exact hnil rfl
      · simp only [cond_true] at h
        split at h <;> cases h
        exact hnil rfl
  | mksl l c z b zz =>
    simp only [evOp] at h
    split at h <;> first | cases h | skip
    cases own <;> cases h <;> exact hnil rfl
  | iaddr x i z =>
    simp only [evOp] at h
    split at h
    · generalize Nat.beq z _ = bb at h
      cases bb <;> cases h
      exact hnil rfl
    · simp only [Option.bind_eq_some_iff, out] at h
      obtain ⟨_, _, h⟩ := h
      cases h
      exact hnil rfl
    · cases h
  | slc x lo hi mx z =>
    cases mx with
    | some m => cases h
    | none =>
      simp only [evOp] at h
      split at h <;> first | cases h | skip
      · generalize Nat.beq z _ = bb at h
        cases bb
        · cases h
        · simp only [cond_true, Option.bind_eq_some_iff, out] at h
          obtain ⟨_, _, h⟩ := h
          cases h
          exact hnil rfl
      · split at h
        · simp only [Option.bind_eq_some_iff, out] at h
          obtain ⟨_, _, h⟩ := h
          cases h
          exact hnil rfl
        · simp only [Option.bind_eq_some_iff, out] at h
          obtain ⟨_, _, h⟩ := h
          cases h
          exact hnil rfl
      · simp only [Option.bind_eq_some_iff, out] at h
        obtain ⟨_, _, _, _, h⟩ := h
        cases h
        exact hnil rfl
  | fld x o z g =>
    simp only [evOp] at h
    split at h <;> first | cases h | skip
    cases g
    · simp only [cond_false] at h
      split at h <;> cases h
      exact hnil rfl
    · cases h
      exact hnil rfl
  | _ =>
    simp only [evOp, out] at h
    repeat' (first | cases h | (simp only [Option.bind_eq_some_iff] at h; obtain ⟨_, _, h⟩ := h) | split at h)
    all_goals first | exact hnil rfl | skip

theorem cells_int {k : IntKind} {n : Int} : (D.int k n).cells = [.int k n] := rfl
theorem cells_bool {b : Bool} : (D.bool b).cells = [.bool b] := rfl
theorem cells_str {s : List UInt8} : (D.str s).cells = [.str s] := rfl
theorem cells_sl {l : List D} : (D.sl l).cells = [.sl l] := rfl
theorem cells_agg {l : List D} : (D.agg l).cells = l := rfl
theorem cells_fn {f : FuncId} : (D.fn f).cells = [.fn f] := rfl
theorem cells_nilp : D.nilp.cells = [.nilp] := rfl
theorem cells_nilf : D.nilf.cells = [.nilf] := rfl
theorem cells_nili : D.nili.cells = [.nili] := rfl

/-- what a call comes to, as it is said -/
structure Cres where
  r : AV
  hin : AHeap := []
  hout : AHeap := []

def dstOK (d : Option Nat) (N : Nat) : Bool := match d with
  | none => true
  | some t => Nat.blt t N
def putL (d : Option Nat) (x : AV) (l : List (Nat × AV)) : List (Nat × AV) := match d with
  | none => l
  | some t => (t, x) :: l
def hasK (l : Nat) : AHeap → Bool
  | [] => false
  | (k, _) :: r => bif Nat.beq k l then true else hasK l r
def topK (c : Nat) : AHeap → Nat
  | [] => c
  | (l, _) :: r => topK (bif Nat.blt l c then c else l + 1) r
def newOK (c : Nat) (hin : AHeap) : AHeap → Bool
  | [] => true
  | (l, _) :: r => bif (bif Nat.ble c l then true else hasK l hin) then newOK c hin r else false
def restK (hin hout : AHeap) : AHeap → AHeap
  | [] => []
  | (l, o) :: r => bif hasK l hin then restK hin hout r else bif hasK l hout then restK hin hout r else (l, o) :: restK hin hout r
def appK : AHeap → AHeap → AHeap
  | [], H => H
  | x :: r, H => x :: appK r H

theorem hasK_iff {l : Nat} {H : AHeap} : hasK l H = true ↔ l ∈ H.keys := by
  induction H with
  | nil => simp [hasK, AHeap.keys]
  | cons p r ih =>
    obtain ⟨k, o⟩ := p
    simp only [hasK, AHeap.keys, List.map_cons, List.mem_cons]
    cases hb : Nat.beq k l with
    | true => simp [Nat.eq_of_beq_eq_true hb]
    | false =>
      have : ¬ l = k := fun h => by rw [h, Nat.beq_refl] at hb; cases hb
      simp only [cond_false, this, false_or]
      exact ih
theorem topK_le {H : AHeap} : ∀ {c : Nat}, c ≤ topK c H ∧ ∀ l ∈ H.keys, l < topK c H := by
  induction H with
  | nil => intro c; simp [topK, AHeap.keys]
  | cons p r ih =>
    obtain ⟨k, o⟩ := p
    intro c
    simp only [topK, AHeap.keys, List.map_cons, List.mem_cons]
    obtain ⟨h1, h2⟩ := ih (c := bif Nat.blt k c then c else k + 1)
    have hk : c ≤ (bif Nat.blt k c then c else k + 1) ∧ k < (bif Nat.blt k c then c else k + 1) := by
      cases hb : Nat.blt k c with
      | true => simp only [cond_true]; exact ⟨Nat.le_refl _, Nat.le_of_ble_eq_true hb⟩
      | false =>
        simp only [cond_false]
        have : ¬ k < c := by
          intro h
          have : Nat.blt k c = true := Nat.ble_eq_true_of_le h
          rw [hb] at this; cases this
        omega
    refine ⟨by omega, ?_⟩
    rintro l (rfl | hl)
    · omega
    · exact h2 l hl
theorem newOK_iff {c : Nat} {hin H : AHeap} (h : newOK c hin H = true) : ∀ l ∈ H.keys, c ≤ l ∨ l ∈ hin.keys := by
  induction H with
  | nil => intro l hl; cases hl
  | cons p r ih =>
    obtain ⟨k, o⟩ := p
    simp only [newOK] at h
    cases hb : (bif Nat.ble c k then true else hasK k hin) with
    | false => rw [hb] at h; cases h
    | true =>
      rw [hb] at h
      intro l hl
      simp only [AHeap.keys, List.map_cons, List.mem_cons] at hl
      rcases hl with rfl | hl
      · cases hc : Nat.ble c l with
        | true => exact .inl (Nat.le_of_ble_eq_true hc)
        | false => rw [hc] at hb; exact .inr (hasK_iff.1 hb)
      · exact ih h l hl
theorem appK_eq {A H : AHeap} : appK A H = A ++ H := by
  induction A with
  | nil => rfl
  | cons x r ih => simp [appK, ih]
theorem restK_eq {hin hout H : AHeap} : restK hin hout H = restH (hin.keys ++ hout.keys) H := by
  induction H with
  | nil => rfl
  | cons p r ih =>
    obtain ⟨k, o⟩ := p
    simp only [restK]
    have hmem : ∀ b, (hin.keys ++ hout.keys).elem k = b → restH (hin.keys ++ hout.keys) ((k, o) :: r) = bif b then restH (hin.keys ++ hout.keys) r else (k, o) :: restH (hin.keys ++ hout.keys) r := by
      intro b hb
      simp only [restH, List.filter_cons, hb]
      cases b <;> rfl
    cases h1 : hasK k hin with
    | true =>
      rw [hmem true (by simp [hasK_iff.1 h1])]
      exact ih
    | false =>
      have h1' : k ∉ hin.keys := fun h => by rw [hasK_iff.2 h] at h1; cases h1
      cases h2 : hasK k hout with
      | true =>
        rw [hmem true (by simp [hasK_iff.1 h2])]
        exact ih
      | false =>
        have h2' : k ∉ hout.keys := fun h => by rw [hasK_iff.2 h] at h2; cases h2
        rw [hmem false (by simp [h1', h2'])]
        simp [ih]

structure RunOut where
  l : List (Nat × AV)
  H : AHeap
  c : Nat
  side : Prop

/-- after one operation -/
def stepR (N : Nat) (d : Option Nat) (c : Nat) (l : List (Nat × AV)) (H : AHeap) (r : AV) (hin hout : AHeap) (k : Nat → List (Nat × AV) → AHeap → Option RunOut) : Option RunOut :=
  bif dstOK d N then (bif newOK c hin hout then k (topK c hout) (putL d r l) (appK hout (restK hin hout H)) else none) else none
def addS (s : Prop) : Option RunOut → Option RunOut
  | some o => some ⟨o.l, o.H, o.c, s ∧ o.side⟩
  | none => none

def callOf : AV → List AV → Option (FuncId × List AV)
  | .d (.fn f), vs => some (f, vs)
  | .fn f cs, vs => some (f, vs ++ cs)
  | _, _ => none

def runReg (P : Program) (N : Nat) (own : Nat → Bool) : List AOper → Nat → List Cres → Nat → List (Nat × AV) → AHeap → Option RunOut
  | [], _, _, c, l, H => some ⟨l, H, c, True⟩
  | ⟨d, op, g, _⟩ :: os, k, cs, c, l, H =>
    match gOn g l with
    | none => none
    | some false => stepR N d c l H (.tup []) [] [] fun c l H => runReg P N own os (k + 1) cs c l H
    | some true => match op with
      | .call gg as => (match evA l gg, allAV (evA l) as, cs with
        | some fv, some vs, q :: cs' => (match callOf fv vs with
          | some (f, ws) => addS (ACalls P f ws q.hin q.r q.hout ∧ ∀ x ∈ q.hin, x ∈ H) (stepR N d c l H q.r q.hin q.hout fun c l H => runReg P N own os (k + 1) cs' c l H)
          | none => none)
        | _, _, _ => none)
      | op => (match evOp (own k) c (evA l) H op with
        | some q => addS q.side (stepR N d c l H q.r q.hin q.hout fun c l H => runReg P N own os (k + 1) cs c l H)
        | none => none)

def RegOK (P : Program) (aops : List AOper) (N k m : Nat) (c : Nat) (l : List (Nat × AV)) (H : AHeap) (o : RunOut) : Prop :=
  ∀ n L, n ≤ c → (∀ x ∈ L, x < c) → ∃ rs : List Rec, rs.map (·.idx) = List.range' k m ∧ (∀ r ∈ rs, RecOK P aops r) ∧ chain rs ⟨N, l⟩ H ⟨N, o.l⟩ o.H ∧ freshL n L rs ∧ c ≤ o.c ∧ ∀ x ∈ rs.flatMap newLab, x < o.c

theorem addS_some {s : Prop} {x : Option RunOut} {o : RunOut} (h : addS s x = some o) (hs : o.side) : s ∧ ∃ o', x = some o' ∧ o'.side ∧ o'.l = o.l ∧ o'.H = o.H ∧ o'.c = o.c := by
  unfold addS at h
  split at h
  · cases h
    exact ⟨hs.1, _, rfl, hs.2, rfl, rfl, rfl⟩
  · cases h

theorem step_ok {aops : List AOper} {N k m c : Nat} {d : Option Nat} {l : List (Nat × AV)} {H : AHeap} {r : AV} {hin hout : AHeap} {K : Nat → List (Nat × AV) → AHeap → Option RunOut} {o : RunOut}
    (h : stepR N d c l H r hin hout K = some o) (hok : RecOK P aops ⟨k, d, l, hin, hout, r⟩) (hsub : ∀ x ∈ hin, x ∈ H)
    (hK : ∀ c' l' H', K c' l' H' = some o → RegOK P aops N (k + 1) m c' l' H' o) : RegOK P aops N k (m + 1) c l H o := by
  unfold stepR at h
  cases hd : dstOK d N with
  | false => rw [hd] at h; cases h
  | true =>
    rw [hd] at h
    simp only [cond_true] at h
    cases hn : newOK c hin hout with
    | false => rw [hn] at h; cases h
    | true =>
      rw [hn] at h
      simp only [cond_true] at h
      intro n L hnc hL
      obtain ⟨t1, t2⟩ := topK_le (c := c) (H := hout)
      have hnew : ∀ x ∈ newLab ⟨k, d, l, hin, hout, r⟩, c ≤ x ∧ x < topK c hout := by
        intro x hx
        obtain ⟨h1, h2⟩ := mem_newLab.1 hx
        refine ⟨?_, t2 x h1⟩
        rcases newOK_iff hn x h1 with h | h
        · exact h
        · exact absurd h h2
      obtain ⟨rs, r1, r2, r3, r4, r5, r6⟩ := hK _ _ _ h n (newLab ⟨k, d, l, hin, hout, r⟩ ++ L) (by omega) (fun x hx => by
        rcases List.mem_append.1 hx with hx | hx
        · exact (hnew x hx).2
        · have := hL x hx; omega)
      refine ⟨⟨k, d, l, hin, hout, r⟩ :: rs, by simp [r1, List.range'], fun x hx => ?_, ⟨⟨fun _ _ h => h, hsub, fun t ht => ?_⟩, ?_⟩, ⟨fun x hx => ?_, r4⟩, by omega, fun x hx => ?_⟩
      · rcases List.mem_cons.1 hx with rfl | hx
        · exact hok
        · exact r2 x hx
      · dsimp only at ht
        subst ht
        exact Nat.le_of_ble_eq_true hd
      · have e1 : (AAct.put ⟨N, l⟩ d r) = ⟨N, putL d r l⟩ := by cases d <;> rfl
        have e2 : stepH ⟨k, d, l, hin, hout, r⟩ H = appK hout (restK hin hout H) := by rw [appK_eq, restK_eq]; rfl
        rw [e1, e2]
        exact r3
      · obtain ⟨h1, h2⟩ := hnew x hx
        refine ⟨by omega, fun hx' => ?_⟩
        have := hL x hx'
        omega
      · rcases List.mem_append.1 (by simpa using hx : x ∈ newLab ⟨k, d, l, hin, hout, r⟩ ++ rs.flatMap newLab) with hx | hx
        · have := (hnew x hx).2; omega
        · exact r6 x hx

theorem runReg_ok {aops : List AOper} {N : Nat} {own : Nat → Bool} : ∀ (os pre : List AOper) (cs : List Cres) (c : Nat) (l : List (Nat × AV)) (H : AHeap) (o : RunOut), pre ++ os = aops →
    runReg P N own os pre.length cs c l H = some o → o.side → RegOK P aops N pre.length os.length c l H o
  | [], pre, cs, c, l, H, o, _, h, hs => by
    cases h
    intro n L hn hL
    exact ⟨[], rfl, fun r hr => (by cases hr), ⟨rfl, rfl⟩, trivial, Nat.le_refl _, fun x hx => (by simp at hx)⟩
  | ⟨d, op, g, af⟩ :: os, pre, cs, c, l, H, o, hpre, h, hs => by
    have hget : aops[pre.length]? = some ⟨d, op, g, af⟩ := by rw [← hpre]; simp
    have ih : ∀ (o' : RunOut), o'.side → o'.l = o.l → o'.H = o.H → o'.c = o.c → ∀ cs' c' l' H', runReg P N own os (pre.length + 1) cs' c' l' H' = some o' → RegOK P aops N (pre.length + 1) os.length c' l' H' o' := by
      intro o' hs' e1 e2 e3 cs' c' l' H' h'
      have := runReg_ok (aops := aops) os (pre ++ [⟨d, op, g, af⟩]) cs' c' l' H' o' (by rw [← hpre]; simp) (by simpa using h') hs'
      simpa using this
    have back : ∀ {o' : RunOut} {k m c l H}, o'.l = o.l → o'.H = o.H → o'.c = o.c → RegOK P aops N k m c l H o' → RegOK P aops N k m c l H o := by
      intro o' k m c l H e1 e2 e3 h
      unfold RegOK at *
      rw [e1, e2, e3] at h
      exact h
    simp only [runReg] at h
    split at h
    · cases h
    · rename_i hg
      exact step_ok h ⟨_, hget, rfl, .inr ⟨hg, rfl, rfl, rfl⟩⟩ (fun x hx => by cases hx) fun c' l' H' h' => ih o hs rfl rfl rfl _ c' l' H' h'
    · rename_i hg
      split at h
      · rename_i gg as
        split at h <;> first | cases h | skip
        rename_i fv vs q cs' hfv hvs
        split at h <;> first | cases h | skip
        rename_i f ws hcall
        obtain ⟨⟨h1, h2⟩, o', ho', hs', e1, e2, e3⟩ := addS_some h hs
        refine back e1 e2 e3 (step_ok ho' ⟨_, hget, rfl, .inl ⟨hg, ?_⟩⟩ h2 fun c' l' H' h' => ih o' hs' e1 e2 e3 _ c' l' H' h')
        unfold callOf at hcall
        split at hcall <;> cases hcall
        · exact AOpT.call hfv hvs h1
        · exact AOpT.callC hfv hvs h1
      · split at h <;> first | cases h | skip
        rename_i q hq
        obtain ⟨h1, o', ho', hs', e1, e2, e3⟩ := addS_some h hs
        exact back e1 e2 e3 (step_ok ho' ⟨_, hget, rfl, .inl ⟨hg, evOp_ok hq h1⟩⟩ (evOp_hin hq) fun c' l' H' h' => ih o' hs' e1 e2 e3 _ c' l' H' h')

/-- A REGION IS RUN -/
theorem AWc.run {ro : Option Nat} {m n N : Nat} {aops : List AOper} {l l' : List (Nat × AV)} {H H' : AHeap} {n' : Nat} {s : Prop} {Q : Exit → AAct → AHeap → Nat → Prop} (cs : List Cres) (own : Nat → Bool) (hm : m ≤ n)
    (h : runReg P N own aops 0 cs n l H = some ⟨l', H', n', s⟩) (hs : s) (hQ : Q .normal ⟨N, l'⟩ H' n') : AWc P ro m (.region false aops) ⟨N, l⟩ H n Q := by
  obtain ⟨rs, r1, r2, r3, r4, r5, r6⟩ := runReg_ok aops [] cs n l H _ rfl h hs n [] (Nat.le_refl _) (fun x hx => by cases hx)
  exact .region rs (by rw [r1, List.range_eq_range']; simp) r2 r3 r4 r5 r6 hm hQ
end
end Go.Proofs.Abs
