/- A region whose order is drawn is run, where it only reads. -/
import Derived.Test.YtgimibhacllcpaaAbs20
namespace Go.Proofs.Abs
open Go

def Fun (H : AHeap) : Prop := ∀ x ∈ H, ∀ y ∈ H, x.1 = y.1 → x = y

theorem q_chain {H0 : AHeap} (hF : Fun H0) : ∀ {rs : List Rec} {a a' : AAct} {H : AHeap}, (∀ x, x ∈ H ↔ x ∈ H0) → (∀ r ∈ rs, r.hin = r.hout ∧ ∀ x ∈ r.hin, x ∈ H0) → qchain rs a a' →
    ∃ a'' H'', chain rs a H a'' H'' ∧ (∀ x, x ∈ H'' ↔ x ∈ H0) ∧ a''.n = a'.n ∧ ∀ t, lk a'.l t = lk a''.l t
  | [], a, a', H, hH, _, h => ⟨a, H, ⟨rfl, rfl⟩, hH, h.1.symm, h.2⟩
  | r :: rs, a, a', H, hH, hq, h => by
    obtain ⟨h1, h2⟩ := hq r List.mem_cons_self
    obtain ⟨a'', H'', k1, k2, k3, k4⟩ := q_chain hF (rs := rs) (a := a.put r.dst r.r) (a' := a') (H := stepH r H) (fun x => by
      simp only [stepH, List.mem_append, mem_restH]
      constructor
      · rintro (hx | ⟨hx, _⟩)
        · exact h2 x (h1 ▸ hx)
        · exact (hH x).1 hx
      · intro hx
        by_cases hl : x.1 ∈ r.lab
        · left
          have : ∃ y ∈ r.hin, y.1 = x.1 := by
            rcases List.mem_append.1 hl with hl | hl
            · obtain ⟨o, ho⟩ := mem_keys.1 hl
              exact ⟨_, ho, rfl⟩
            · obtain ⟨o, ho⟩ := mem_keys.1 hl
              exact ⟨(x.1, o), by rw [h1]; exact ho, rfl⟩
          obtain ⟨y, hy, he⟩ := this
          have := hF y (h2 y hy) x hx he
          subst this
          exact h1 ▸ hy
        · exact .inr ⟨(hH x).2 hx, hl⟩) (fun q hq' => hq q (List.mem_cons_of_mem _ hq')) h.2
    exact ⟨a'', H'', ⟨⟨h.1.1, fun x hx => (hH x).2 (h2 x hx), h.1.2⟩, k1⟩, k2, k3, k4⟩

theorem newLab_quiet {r : Rec} (h : r.hin = r.hout) : newLab r = [] := by
  apply List.eq_nil_iff_forall_not_mem.2
  intro l hl
  obtain ⟨h1, h2⟩ := mem_newLab.1 hl
  rw [h] at h2
  exact h2 h1
theorem fresh_quiet {n : Nat} : ∀ {rs : List Rec} {L : List Nat}, (∀ r ∈ rs, r.hin = r.hout) → freshL n L rs
  | [], _, _ => trivial
  | r :: rs, L, h => by
    have := newLab_quiet (h r List.mem_cons_self)
    refine ⟨fun l hl => (by rw [this] at hl; cases hl), fresh_quiet fun q hq => h q (List.mem_cons_of_mem _ hq)⟩

def argsOf : AOp → List Arg
  | .mv x => [x]
  | .pick c a b => [c, a, b]
  | .bin _ x y => [x, y]
  | .beq _ x y => [x, y]
  | .nileq _ _ x y => [x, y]
  | .aggeq _ _ x y => [x, y]
  | .un _ x => [x]
  | .cvi _ x => [x]
  | .bs2s x => [x]
  | .s2bs x => [x]
  | .s2rs x => [x]
  | .i2s x => [x]
  | .ext x _ => [x]
  | .faddr x _ => [x]
  | .fld x _ _ _ => [x]
  | .idx x i => [x, i]
  | .aidx x i _ _ _ => [x, i]
  | .iaddr x i _ => [x, i]
  | .aaddr x i _ _ => [x, i]
  | .ssl x lo hi => x :: (lo.toList ++ hi.toList)
  | .slc x lo hi mx _ => x :: (lo.toList ++ (hi.toList ++ mx.toList))
  | .len x => [x]
  | .slen x => [x]
  | .cap x => [x]
  | .app x y _ _ _ => [x, y]
  | .mm _ x => x
  | .call f x => f :: x
  | .load x _ _ => [x]
  | .build _ ps => ps.map fun p => p.2.2
  | .bslice _ _ _ ps => ps.map fun p => p.2
  | .mksl l c _ _ _ => [l, c]
  | .mkfn _ cs => cs
  | .nilchk x => [x]
  | .store x v _ => [x, v]
  | .box x => [x]
  | .copy x y _ => [x, y]
  | .grow x n _ _ _ => [x, n]
  | .bs2bs x => [x]
  | .alloc _ => []
  | .bad => []
def slots : List Arg → List Nat
  | [] => []
  | .t n :: r => n :: slots r
  | .k _ :: r => slots r
def usesO (o : AOper) : List Nat := match o.guard with
  | some (t, _) => t :: slots (argsOf o.op)
  | none => slots (argsOf o.op)
def pickL (l : List (Nat × AV)) : List Nat → List (Nat × AV)
  | [] => []
  | t :: r => match lk l t with
    | some x => (t, x) :: pickL l r
    | none => pickL l r
theorem pickL_some {l : List (Nat × AV)} : ∀ {ts : List Nat} {t : Nat} {x : AV}, lk (pickL l ts) t = some x → lk l t = some x ∧ t ∈ ts
  | [], t, x, h => by cases h
  | u :: r, t, x, h => by
    simp only [pickL] at h
    split at h
    · rename_i y hy
      simp only [lk] at h
      cases hb : Nat.beq u t with
      | true =>
        rw [hb] at h
        cases h
        cases Nat.eq_of_beq_eq_true hb
        exact ⟨hy, List.mem_cons_self⟩
      | false =>
        rw [hb] at h
        obtain ⟨h1, h2⟩ := pickL_some h
        exact ⟨h1, List.mem_cons_of_mem _ h2⟩
    · obtain ⟨h1, h2⟩ := pickL_some h
      exact ⟨h1, List.mem_cons_of_mem _ h2⟩

def memN (x : Nat) : List Nat → Bool
  | [] => false
  | y :: r => bif Nat.beq x y then true else memN x r
theorem memN_iff {x : Nat} : ∀ {l : List Nat}, memN x l = true ↔ x ∈ l
  | [] => by simp [memN]
  | y :: r => by
    simp only [memN, List.mem_cons]
    cases hb : Nat.beq x y with
    | true => simp [Nat.eq_of_beq_eq_true hb]
    | false =>
      have : ¬ x = y := fun h => by rw [h, Nat.beq_refl] at hb; cases hb
      simp only [cond_false, this, false_or]
      exact memN_iff
def apartA (p r : AOper) : Bool :=
  (match p.dst with
   | none => true
   | some t => !memN t (usesO r) && (match r.dst with | none => true | some u => !Nat.beq t u)) &&
  (match r.dst with
   | none => true
   | some t => !memN t (usesO p))
def indepA (aops : List AOper) : Bool :=
  (List.range aops.length).all fun i => match aops[i]? with
    | none => false
    | some r => (r.after.all fun j => Nat.blt j i) && (List.range i).all fun j => match aops[j]? with
      | none => false
      | some p => memN j r.after || apartA p r
def nodupH : AHeap → Bool
  | [] => true
  | (l, _) :: r => !hasK l r && nodupH r
theorem nodupH_fun : ∀ {H : AHeap}, nodupH H = true → Fun H
  | [], _ => fun x hx => by cases hx
  | (l, o) :: r, h => by
    simp only [nodupH, Bool.and_eq_true, Bool.not_eq_true'] at h
    obtain ⟨h1, h2⟩ := h
    have hn : l ∉ AHeap.keys r := fun hl => by rw [hasK_iff.2 hl] at h1; cases h1
    intro x hx y hy he
    rcases List.mem_cons.1 hx with rfl | hx <;> rcases List.mem_cons.1 hy with rfl | hy
    · rfl
    · exact absurd (mem_keys.2 ⟨y.2, by rw [show l = y.1 from he]; exact hy⟩) hn
    · exact absurd (mem_keys.2 ⟨x.2, by rw [show l = x.1 from he.symm]; exact hx⟩) hn
    · exact nodupH_fun h2 x hx y hy he

structure QOut where
  l : List (Nat × AV)
  side : Prop
def addQ (s : Prop) : Option QOut → Option QOut
  | some o => some ⟨o.l, s ∧ o.side⟩
  | none => none

def runQ (P : Program) (N : Nat) (H : AHeap) : List AOper → List Cres → List (Nat × AV) → Option QOut
  | [], _, l => some ⟨l, True⟩
  | ⟨d, op, g, af⟩ :: os, cs, l =>
    bif dstOK d N then (match gOn g (pickL l (usesO ⟨d, op, g, af⟩)) with
    | none => none
    | some false => runQ P N H os cs (putL d (.tup []) l)
    | some true => match op with
      | .call gg as => (match evA (pickL l (usesO ⟨d, .call gg as, g, af⟩)) gg, allAV (evA (pickL l (usesO ⟨d, .call gg as, g, af⟩))) as, cs with
        | some fv, some vs, q :: cs' => (match callOf fv vs with
          | some (f, ws) => addQ (ACalls P f ws q.hin q.r q.hout ∧ q.hin = q.hout ∧ ∀ x ∈ q.hin, x ∈ H) (runQ P N H os cs' (putL d q.r l))
          | none => none)
        | _, _, _ => none)
      | op => (match evOp false 0 (evA (pickL l (usesO ⟨d, op, g, af⟩))) H op with
        | some q => addQ (q.side ∧ q.hin = q.hout) (runQ P N H os cs (putL d q.r l))
        | none => none)) else none

structure QRec (P : Program) (aops : List AOper) (H : AHeap) (r : Rec) : Prop where
  ok : RecOK P aops r
  quiet : r.hin = r.hout
  sub : ∀ x ∈ r.hin, x ∈ H
  uses : ∃ ao, aops[r.idx]? = some ao ∧ ao.dst = r.dst ∧ ∀ t x, lk r.args t = some x → t ∈ usesO ao

theorem addQ_some {s : Prop} {x : Option QOut} {o : QOut} (h : addQ s x = some o) (hs : o.side) : s ∧ ∃ o', x = some o' ∧ o'.side ∧ o'.l = o.l := by
  unfold addQ at h
  split at h
  · cases h
    exact ⟨hs.1, _, rfl, hs.2, rfl⟩
  · cases h

theorem runQ_ok {P : Program} {N : Nat} {H : AHeap} {aops : List AOper} : ∀ (os pre : List AOper) (cs : List Cres) (l : List (Nat × AV)) (o : QOut), pre ++ os = aops → runQ P N H os cs l = some o → o.side →
    ∃ rs : List Rec, rs.map (·.idx) = List.range' pre.length os.length ∧ (∀ r ∈ rs, QRec P aops H r) ∧ qchain rs ⟨N, l⟩ ⟨N, o.l⟩
  | [], pre, cs, l, o, _, h, _ => by
    cases h
    exact ⟨[], rfl, fun r hr => (by cases hr), rfl, fun _ => rfl⟩
  | ⟨d, op, g, af⟩ :: os, pre, cs, l, o, hpre, h, hs => by
    have hget : aops[pre.length]? = some ⟨d, op, g, af⟩ := by rw [← hpre]; simp
    simp only [runQ] at h
    cases hd : dstOK d N with
    | false => rw [hd] at h; cases h
    | true =>
      rw [hd] at h
      simp only [cond_true] at h
      have next : ∀ (r : AV) (hin hout : AHeap) (o' : QOut) (cs' : List Cres), runQ P N H os cs' (putL d r l) = some o' → o'.side → o'.l = o.l →
          RecOK P aops ⟨pre.length, d, pickL l (usesO ⟨d, op, g, af⟩), hin, hout, r⟩ → hin = hout → (∀ x ∈ hin, x ∈ H) →
          ∃ rs : List Rec, rs.map (·.idx) = List.range' pre.length (os.length + 1) ∧ (∀ r ∈ rs, QRec P aops H r) ∧ qchain rs ⟨N, l⟩ ⟨N, o.l⟩ := by
        intro r hin hout o' cs' h' hs' hl hok hq hsub
        obtain ⟨rs, k1, k2, k3⟩ := runQ_ok (aops := aops) os (pre ++ [⟨d, op, g, af⟩]) cs' (putL d r l) o' (by rw [← hpre]; simp) h' hs'
        refine ⟨⟨pre.length, d, pickL l (usesO ⟨d, op, g, af⟩), hin, hout, r⟩ :: rs, by simpa [List.range'] using k1, fun q hq' => ?_, ⟨fun t x hx => (pickL_some hx).1, fun t ht => ?_⟩, ?_⟩
        · rcases List.mem_cons.1 hq' with rfl | hq'
          · exact ⟨hok, hq, hsub, _, hget, rfl, fun t x hx => (pickL_some hx).2⟩
          · exact k2 q hq'
        · dsimp only at ht
          subst ht
          exact Nat.le_of_ble_eq_true hd
        · have e1 : (AAct.put ⟨N, l⟩ d r) = ⟨N, putL d r l⟩ := by cases d <;> rfl
          rw [← hl]
          dsimp only
          rw [e1]
          exact k3
      split at h
      · cases h
      · rename_i hg
        exact next (.tup []) [] [] o _ h hs rfl ⟨_, hget, rfl, .inr ⟨hg, rfl, rfl, rfl⟩⟩ rfl (fun x hx => by cases hx)
      · rename_i hg
        split at h
        · rename_i gg as
          split at h <;> first | cases h | skip
          rename_i fv vs q cs' hfv hvs
          split at h <;> first | cases h | skip
          rename_i f ws hcall
          obtain ⟨⟨h1, h2, h3⟩, o', ho', hs', e1⟩ := addQ_some h hs
          refine next q.r q.hin q.hout o' _ ho' hs' e1 ⟨_, hget, rfl, .inl ⟨hg, ?_⟩⟩ h2 h3
          unfold callOf at hcall
          split at hcall <;> cases hcall
          · exact AOpT.call hfv hvs h1
          · exact AOpT.callC hfv hvs h1
        · split at h <;> first | cases h | skip
          rename_i q hq
          obtain ⟨⟨h1, h2⟩, o', ho', hs', e1⟩ := addQ_some h hs
          exact next q.r q.hin q.hout o' _ ho' hs' e1 ⟨_, hget, rfl, .inl ⟨hg, evOp_ok hq h1⟩⟩ h2 (evOp_hin hq)

theorem HeapRel.drawn {S : Seal} {i : Emb} {H : AHeap} {w : World} (h : HeapRel S i H w) (k : Nat) : HeapRel S i H { w with drawn := k } :=
  ⟨h.cell, h.size, h.obj, h.inj, h.dom⟩
theorem Tr.drawn {S S' : Seal} {i i' : Emb} {H H' : AHeap} {w w' : World} {k : Nat} (h : Tr S i H { w with drawn := k } S' i' H' w') : Tr S i H w S' i' H' w' :=
  ⟨h.up, h.grow, h.old, h.newSeal, h.newEmb, h.sub, h.os, h.out, h.tape⟩

/-- A REGION WHOSE ORDER IS DRAWN -/
theorem AWc.draw {P : Program} {ro : Option Nat} {m n N : Nat} {aops : List AOper} {l l' : List (Nat × AV)} {H : AHeap} {s : Prop} {Q : Exit → AAct → AHeap → Nat → Prop} (hmix : P.follows .mixedOrders = true) (cs : List Cres)
    (hm : m ≤ n) (hind : indepA aops = true) (hH : nodupH H = true) (h : runQ P N H aops cs l = some ⟨l', s⟩) (hs : s) (hQ : Q .normal ⟨N, l'⟩ H n) : AWc P ro m (.region true aops) ⟨N, l⟩ H n Q := by
  intro cc hcc
  cases cc <;> simp only [compCode] at hcc
  case region id ops draw =>
    injection hcc with h1 h2
    subst h1 h2
    obtain ⟨rs, r1, r2, r3⟩ := runQ_ok _ [] cs l _ rfl h hs
    have hlen : (ops.toList.map (compOper P ops)).length = ops.size := by simp
    have hidx : ∀ r ∈ rs, r.idx < ops.size := by
      intro r hr
      have : r.idx ∈ rs.map (·.idx) := List.mem_map.2 ⟨r, hr, rfl⟩
      rw [r1] at this
      simpa [hlen, List.mem_range'_1] using this
    have hmemall : ∀ i, i < ops.size → ∃ r ∈ rs, r.idx = i := by
      intro i hi
      have : i ∈ rs.map (·.idx) := by rw [r1]; simpa [hlen, List.mem_range'_1] using hi
      obtain ⟨r, hr, he⟩ := List.mem_map.1 this
      exact ⟨r, hr, he⟩
    have hsort : rs.Pairwise (fun p r => p.idx < r.idx) := by
      have : (rs.map (·.idx)).Pairwise (· < ·) := by rw [r1]; exact List.pairwise_lt_range'
      exact List.pairwise_map.1 this
    have hcheck : ∀ i r, (ops.toList.map (compOper P ops))[i]? = some r → (∀ j ∈ r.after, j < i) ∧ ∀ j p, j < i → (ops.toList.map (compOper P ops))[j]? = some p → j ∈ r.after ∨ apartA p r = true := by
      intro i r hr
      have hi : i < (ops.toList.map (compOper P ops)).length := (List.getElem?_eq_some_iff.1 hr).1
      have := List.all_eq_true.1 hind i (List.mem_range.2 hi)
      rw [hr] at this
      simp only [Bool.and_eq_true] at this
      refine ⟨fun j hj => Nat.le_of_ble_eq_true (List.all_eq_true.1 this.1 j hj), fun j p hj hp => ?_⟩
      have h3 := List.all_eq_true.1 this.2 j (List.mem_range.2 hj)
      rw [hp] at h3
      simp only [Bool.or_eq_true] at h3
      exact h3.imp memN_iff.1 (fun h => h)
    have haft : ∀ i r, (ops.toList.map (compOper P ops))[i]? = some r → ∀ j, j ∈ aft ops i ↔ j ∈ r.after := by
      intro i r hr j
      simp only [List.getElem?_map, Option.map_eq_some_iff] at hr
      obtain ⟨o, ho, rfl⟩ := hr
      have ho' : ops[i]? = some o := by simpa using ho
      simp only [aft, ho', compOper, List.mem_eraseDups]
    intro S i w ca ha hh hd
    refine wpIn_region_draw fun t => ?_
    rw [hmix]
    have hsch : Region.schedule true ops t = Region.linearise.go .any ops ops.size t (Array.replicate ops.size false) [] := rfl
    rw [hsch]
    have hrl : rs.length = ops.size := by
      have := congrArg List.length r1
      simpa [hlen] using this
    obtain ⟨rs', k1, k2, k3⟩ := lin_ok (ops := ops) ops.size t (Array.replicate ops.size false) rs ⟨N, l⟩ (by omega) (by simp) (fun i hi => by simp [hi]; exact hmemall i hi) hidx hsort (by
      refine List.Pairwise.imp_of_mem ?_ hsort
      intro p r hp hr hlt
      obtain ⟨ap, ap1, ap2, ap3⟩ := (r2 p hp).uses
      obtain ⟨ar, ar1, ar2, ar3⟩ := (r2 r hr).uses
      rcases (hcheck _ _ ar1).2 _ _ hlt ap1 with h | h
      · exact .inl ((haft _ _ ar1 _).2 h)
      · right
        have hno : ∀ {ao : AOper} {q : Rec}, (∀ t x, lk q.args t = some x → t ∈ usesO ao) → ∀ t, memN t (usesO ao) = false → lk q.args t = none := by
          intro ao q hq t ht
          cases hx : lk q.args t with
          | none => rfl
          | some x => rw [memN_iff.2 (hq t x hx)] at ht; cases ht
        simp only [apartA, Bool.and_eq_true] at h
        obtain ⟨h1, h2⟩ := h
        refine ⟨fun t ht => ?_, fun t ht => ?_⟩
        · rw [← ap2] at ht
          rw [ht] at h1
          simp only [Bool.and_eq_true, Bool.not_eq_true'] at h1
          refine ⟨hno ar3 t h1.1, fun hr' => ?_⟩
          rw [← ar2] at hr'
          rw [hr'] at h1
          have := h1.2
          simp at this
        · rw [← ar2] at ht
          rw [ht] at h2
          simp only [Bool.not_eq_true'] at h2
          exact hno ap3 t h2) (fun r hr j hj => by
      obtain ⟨ar, ar1, ar2, ar3⟩ := (r2 r hr).uses
      exact (hcheck _ _ ar1).1 j ((haft _ _ ar1 j).1 hj)) r3
    rw [← k1]
    obtain ⟨a'', H'', c1, c2, c3, c4⟩ := q_chain (nodupH_fun hH) (H := H) (fun _ => Iff.rfl) (fun r hr => ⟨(r2 r (k2 r hr)).quiet, (r2 r (k2 r hr)).sub⟩) k3
    refine recs_ok n rs' _ _ a'' H'' [] (fun r hr => (r2 r (k2 r hr)).ok) c1 (fresh_quiet fun r hr => (r2 r (k2 r hr)).quiet) S i _ ca ha (hh.drawn _) (fun l b hl => .inl (hd l b hl)) ?_
    intro S' i' w' ca' hact hdef hhp hle hdom hag htr
    refine ⟨⟨N, l'⟩, H, n, S', i', hQ, ⟨hact.size.trans c3, fun t x hx => hact.get t x ((c4 t).symm.trans hx)⟩, .of_eq hdef, hhp.perm fun x hx => (c2 x).2 hx, fun l b hl => ?_, fun l hl => hag l (by omega),
      (htr.perm (fun _ h => h) (fun x hx => (c2 x).2 hx)).drawn⟩
    rcases hdom l b hl with h | h | h
    · exact h
    · cases h
    · obtain ⟨r, hr, hx⟩ := List.mem_flatMap.1 h
      rw [newLab_quiet (r2 r (k2 r hr)).quiet] at hx
      cases hx
  all_goals first | (split at hcc <;> cases hcc) | cases hcc
end Go.Proofs.Abs
