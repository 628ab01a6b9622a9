/- Structs held against each other; small words of the generator. -/
import Derived.Test.YtgimibhacllcpaaAbs30
namespace Go.Proofs.Abs
open Go
set_option linter.unusedVariables false

/-- two structs, cell by cell, of these kinds -/
def eqDs : List Nat → List D → List D → Option Bool
  | [], [], [] => some true
  | 0 :: ks, .int k a :: xs, .int k' b :: ys => bif decide (k = k') then (eqDs ks xs ys).map (decide (a = b) && ·) else none
  | 1 :: ks, .str a :: xs, .str b :: ys => (eqDs ks xs ys).map (decide (a = b) && ·)
  | 2 :: ks, .bool a :: xs, .bool b :: ys => (eqDs ks xs ys).map ((a == b) && ·)
  | _, _, _ => none

section
variable {P : Program}
theorem ba_beq (a c : List UInt8) : ((⟨a.toArray⟩ : ByteArray) == ⟨c.toArray⟩) = decide (a = c) := by
  show (a.toArray == c.toArray) = _
  rw [Bool.eq_iff_iff]; simp
theorem run_part {t : TypeId} {d : TypeDesc} {cs : Array Value} {off : Nat} {v : Value} {w : World} (hd : P.underlying t = some d) (ha : isAggD d = false) (h : cs[off]? = some v) : (part t cs off).run P w = .ok v w := by
  simp only [part, Sem.run_bind, run_isAgg hd, Result.andThen_ok, ha, h]
  rfl
/-- one field: what its equality comes to -/
theorem plainKinds_cons {f : Field} {r : List Field} {n : Nat} {ks : List Nat} (h : plainKinds P (f :: r) n = some ks) : f.offset = n ∧ f.name ≠ "_" ∧ ∃ k ks', ks = k :: ks' ∧ plainKinds P r (n + 1) = some ks' ∧
    ∃ d, P.underlying f.type = some d ∧ isAggD d = false ∧ ((k = 0 ∧ ∃ kd, d = .int kd) ∨ (k = 1 ∧ d = .string) ∨ (k = 2 ∧ d = .bool)) := by
  simp only [plainKinds] at h
  split at h
  · rename_i hc
    simp only [Bool.and_eq_true, beq_iff_eq, bne_iff_ne] at hc
    refine ⟨hc.1, hc.2, ?_⟩
    split at h <;> cases h
    · rename_i kd l hu hl
      exact ⟨0, l, rfl, hl, _, und_some hu (by simp), rfl, .inl ⟨rfl, kd, rfl⟩⟩
    · rename_i l hu hl
      exact ⟨1, l, rfl, hl, _, und_some hu (by simp), rfl, .inr (.inl ⟨rfl, rfl⟩)⟩
    · rename_i l hu hl
      exact ⟨2, l, rfl, hl, _, und_some hu (by simp), rfl, .inr (.inr ⟨rfl, rfl⟩)⟩
  · cases h
theorem eq_loop {S : Seal} {w : World} {d : Nat} {us vs : List Value} : ∀ (fs : List Field) (n : Nat) (ks : List Nat) (xs ys : List D) (b : Bool), plainKinds P fs n = some ks → eqDs ks xs ys = some b →
    (∀ j (hj : j < xs.length), ∃ u, us[n + j]? = some u ∧ DV S xs[j] u) → (∀ j (hj : j < ys.length), ∃ u, vs[n + j]? = some u ∧ DV S ys[j] u) →
    (forIn fs ((none, ()) : Option Bool × Unit) fun f r => if f.name ≠ "_" then do
      let __do_lift ← part f.type us.toArray f.offset
      let __do_lift_1 ← part f.type vs.toArray f.offset
      let __do_lift_2 ← Op.equalIn (d + 1) f.type __do_lift __do_lift_1
      if (!__do_lift_2) = true then pure (ForInStep.done (some false, ())) else do
        pure PUnit.unit
        pure (ForInStep.yield (none, ())) else do
      pure PUnit.unit
      pure (ForInStep.yield (none, ())) : Sem _).run P w = .ok (bif b then none else some false, ()) w
  | [], n, ks, xs, ys, b, hk, h, _, _ => by
    cases hk
    cases xs <;> cases ys <;> simp [eqDs] at h
    subst h
    rfl
  | f :: r, n, ks, xs, ys, b, hk, h, hx, hy => by
    obtain ⟨h1, h2, k, ks', rfl, hk', dd, hd, ha, hcase⟩ := plainKinds_cons hk
    have main : ∀ (x y : D) (xs' ys' : List D) (b1 b2 : Bool), xs = x :: xs' → ys = y :: ys' → eqDs ks' xs' ys' = some b2 → b = (b1 && b2) → (∀ u v, DV S x u → DV S y v → (Op.equalIn (d + 1) f.type u v).run P w = .ok b1 w) →
        (forIn (f :: r) ((none, ()) : Option Bool × Unit) fun f r => if f.name ≠ "_" then do
      let __do_lift ← part f.type us.toArray f.offset
      let __do_lift_1 ← part f.type vs.toArray f.offset
      let __do_lift_2 ← Op.equalIn (d + 1) f.type __do_lift __do_lift_1
      if (!__do_lift_2) = true then pure (ForInStep.done (some false, ())) else do
        pure PUnit.unit
        pure (ForInStep.yield (none, ())) else do
      pure PUnit.unit
      pure (ForInStep.yield (none, ())) : Sem _).run P w = .ok (bif b then none else some false, ()) w := by
      rintro x y xs' ys' b1 b2 rfl rfl hrec rfl he
      obtain ⟨u, hu, hxu⟩ := hx 0 (by simp)
      obtain ⟨v, hv, hyv⟩ := hy 0 (by simp)
      have p1 := run_part (P := P) (w := w) (cs := us.toArray) (off := f.offset) hd ha (by rw [h1]; simpa using hu)
      have p2 := run_part (P := P) (w := w) (cs := vs.toArray) (off := f.offset) hd ha (by rw [h1]; simpa using hv)
      have he' := he u v hxu hyv
      have ih := eq_loop (d := d) (w := w) r (n + 1) ks' xs' ys' b2 hk' hrec (fun j hj => by
        have := hx (j + 1) (by simpa using hj)
        rw [show n + 1 + j = n + (j + 1) by omega]
        exact this) (fun j hj => by
        have := hy (j + 1) (by simpa using hj)
        rw [show n + 1 + j = n + (j + 1) by omega]
        exact this)
      rw [List.forIn_cons]
      simp only [ne_eq, h2, not_false_eq_true, if_true, Sem.run_bind, p1, p2, he', Result.andThen_ok]
      cases b1 with
      | true =>
        simp only [Bool.not_true, Bool.false_eq_true, if_false, Sem.run_bind, Sem.run_pure, Result.andThen_ok, Bool.true_and]
        exact ih
      | false =>
        simp only [Bool.not_false, if_true, Sem.run_pure, Result.andThen_ok, Bool.false_and]
        rfl
    have eqi : ∀ {u v : Value} {bb : Bool} {dd}, P.underlying f.type = some dd → (∀ (K : TypeDesc → Sem Bool), K dd = pure bb → True) → True := fun _ _ => trivial
    rcases hcase with ⟨rfl, kd, rfl⟩ | ⟨rfl, rfl⟩ | ⟨rfl, rfl⟩
    · obtain ⟨k, a, k', c, xs', ys', rfl, rfl⟩ : ∃ k a k' c xs' ys', xs = D.int k a :: xs' ∧ ys = D.int k' c :: ys' := by
        cases xs with
        | nil => simp [eqDs] at h
        | cons x xs' =>
          cases ys with
          | nil => cases x <;> simp [eqDs] at h
          | cons y ys' => cases x <;> cases y <;> simp only [eqDs, reduceCtorEq] at h <;> exact ⟨_, _, _, _, _, _, rfl, rfl⟩
      · 
        simp only [eqDs] at h
        cases hkk : decide (k = k') <;> rw [hkk] at h <;> simp only [cond_true, cond_false, Option.map_eq_some_iff, reduceCtorEq] at h
        obtain ⟨b2, hb2, rfl⟩ := h
        refine main _ _ _ _ _ b2 rfl rfl hb2 rfl fun u v hu hv => ?_
        cases hu; cases hv
        have hund : (underlying f.type).run P w = .ok (.int kd) w := by simp [underlying, hd]
        rw [Op.equalIn]
        simp only [Sem.run_bind, hund, Result.andThen_ok]
        rw [if_pos (of_decide_eq_true hkk)]
        rw [show decide (a = c) = (a == c) by rw [Bool.eq_iff_iff]; simp]
        rfl
    · obtain ⟨a, c, xs', ys', rfl, rfl⟩ : ∃ a c xs' ys', xs = D.str a :: xs' ∧ ys = D.str c :: ys' := by
        cases xs with
        | nil => simp [eqDs] at h
        | cons x xs' =>
          cases ys with
          | nil => cases x <;> simp [eqDs] at h
          | cons y ys' => cases x <;> cases y <;> simp only [eqDs, reduceCtorEq] at h <;> exact ⟨_, _, _, _, rfl, rfl⟩
      · 
        simp only [eqDs, Option.map_eq_some_iff] at h
        obtain ⟨b2, hb2, rfl⟩ := h
        refine main _ _ _ _ _ b2 rfl rfl hb2 rfl fun u v hu hv => ?_
        cases hu; cases hv
        have hund : (underlying f.type).run P w = .ok .string w := by simp [underlying, hd]
        rw [Op.equalIn]
        simp only [Sem.run_bind, hund, Result.andThen_ok]
        rw [← ba_beq]
        rfl
    · obtain ⟨a, c, xs', ys', rfl, rfl⟩ : ∃ a c xs' ys', xs = D.bool a :: xs' ∧ ys = D.bool c :: ys' := by
        cases xs with
        | nil => simp [eqDs] at h
        | cons x xs' =>
          cases ys with
          | nil => cases x <;> simp [eqDs] at h
          | cons y ys' => cases x <;> cases y <;> simp only [eqDs, reduceCtorEq] at h <;> exact ⟨_, _, _, _, rfl, rfl⟩
      · 
        simp only [eqDs, Option.map_eq_some_iff] at h
        obtain ⟨b2, hb2, rfl⟩ := h
        refine main _ _ _ _ _ b2 rfl rfl hb2 rfl fun u v hu hv => ?_
        cases hu; cases hv
        have hund : (underlying f.type).run P w = .ok .bool w := by simp [underlying, hd]
        rw [Op.equalIn]
        simp only [Sem.run_bind, hund, Result.andThen_ok]
        rfl

theorem compBin_agg {op : BinOp} {t : TypeId} {x y x' y' : Arg} {neg : Bool} {ks : List Nat} (h : compBin P op t x y = .aggeq neg ks x' y') : x' = x ∧ y' = y ∧ (op = .eql ∧ neg = false ∨ op = .neq ∧ neg = true) ∧
    ∃ fs, P.underlying t = some (.struct fs) ∧ plainKinds P fs.toList 0 = some ks ∧ P.eqGuardType P.depth t = false ∧ P.stoodInHeld t = false := by
  unfold compBin at h
  split at h
  case h_8 fs hu =>
    split at h
    · rename_i ks' hks
      split at h
      · rename_i hc
        simp only [Bool.and_eq_true, Bool.not_eq_true'] at hc
        split at h <;> cases h
        · exact ⟨rfl, rfl, .inl ⟨rfl, rfl⟩, fs, und_some hu (by simp), hks, hc.1, hc.2⟩
        · exact ⟨rfl, rfl, .inr ⟨rfl, rfl⟩, fs, und_some hu (by simp), hks, hc.1, hc.2⟩
      · cases h
    · cases h
  all_goals (repeat' (first | cases h | split at h))
theorem compConv_agg {s d : TypeId} {x x' y' : Arg} {neg : Bool} {ks : List Nat} : compConv P s d x = .aggeq neg ks x' y' → False := by
  intro h
  unfold compConv at h
  repeat' (first | cases h | split at h)
theorem compCall_agg {c : Call} {x' y' : Arg} {neg : Bool} {ks : List Nat} : compCall P c = .aggeq neg ks x' y' → False := by
  intro h
  unfold compCall at h
  repeat' (first | cases h | split at h)
  all_goals (simp only [sbK, szK] at h; repeat' (first | cases h | split at h))
theorem compOp_agg {op : Op} {x' y' : Arg} {neg : Bool} {ks : List Nat} (h : compOp P op = .aggeq neg ks x' y') : ∃ bop t x y t', op = .binOp bop t x y t' ∧ argA x = some x' ∧ argA y = some y' ∧ compBin P bop t x' y' = .aggeq neg ks x' y' := by
  cases op with
  | call c => simp only [compOp] at h; exact (compCall_agg h).elim
  | binOp op t x y t' =>
    simp only [compOp] at h
    split at h
    · rename_i a b ha hb
      obtain ⟨rfl, rfl, _⟩ := compBin_agg h
      exact ⟨op, t, x, y, t', rfl, ha, hb, h⟩
    · cases h
  | convert s d x =>
    simp only [compOp] at h
    split at h
    · exact (compConv_agg h).elim
    · cases h
  | makeFunc fn first caps =>
    cases fn with
    | func f =>
      simp only [compOp] at h
      repeat' (first | cases h | split at h)
    | _ => cases h
  | _ =>
    simp only [compOp, szK, sbK, aggK] at h
    repeat' (first | cases h | split at h)

theorem AOpT.agq {args : List (Nat × AV)} {x y : Arg} {neg : Bool} {ks : List Nat} {xs ys : List D} {b : Bool} (hx : evA args x = some (.d (.agg xs))) (hy : evA args y = some (.d (.agg ys))) (h : eqDs ks xs ys = some b) :
    AOpT P (.aggeq neg ks x y) args [] (.d (.bool (bif neg then !b else b))) [] := by
  refine ⟨fun z hz hb => (by subst hz; cases hb), fun o hao => ?_⟩
  obtain ⟨bop, t, x0, y0, t', hop, ha, hb, hcomp⟩ := compOp_agg hao
  obtain ⟨_, _, hneg, fs, hfs, hks, hg1, hg2⟩ := compBin_agg hcomp
  refine .pure (by simp [hop]) fun S i w ρ hev hh => ⟨.bool (bif neg then !b else b), ?_, .d .bool⟩
  have h1 := vD (argV hev ha hx)
  have h2 := vD (argV hev hb hy)
  obtain ⟨us, hu, hul, _, hus⟩ := dAgg_cells h1
  obtain ⟨vs, hv, hvl, _, hvs⟩ := dAgg_cells h2
  have hq : (Op.equal t (ρ x0) (ρ y0)).run P w = .ok b w := by
    rw [hu, hv]
    have hund : (underlying t).run P w = .ok (.struct fs) w := by simp [underlying, hfs]
    show (Op.equalIn (9998 + 1 + 1) t _ _).run P w = _
    rw [Op.equalIn]
    simp only [Sem.run_bind, hund, Result.andThen_ok]
    have hpr : (program : Sem Program).run P w = .ok P w := rfl
    simp only [hpr, Result.andThen_ok, hg2, Bool.false_eq_true, if_false]
    have := eq_loop (P := P) (S := S) (w := w) (d := 9998) (us := us) (vs := vs) fs.toList 0 ks xs ys b hks h (fun j hj => ⟨us[j], by simp, hus j hj (by omega)⟩) (fun j hj => ⟨vs[j], by simp, hvs j hj (by omega)⟩)
    rw [← Array.forIn_toList]
    simp only [Sem.run_bind]
    rw [this, Result.andThen_ok]
    cases b <;> rfl
  have hg : (eqGuard bop t x0 y0 (ρ x0) (ρ y0)).run P w = .ok () w := by
    rw [hu, hv]
    have hpr : (program : Sem Program).run P w = .ok P w := rfl
    rcases hneg with ⟨rfl, _⟩ | ⟨rfl, _⟩ <;> simp [eqGuard, Sem.run_bind, hpr, hg1]
  rcases hneg with ⟨rfl, rfl⟩ | ⟨rfl, rfl⟩
  · have : (binOp .eql t (ρ x0) (ρ y0)).run P w = .ok (.bool b) w := by
      rw [hu, hv] at hq ⊢
      simp only [binOp, Sem.run_bind, hq, Result.andThen_ok]; rfl
    simp only [execOp, hop, Sem.run_bind, hg, Result.andThen_ok, this]; rfl
  · have : (binOp .neq t (ρ x0) (ρ y0)).run P w = .ok (.bool (!b)) w := by
      rw [hu, hv] at hq ⊢
      simp only [binOp, Sem.run_bind, hq, Result.andThen_ok]; rfl
    simp only [execOp, hop, Sem.run_bind, hg, Result.andThen_ok, this]; rfl
end
end Go.Proofs.Abs
