/- A scope through which the run goes straight. -/
import Derived.Test.YtgimibhacllcpaaAbs24
namespace Go.Proofs.Abs
open Go
abbrev noGo (Q : Exit → AAct → AHeap → Nat → Prop) : Exit → AAct → AHeap → Nat → Prop
  | .goto _ => fun _ _ _ => False
  | e => Q e
def noGoC (Q : Exit → Act → World → Prop) : Exit → Act → World → Prop
  | .goto _ => fun _ _ => False
  | e => Q e

theorem stepR_scope {P : Program} {b : Frame} {a : Act} {k : List Item} {cs : List Frame} {w : World} {c : Code} :
    step P (lone (b.atR a (.code (.scope c) :: k)) cs w) = .next (lone (b.atR a (.code c :: .inScope c :: k)) cs w) :=
  step_lone_go (by simp [stepG, stepG.exec, Frame.atR])
theorem stepR_inScope {P : Program} {b : Frame} {a : Act} {k : List Item} {cs : List Frame} {w : World} {c : Code} :
    step P (lone (b.atR a (.inScope c :: k)) cs w) = .next (lone (b.atR a k) cs w) :=
  step_lone_go (by simp [stepG, stepG.exec, Frame.atR])

theorem wpIn_scope {F : Fence} {n : Nat} {P : Program} {Q : Exit → Act → World → Prop} {a : Act} {w : World} {c : Code} (h : c.wpIn F n P (noGoC Q) a w) : (Code.scope c).wpIn F n P Q a w := by
  intro b k cs hro hb hr
  have h0 : (lone (b.atR a (.code (.scope c) :: k)) cs w).fenced P F := fenced_calm hb hr rfl
  obtain ⟨e, a₁, w₁, hq, harr⟩ := h b (.inScope c :: k) cs hro hb hr
  cases e with
  | normal => exact ⟨.normal, a₁, w₁, hq, .head h0 stepR_scope (StepsIn.trans harr (.one (fenced_calm hb hr rfl) stepR_inScope))⟩
  | exit id =>
    have hx : exitTo id (.inScope c :: k) = exitTo id k := by simp [exitTo]
    exact ⟨_, a₁, w₁, hq, fun k' hk => .head h0 stepR_scope (harr.1 k' (by rw [hx]; exact hk)),
      fun hr' hk => let ⟨k₁, h1, h2⟩ := harr.2 hr' (by rw [hx]; exact hk); ⟨k₁, h1, .head h0 stepR_scope h2⟩⟩
  | goto l => exact hq.elim
  | ret => exact ⟨_, a₁, w₁, hq, .of_steps (.one h0 stepR_scope) harr⟩
  | panic ch => exact ⟨_, a₁, w₁, hq, .of_steps (.one h0 stepR_scope) harr⟩
  | outgrown => exact ⟨_, a₁, w₁, hq, .of_steps (.one h0 stepR_scope) harr⟩

theorem AWc.scope {P : Program} {ro : Option Nat} {m n : Nat} {a : AAct} {H : AHeap} {Q : Exit → AAct → AHeap → Nat → Prop} {c : ACode} (h : AWc P ro m c a H n (noGo Q)) : AWc P ro m (.scope c) a H n Q := by
  intro cc hcc
  cases cc <;> simp only [compCode] at hcc
  case scope u =>
    injection hcc with h1
    intro S i w ca ha hh hn
    refine wpIn_scope (wpIn_mono (h u h1 S i w ca ha hh hn) ?_)
    rintro ex ca' w' ⟨a', H', n', S', i', q, r⟩
    cases ex with
    | goto l => exact q.elim
    | normal => exact ⟨a', H', n', S', i', q, r⟩
    | exit j => exact ⟨a', H', n', S', i', q, r⟩
    | ret => exact ⟨a', H', n', S', i', q, r⟩
    | panic ch => exact ⟨a', H', n', S', i', q, r⟩
    | outgrown => exact ⟨a', H', n', S', i', q, r⟩
  all_goals first | (split at hcc <;> cases hcc) | cases hcc
end Go.Proofs.Abs
