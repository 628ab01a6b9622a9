/- What was made to be appended to is taken as data; drawn orders with operations that write. -/
import Derived.Test.YtgimibhacllcpaaAbs25
namespace Go.Proofs.Abs
open Go

theorem ACalls.toData {P : Program} {f : FuncId} {xs : List AV} {l z n : Nat} {ys : List D} (h : ACalls P f xs [] (.ap l z ys) [(l, .tok n)]) (hxs : ∀ x ∈ xs, x.lb fun k => k ≠ l) : ACalls P f xs [] (.d (.sl ys)) [] := by
  refine ⟨h.1, fun S i w vs hvs hv hh hf => ?_⟩
  let i0 : Emb := fun k => if k = l then none else i k
  have hi0 : i0.le i := fun k b hk => by
    simp only [i0] at hk
    split at hk
    · cases hk
    · exact hk
  have hc := h.2 S i0 w vs hvs (fun j h1 h2 => (hv j h1 h2).relabel (K := fun k => k ≠ l) (fun k hk => by simp [i0, hk]) (hxs _ (List.getElem_mem h1)))
    ⟨hh.cell, hh.size, fun _ _ hm => (by cases hm), fun _ _ _ _ _ hm => (by cases hm), fun k b hk => hh.dom k b (hi0 k b hk)⟩ (fun k hk _ => by
      simp only [AHeap.keys, List.map_cons, List.map_nil, List.mem_singleton] at hk
      simp [i0, hk])
  refine Calls.mono hc fun e w' ⟨v, he, S', i', h1, h2, h3, h4, h5⟩ => ⟨v, he, ?_⟩
  refine ⟨S', i, .d (toSl_ok rfl h1), ⟨h2.cell, h2.size, fun _ _ hm => (by cases hm), fun _ _ _ _ _ hm => (by cases hm), fun k c hk => Nat.lt_of_lt_of_le (hh.dom k c hk) h4.grow⟩, fun _ _ h => h,
    ⟨h4.up, h4.grow, fun k hk _ => h4.old k hk (fun ⟨_, _, hm, _⟩ => by cases hm), fun a v ha => ?_, fun _ _ h => .inl h, fun _ ⟨_, _, hm, _⟩ => (by cases hm), h4.os, h4.out, h4.tape⟩, fun _ _ h => .inl h⟩
  rcases h4.newSeal a v ha with h | ⟨_, _, hm, _⟩ | h
  · exact .inl h
  · cases hm
  · exact .inr (.inr h)

def hcan (r : Rec) (a : AAct) (H : AHeap) : Prop := qcan r a ∧ (∀ x ∈ r.hin, x ∈ H) ∧ Fun r.hout
def hchain : List Rec → AAct → AHeap → AAct → AHeap → Prop
  | [], a, H, a', H' => (a'.n = a.n ∧ ∀ t, lk a'.l t = lk a.l t) ∧ ∀ x, x ∈ H' ↔ x ∈ H
  | r :: rs, a, H, a', H' => hcan r a H ∧ hchain rs (a.put r.dst r.r) (stepH r H) a' H'

theorem stepH_mem {r : Rec} {H : AHeap} {x : Nat × AObj} : x ∈ stepH r H ↔ x ∈ r.hout ∨ (x ∈ H ∧ x.1 ∉ r.lab) := by
  simp only [stepH, List.mem_append, mem_restH]
theorem fun_step {r : Rec} {H : AHeap} (hF : Fun H) (hr : Fun r.hout) : Fun (stepH r H) := by
  intro x hx y hy he
  have inlab : ∀ {z : Nat × AObj}, z ∈ r.hout → z.1 ∈ r.lab := fun {z} hz => List.mem_append.2 (.inr (mem_keys.2 ⟨z.2, hz⟩))
  rcases stepH_mem.1 hx with hx | hx <;> rcases stepH_mem.1 hy with hy | hy
  · exact hr x hx y hy he
  · exact absurd (he ▸ inlab hx) hy.2
  · exact absurd (he ▸ inlab hy) hx.2
  · exact hF x hx.1 y hy.1 he
theorem hchain_eqv : ∀ {rs : List Rec} {a b a' : AAct} {H G H' : AHeap}, a.n = b.n → (∀ t, lk a.l t = lk b.l t) → (∀ x, x ∈ H ↔ x ∈ G) → hchain rs a H a' H' → hchain rs b G a' H'
  | [], a, b, a', H, G, H', h1, h2, h3, h => ⟨⟨h.1.1.trans h1, fun t => (h.1.2 t).trans (h2 t)⟩, fun x => (h.2 x).trans (h3 x)⟩
  | r :: rs, a, b, a', H, G, H', h1, h2, h3, h => by
    obtain ⟨⟨⟨c1, c2⟩, c3, c4⟩, h⟩ := h
    refine ⟨⟨⟨fun t x hx => (h2 t).symm.trans (c1 t x hx), fun t ht => h1 ▸ c2 t ht⟩, fun x hx => (h3 x).1 (c3 x hx), c4⟩, ?_⟩
    refine hchain_eqv (by rw [put_n, put_n, h1]) (fun t => ?_) (fun x => ?_) h
    · rw [lk_put, lk_put, h2 t]
    · rw [stepH_mem, stepH_mem, h3 x]

/-- their labels are apart, or both only read -/
def labApart (p r : Rec) : Prop := (∀ l ∈ p.lab, l ∉ r.lab) ∨ (p.hin = p.hout ∧ r.hin = r.hout)

theorem quiet_step {r : Rec} {H : AHeap} (hF : Fun H) (hq : r.hin = r.hout) (hsub : ∀ x ∈ r.hin, x ∈ H) (x : Nat × AObj) : x ∈ stepH r H ↔ x ∈ H := by
  rw [stepH_mem]
  constructor
  · rintro (hx | ⟨hx, _⟩)
    · exact hsub x (hq ▸ hx)
    · exact hx
  · intro hx
    by_cases hl : x.1 ∈ r.lab
    · left
      have : ∃ y ∈ r.hin, y.1 = x.1 := by
        rcases List.mem_append.1 hl with hl | hl
        · obtain ⟨o, ho⟩ := mem_keys.1 hl
          exact ⟨_, ho, rfl⟩
        · obtain ⟨o, ho⟩ := mem_keys.1 hl
          exact ⟨(x.1, o), by rw [hq]; exact ho, rfl⟩
      obtain ⟨y, hy, he⟩ := this
      have := hF y (hsub y hy) x hx he
      subst this
      exact hq ▸ hy
    · exact .inr ⟨hx, hl⟩

theorem h_swap {p r : Rec} {rs : List Rec} {a a' : AAct} {H H' : AHeap} (hF : Fun H) (hi : indep p r) (hl : labApart p r) (h : hchain (p :: r :: rs) a H a' H') : hchain (r :: p :: rs) a H a' H' := by
  obtain ⟨⟨hp1, hp2, hp3⟩, ⟨hr1, hr2, hr3⟩, h⟩ := h
  have hq : qchain (p :: r :: []) a ((a.put p.dst p.r).put r.dst r.r) := ⟨hp1, hr1, rfl, fun _ => rfl⟩
  obtain ⟨k1, k2, k3⟩ := q_swap hi hq
  have inhin : ∀ {q : Rec} {x : Nat × AObj}, x ∈ q.hin → x.1 ∈ q.lab := fun {q x} hz => List.mem_append.2 (.inl (mem_keys.2 ⟨x.2, hz⟩))
  have inhout : ∀ {q : Rec} {x : Nat × AObj}, x ∈ q.hout → x.1 ∈ q.lab := fun {q x} hz => List.mem_append.2 (.inr (mem_keys.2 ⟨x.2, hz⟩))
  rcases hl with hl | ⟨q1, q2⟩
  · have hrH : ∀ x ∈ r.hin, x ∈ H := fun x hx => by
      rcases stepH_mem.1 (hr2 x hx) with h | h
      · exact absurd (inhin hx) (hl _ (inhout h))
      · exact h.1
    refine ⟨⟨k1, hrH, hr3⟩, ⟨k2, fun x hx => stepH_mem.2 (.inr ⟨hp2 x hx, hl _ (inhin hx)⟩), hp3⟩, hchain_eqv k3.1 (fun t => k3.2 t) (fun x => ?_) h |> fun h => hchain_eqv rfl (fun _ => rfl) (fun _ => Iff.rfl) h⟩
    simp only [stepH_mem]
    constructor
    · rintro (h | ⟨h | ⟨h1, h2⟩, h3⟩)
      · exact .inr ⟨.inl h, fun hx => hl _ hx (inhout h)⟩
      · exact .inl h
      · exact .inr ⟨.inr ⟨h1, h3⟩, h2⟩
    · rintro (h | ⟨h | ⟨h1, h2⟩, h3⟩)
      · exact .inr ⟨.inl h, hl _ (inhout h)⟩
      · exact .inl h
      · exact .inr ⟨.inr ⟨h1, h3⟩, h2⟩
  · have e1 := quiet_step hF q1 hp2
    have hrH : ∀ x ∈ r.hin, x ∈ H := fun x hx => (e1 x).1 (hr2 x hx)
    have e2 := quiet_step hF q2 hrH
    have e3 := quiet_step (fun_step hF hp3) q2 hr2
    have e4 := quiet_step (fun_step hF hr3) q1 (fun x hx => (e2 x).2 (hp2 x hx))
    exact ⟨⟨k1, hrH, hr3⟩, ⟨k2, fun x hx => (e2 x).2 (hp2 x hx), hp3⟩, hchain_eqv k3.1 (fun t => k3.2 t) (fun x => by rw [e3 x, e1 x, e4 x, e2 x]) h⟩
end Go.Proofs.Abs
