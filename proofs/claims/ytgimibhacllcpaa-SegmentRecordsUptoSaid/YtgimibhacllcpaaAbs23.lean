/- A region is run piece by piece. -/
import Derived.Test.YtgimibhacllcpaaAbs22
namespace Go.Proofs.Abs
open Go
section
variable {P : Program} {ro : Option Nat} {m n N : Nat} {aops : List AOper} {l : List (Nat × AV)} {H : AHeap} {Q : Exit → AAct → AHeap → Nat → Prop}

theorem freshL_set {n : Nat} : ∀ {rs : List Rec} {L L' : List Nat}, (∀ x, x ∈ L' → x ∈ L) → freshL n L rs → freshL n L' rs
  | [], _, _, _, _ => trivial
  | r :: rs, L, L', h, hf => ⟨fun l hl => ⟨(hf.1 l hl).1, fun hx => (hf.1 l hl).2 (h l hx)⟩, freshL_set (fun x hx => by
      rcases List.mem_append.1 hx with hx | hx
      · exact List.mem_append.2 (.inl hx)
      · exact List.mem_append.2 (.inr (h x hx))) hf.2⟩
theorem freshL_append {n : Nat} : ∀ {rs qs : List Rec} {L : List Nat}, freshL n L rs → freshL n (rs.flatMap newLab ++ L) qs → freshL n L (rs ++ qs)
  | [], _, _, _, h => h
  | r :: rs, qs, L, h1, h2 => ⟨h1.1, freshL_append h1.2 (freshL_set (fun x hx => by
      simp only [List.flatMap_cons, List.mem_append] at hx ⊢
      rcases hx with hx | hx | hx
      · exact .inl (.inr hx)
      · exact .inl (.inl hx)
      · exact .inr hx) h2)⟩
theorem chain_append : ∀ {rs qs : List Rec} {a b c : AAct} {H G K : AHeap}, chain rs a H b G → chain qs b G c K → chain (rs ++ qs) a H c K
  | [], _, _, _, _, _, _, _, h, g => by obtain ⟨rfl, rfl⟩ := h; exact g
  | _ :: _, _, _, _, _, _, _, _, h, g => ⟨h.1, chain_append h.2 g⟩

theorem RegOK.comp {k m1 m2 c : Nat} {o1 o2 : RunOut} (h1 : RegOK P aops N k m1 c l H o1) (h2 : RegOK P aops N (k + m1) m2 o1.c o1.l o1.H o2) : RegOK P aops N k (m1 + m2) c l H o2 := by
  intro n L hn hL
  obtain ⟨rs, r1, r2, r3, r4, r5, r6⟩ := h1 n L hn hL
  obtain ⟨qs, q1, q2, q3, q4, q5, q6⟩ := h2 n (rs.flatMap newLab ++ L) (by omega) (fun x hx => by
    rcases List.mem_append.1 hx with hx | hx
    · exact r6 x hx
    · have := hL x hx; omega)
  refine ⟨rs ++ qs, ?_, fun r hr => (List.mem_append.1 hr).elim (r2 r) (q2 r), chain_append r3 q3, freshL_append r4 q4, by omega, fun x hx => ?_⟩
  · rw [List.map_append, r1, q1, List.range'_append_1]
  · simp only [List.flatMap_append, List.mem_append] at hx
    rcases hx with hx | hx
    · have := r6 x hx; omega
    · exact q6 x hx

def RegTo (P : Program) (aops : List AOper) (N k : Nat) (c : Nat) (l : List (Nat × AV)) (H : AHeap) (Q : Exit → AAct → AHeap → Nat → Prop) : Prop :=
  ∃ o : RunOut, RegOK P aops N k (aops.length - k) c l H o ∧ Q .normal ⟨N, o.l⟩ o.H o.c

theorem AWc.pieces (hm : m ≤ n) (h : RegTo P aops N 0 n l H Q) : AWc P ro m (.region false aops) ⟨N, l⟩ H n Q := by
  obtain ⟨o, h1, h2⟩ := h
  obtain ⟨rs, r1, r2, r3, r4, r5, r6⟩ := h1 n [] (Nat.le_refl _) (fun x hx => by cases hx)
  exact .region rs (by rw [r1, List.range_eq_range']; simp) r2 r3 r4 r5 r6 hm h2
theorem RegTo.done {k c : Nat} (hk : aops.length = k) (h : Q .normal ⟨N, l⟩ H c) : RegTo P aops N k c l H Q :=
  ⟨⟨l, H, c, True⟩, fun n L _ _ => ⟨[], by rw [hk]; simp, fun r hr => (by cases hr), ⟨rfl, rfl⟩, trivial, Nat.le_refl _, fun x hx => (by simp at hx)⟩, h⟩
theorem RegTo.piece {k k' c c' : Nat} {l' : List (Nat × AV)} {H' : AHeap} {s : Prop} (j : Nat) (cs : List Cres) (own : Nat → Bool) (os : List AOper) (hos : (aops.drop k).take j = os) (hj : k + j ≤ aops.length) (hk : k' = k + j)
    (h : runReg P N own os k cs c l H = some ⟨l', H', c', s⟩) (hs : s) (hn : RegTo P aops N k' c' l' H' Q) : RegTo P aops N k c l H Q := by
  subst hk
  obtain ⟨o, h1, h2⟩ := hn
  have hlen : (aops.take k).length = k := by simp; omega
  have hol : os.length = j := by rw [← hos]; simp; omega
  -- the piece's operations are the region's
  have key : ∀ (os pre post : List AOper) (cs : List Cres) (c : Nat) (l : List (Nat × AV)) (H : AHeap) (o : RunOut), pre ++ (os ++ post) = aops →
      runReg P N own os pre.length cs c l H = some o → o.side → RegOK P aops N pre.length os.length c l H o := by
    intro os pre post cs c l H o hpre h hs
    have h0 := runReg_ok (aops := pre ++ os) os pre cs c l H o rfl h hs
    intro n L hn hL
    obtain ⟨rs, r1, r2, r3, r4, r5, r6⟩ := h0 n L hn hL
    refine ⟨rs, r1, fun r hr => ?_, r3, r4, r5, r6⟩
    obtain ⟨ao, ha, hrest⟩ := r2 r hr
    refine ⟨ao, ?_, hrest⟩
    rw [← hpre, ← List.append_assoc, List.getElem?_append_left (List.getElem?_eq_some_iff.1 ha).1]
    exact ha
  have hsplit : aops.take k ++ (os ++ (aops.drop k).drop j) = aops := by
    rw [← hos, List.take_append_drop, List.take_append_drop]
  have h3 := key os (aops.take k) ((aops.drop k).drop j) cs c l H _ hsplit (by rw [hlen]; exact h) hs
  rw [hlen, hol] at h3
  have := h3.comp h1
  have e : j + (aops.length - (k + j)) = aops.length - k := by omega
  rw [e] at this
  exact ⟨o, this, h2⟩
end
end Go.Proofs.Abs
