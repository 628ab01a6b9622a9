/- Small words of the generator. -/
import Derived.Test.YtgimibhacllcpaaAbs31
namespace Go.Proofs.Abs
open Go
set_option linter.unusedVariables false
theorem rfl_le {a b : Nat} (h : Nat.ble a b = true := by rfl) : a ≤ b := Nat.le_of_ble_eq_true h
abbrev slE {α : Type} (e : α → D) (xs : List α) : D := .sl (xs.map e)
/-- how a loop ends: at its first or second end, or by what the function returns -/
inductive LR2 (σ τ ρ : Type) where
  | b0 (s : σ)
  | b1 (s : τ)
  | r (x : ρ)
def u8 (n : Int) : UInt8 := UInt8.ofNat n.toNat
theorem u8_eq {n : Int} (h : 0 ≤ n ∧ n < 256) : (D.int .u8 n) = .int .u8 ((u8 n).toNat : Nat) := by
  have : ((u8 n).toNat : Int) = n := by
    simp only [u8, UInt8.toNat_ofNat']
    omega
  rw [this]
theorem u8_wrap (n : Int) : 0 ≤ IntKind.u8.wrap n ∧ IntKind.u8.wrap n < 256 := by
  simp only [IntKind.wrap, IntKind.signed, IntKind.bits]
  simp
  omega
theorem u8_bits (op : BinOp) (a b : Int) : 0 ≤ bitsA op .u8 a b ∧ bitsA op .u8 a b < 256 := by
  unfold bitsA
  dsimp only
  split <;> exact u8_wrap _
theorem Sub.u8 {n : Int} (h : 0 ≤ n ∧ n < 256) : Sub (.d (.int .u8 n)) (.d (.int .u8 ((u8 n).toNat : Nat))) := .of_eq (congrArg AV.d (u8_eq h))

/-- A LOOP, by its fuel -/
theorem AWc.loopK {P : Program} {ro : Option Nat} {a : AAct} {H : AHeap} {n m : Nat} {Q : Exit → AAct → AHeap → Nat → Prop} {σ : Type} {c : ACode} {N : Nat} (K : Nat) (L : σ → List (Nat × AV)) (Hc : σ → AHeap) (I : Nat → σ → Prop) (k₀ : Nat) (x₀ : σ) (hm : m ≤ K)
    (h0 : ∀ x, ¬ I 0 x) (h₀ : I k₀ x₀) (hin : InS m N K (L x₀) (Hc x₀) a H n)
    (round : ∀ k x, I (k + 1) x → AWc P ro m c ⟨N, L x⟩ (Hc x) K (then' (fun a H n => ∃ y, I k y ∧ InS m N K (L y) (Hc y) a H n) Q)) : AWc P ro m (.loop c) a H n Q := by
  refine AWc.loopS (α := Nat × σ) K (fun x => L x.2) (fun x => Hc x.2) (fun x => I x.1 x.2) (fun x => x.1) (k₀, x₀) hm h₀ hin ?_
  rintro ⟨k, x⟩ h
  cases k with
  | zero => exact (h0 x h).elim
  | succ k =>
    refine (round k x h).mono fun ex a H n q => ?_
    cases ex with
    | normal => obtain ⟨y, h1, h2⟩ := q; exact ⟨(k, y), h1, Nat.lt_succ_self k, h2⟩
    | exit j => exact q
    | goto l => exact q
    | ret => exact q
    | panic ch => exact q
    | outgrown => exact q
def HasAll (H : AHeap) : AHeap → Prop
  | [] => True
  | (l, o) :: r => lkH H l = some o ∧ HasAll H r
theorem hasNil {H : AHeap} : HasAll H [] := trivial
theorem hasCons {H r : AHeap} {l : Nat} {o : AObj} (h : lkH H l = some o) (hr : HasAll H r) : HasAll H ((l, o) :: r) := ⟨h, hr⟩
theorem HasAll.get {H : AHeap} : ∀ {G : AHeap}, HasAll H G → ∀ x ∈ G, lkH H x.1 = some x.2
  | [], _, x, hx => by cases hx
  | (l, o) :: r, h, x, hx => by
    rcases List.mem_cons.1 hx with rfl | hx
    · exact h.1
    · exact HasAll.get h.2 x hx
theorem doneA {a : AAct} {H : AHeap} {n : Nat} {rs : List ARes} {r : AV} {H' : AHeap} {xs : List AV} {s : Prop} {e : Exit} (he : e = .normal ∨ e = .ret) (h : resAll a.l H rs = some (xs, s)) (hs : s) (hsub : Sub (resV xs) r)
    (hH : HasAll H H') : DoneS rs r H' e a H n := doneS he h hs hsub hH.get

section
variable {P : Program} {aops os : List AOper} {draw : Bool} {N k c : Nat} {l : List (Nat × AV)} {H : AHeap} {A : List Tk} {Q : AAct → AHeap → Nat → Prop}
variable {op : AOp} {g : Option (Nat × Bool)} {af : List Nat} {t : Nat}
theorem RegV.agq {neg : Bool} {ks : List Nat} {x y : Arg} {xs ys : List D} {b v : Bool} (hg : gOn g (us l ⟨some t, .aggeq neg ks x y, g, af⟩) = some true) (hx : evA (us l ⟨some t, .aggeq neg ks x y, g, af⟩) x = some (.d (.agg xs)))
    (hy : evA (us l ⟨some t, .aggeq neg ks x y, g, af⟩) y = some (.d (.agg ys))) (h : eqDs ks xs ys = some b) (hv : (bif neg then !b else b) = v) (hd : Nat.blt t N = true)
    (hn : RegV P aops draw N (k + 1) os c ((t, .d (.bool v)) :: l) H (⟨[], true⟩ :: A) Q) : RegV P aops draw N k (⟨some t, .aggeq neg ks x y, g, af⟩ :: os) c l H A Q := by
  subst hv
  exact RegV.up (fun _ => RegU.op (hin := []) (hout := []) hg (AOpT.agq hx hy h) hd (fun x hx => by cases hx) rfl rfl (fun _ => rfl) rfl (restK_nil H) rfl) hn
theorem RegV.callH {d : Option Nat} {gg : Arg} {as : List Arg} {fv : AV} {vs ws ys : List AV} {f : FuncId} {r r' : AV} {hin hout H' : AHeap} {c' : Nat} {l' : List (Nat × AV)} {q : Bool} (hcall : ACalls P f ys hin r hout)
    (hg : gOn g (us l ⟨d, .call gg as, g, af⟩) = some true) (hf : evA (us l ⟨d, .call gg as, g, af⟩) gg = some fv) (has : allAV (evA (us l ⟨d, .call gg as, g, af⟩)) as = some vs) (hco : callOf fv vs = some (f, ws)) (hsub : SubL ws ys)
    (hr : Sub r r') (hq : q = true → hin = hout) (hd : dstOK d N = true) (hin' : HasAll H hin) (hn : newOK c hin hout = true) (hF : nodupH hout = true) (hl : putL d r' l = l') (hH : appK hout (restK hin hout H) = H') (hc : topK c hout = c')
    (hn' : RegV P aops draw N (k + 1) os c' l' H' (⟨hin.keys ++ hout.keys, q⟩ :: A) Q) : RegV P aops draw N k (⟨d, .call gg as, g, af⟩ :: os) c l H A Q :=
  RegV.call hcall hg hf has hco hsub hr hq hd hin'.get hn hF hl hH hc hn'
theorem RegV.evS {own : Bool} {v v' : AV} {s : Prop} {hin hout H' : AHeap} {c' : Nat} (hg : gOn g (us l ⟨some t, op, g, af⟩) = some true) (h : evOp own c (evA (us l ⟨some t, op, g, af⟩)) H op = some ⟨v, hin, hout, s⟩) (hs : s)
    (hd : Nat.blt t N = true) (hn : newOK c hin hout = true) (hF : nodupH hout = true) (hv : v = v') (hH : appK hout (restK hin hout H) = H') (hc : topK c hout = c')
    (hn' : RegV P aops draw N (k + 1) os c' ((t, v') :: l) H' (⟨hin.keys ++ hout.keys, false⟩ :: A) Q) : RegV P aops draw N k (⟨some t, op, g, af⟩ :: os) c l H A Q := RegV.ev hg h hs hd hn hF hv rfl hH hc hn'
theorem RegV.evN {own : Bool} {v : AV} {s : Prop} {hin hout H' : AHeap} {c' : Nat} (hg : gOn g (us l ⟨none, op, g, af⟩) = some true) (h : evOp own c (evA (us l ⟨none, op, g, af⟩)) H op = some ⟨v, hin, hout, s⟩) (hs : s)
    (hn : newOK c hin hout = true) (hF : nodupH hout = true) (hH : appK hout (restK hin hout H) = H') (hc : topK c hout = c')
    (hn' : RegV P aops draw N (k + 1) os c' l H' (⟨hin.keys ++ hout.keys, false⟩ :: A) Q) : RegV P aops draw N k (⟨none, op, g, af⟩ :: os) c l H A Q := RegV.ev hg h hs rfl hn hF rfl rfl hH hc hn'
theorem RegV.noS (hg : gOn g (us l ⟨some t, op, g, af⟩) = some false) (hd : Nat.blt t N = true) (hn : RegV P aops draw N (k + 1) os c ((t, .tup []) :: l) H (⟨[], true⟩ :: A) Q) :
    RegV P aops draw N k (⟨some t, op, g, af⟩ :: os) c l H A Q := RegV.no hg hd hn
theorem RegV.noN (hg : gOn g (us l ⟨none, op, g, af⟩) = some false) (hn : RegV P aops draw N (k + 1) os c l H (⟨[], true⟩ :: A) Q) :
    RegV P aops draw N k (⟨none, op, g, af⟩ :: os) c l H A Q := RegV.no hg rfl hn
theorem RegV.callS {gg : Arg} {as : List Arg} {fv : AV} {vs ws ys : List AV} {f : FuncId} {r r' : AV} {hin hout H' : AHeap} {c' : Nat} {q : Bool} (hcall : ACalls P f ys hin r hout)
    (hg : gOn g (us l ⟨some t, .call gg as, g, af⟩) = some true) (hf : evA (us l ⟨some t, .call gg as, g, af⟩) gg = some fv) (has : allAV (evA (us l ⟨some t, .call gg as, g, af⟩)) as = some vs) (hco : callOf fv vs = some (f, ws)) (hsub : SubL ws ys)
    (hr : Sub r r') (hq : q = true → hin = hout) (hd : Nat.blt t N = true) (hin' : HasAll H hin) (hn : newOK c hin hout = true) (hF : nodupH hout = true) (hH : appK hout (restK hin hout H) = H') (hc : topK c hout = c')
    (hn' : RegV P aops draw N (k + 1) os c' ((t, r') :: l) H' (⟨hin.keys ++ hout.keys, q⟩ :: A) Q) : RegV P aops draw N k (⟨some t, .call gg as, g, af⟩ :: os) c l H A Q :=
  RegV.call hcall hg hf has hco hsub hr hq hd hin'.get hn hF rfl hH hc hn'
theorem RegV.callN {gg : Arg} {as : List Arg} {fv : AV} {vs ws ys : List AV} {f : FuncId} {r : AV} {hin hout H' : AHeap} {c' : Nat} {q : Bool} (hcall : ACalls P f ys hin r hout)
    (hg : gOn g (us l ⟨none, .call gg as, g, af⟩) = some true) (hf : evA (us l ⟨none, .call gg as, g, af⟩) gg = some fv) (has : allAV (evA (us l ⟨none, .call gg as, g, af⟩)) as = some vs) (hco : callOf fv vs = some (f, ws)) (hsub : SubL ws ys)
    (hq : q = true → hin = hout) (hin' : HasAll H hin) (hn : newOK c hin hout = true) (hF : nodupH hout = true) (hH : appK hout (restK hin hout H) = H') (hc : topK c hout = c')
    (hn' : RegV P aops draw N (k + 1) os c' l H' (⟨hin.keys ++ hout.keys, q⟩ :: A) Q) : RegV P aops draw N k (⟨none, .call gg as, g, af⟩ :: os) c l H A Q :=
  RegV.call hcall hg hf has hco hsub (.refl _) hq rfl hin'.get hn hF rfl hH hc hn'
end
end Go.Proofs.Abs
