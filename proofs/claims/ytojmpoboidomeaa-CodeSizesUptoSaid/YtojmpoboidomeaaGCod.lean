/- Written by gen.py: functions of the program as Lean functions, and that the code comes to them. -/
import Derived.Test.YtojmpoboidomeaaAbsxc
set_option linter.unusedVariables false
set_option linter.unusedSimpArgs false
set_option maxRecDepth 100000
set_option maxHeartbeats 4000000
namespace Go.Proofs.Abs
open Go

/-- courant/code.fold -/
def C82 (N : Nat → Nat) : AFunc := { n := 10, params := 1, res := [.tmp 2], body :=
 (.seq (.region false [⟨(some 2), .mv (.k (.d (.int .u64 0))), none, []⟩])
  (.seq (.region false [⟨(some 3), .mv (.t 0), none, []⟩,
    ⟨(some 4), .cvi .u64 (.t 3), none, [0]⟩,
    ⟨(some 5), .bin .shl (.t 4) (.k (.d (.int .u64 1))), none, [1]⟩,
    ⟨(some 6), .mv (.t 0), none, []⟩,
    ⟨(some 7), .bin .shr (.t 6) (.k (.d (.int .u64 63))), none, [3]⟩,
    ⟨(some 8), .cvi .u64 (.t 7), none, [4]⟩,
    ⟨(some 9), .bin .xor (.t 5) (.t 8), none, [2, 5]⟩,
    ⟨(some 2), .mv (.t 9), none, [6, 0, 1, 2, 3, 4, 5]⟩])
   .ret)) }
def HC82 (P : Program) (N : Nat → Nat) : Prop := HasF P (N 82) (C82 N)
def f82 (k : Nat) (a0 : Int) : Option Unit := some ()
theorem F82 {P : Program} {N : Nat → Nat} (hmix : P.follows .mixedOrders = true) (hc : HC82 P N) {k : Nat} {a0 : Int} {r : Unit} (h : f82 k a0 = some r) :
    ACalls P (N 82) [(.d (.int .i64 a0))] [] (.d (.int .u64 (bitsA .xor .u64 (IntKind.u64.wrap ((IntKind.u64.wrap a0) * 2 ^ (min ((1 : Int)).toNat IntKind.u64.bits))) (IntKind.u64.wrap (Int.fdiv a0 (2 ^ (min ((63 : Int)).toNat IntKind.i64.bits))))))) [] := by
  refine acalls_canon (F := C82 N) hc 0 0 rfl ?_
  unfold f82 at h
  dsimp only [C82, startL]
  refine AWc.seq ?_
  refine AWc.rg hmix rfl rfl ?_
  refine RegV.p0 rfl rfl rfl ?_
  refine RegV.nil0 ?_
  refine AWc.seq ?_
  refine AWc.rg hmix rfl rfl ?_
  refine RegV.p0 rfl rfl rfl ?_
  refine RegV.p0 (v := (.d (.int .u64 (IntKind.u64.wrap a0)))) rfl rfl rfl ?_
  refine RegV.p1 (v := (.d (.int .u64 (IntKind.u64.wrap ((IntKind.u64.wrap a0) * 2 ^ (min ((1 : Int)).toNat IntKind.u64.bits)))))) rfl rfl (by decide) rfl rfl ?_
  refine RegV.p0 rfl rfl rfl ?_
  refine RegV.p1 (v := (.d (.int .i64 (Int.fdiv a0 (2 ^ (min ((63 : Int)).toNat IntKind.i64.bits)))))) rfl rfl (by decide) rfl rfl ?_
  refine RegV.p0 (v := (.d (.int .u64 (IntKind.u64.wrap (Int.fdiv a0 (2 ^ (min ((63 : Int)).toNat IntKind.i64.bits))))))) rfl rfl rfl ?_
  refine RegV.p0 (v := (.d (.int .u64 (bitsA .xor .u64 (IntKind.u64.wrap ((IntKind.u64.wrap a0) * 2 ^ (min ((1 : Int)).toNat IntKind.u64.bits))) (IntKind.u64.wrap (Int.fdiv a0 (2 ^ (min ((63 : Int)).toNat IntKind.i64.bits)))))))) rfl rfl rfl ?_
  refine RegV.p0 rfl rfl rfl ?_
  refine RegV.nil0 ?_
  have hr := Option.some.inj h
  subst hr
  exact AWc.ret (canQ (N := 10) (k := 0) (l' := [(2, (.d (.int .u64 (bitsA .xor .u64 (IntKind.u64.wrap ((IntKind.u64.wrap a0) * 2 ^ (min ((1 : Int)).toNat IntKind.u64.bits))) (IntKind.u64.wrap (Int.fdiv a0 (2 ^ (min ((63 : Int)).toNat IntKind.i64.bits))))))))]) (H' := []) rfl ⟨rfl, [], [], rfl, rfl, ⟨⟨_, rfl, (.refl _)⟩, rfl, trivial⟩,  trivial⟩ (doneA (.inr rfl) rfl ⟨trivial, trivial⟩ (.refl _) hasNil))
/-- courant/code.Num -/
def C23 (N : Nat → Nat) : AFunc := { n := 19, params := 1, res := [.tmp 2], body :=
 (.seq (.region false [⟨(some 2), .mv (.k .nils), none, []⟩])
  (.seq (.region false [⟨(some 3), .mv (.k .nils), none, []⟩])
   (.seq (.block 0 (.loop (.seq (.seq (.region false [⟨(some 4), .mv (.t 0), none, []⟩,
         ⟨(some 5), .bin .geq (.t 4) (.k (.d (.int .u64 128))), none, [0]⟩])
        (.cond (.t 5) (.skip)
         (.exit 0)))
       (.seq (.block 1 (.region false [⟨(some 8), .mv (.t 3), none, []⟩,
          ⟨(some 9), .mv (.t 0), none, []⟩,
          ⟨(some 10), .cvi .u8 (.t 9), none, [1]⟩,
          ⟨(some 11), .bin .or (.t 10) (.k (.d (.int .u8 128))), none, [2]⟩,
          ⟨(some 12), .bslice 1 1 [(.int .u8 0)] [(0, (.t 11))], none, [3]⟩,
          ⟨(some 13), .app (.t 8) (.t 12) 1 1 [(.int .u8 0)], none, [0, 4]⟩,
          ⟨(some 3), .mv (.t 13), none, [5, 0, 1, 2, 3, 4]⟩]))
        (.region false [⟨(some 6), .mv (.t 0), none, []⟩,
         ⟨(some 7), .bin .shr (.t 6) (.k (.d (.int .u64 7))), none, [0]⟩,
         ⟨(some 0), .mv (.t 7), none, [1, 0]⟩])))))
    (.seq (.region false [⟨(some 14), .mv (.t 3), none, []⟩,
      ⟨(some 15), .mv (.t 0), none, []⟩,
      ⟨(some 16), .cvi .u8 (.t 15), none, [1]⟩,
      ⟨(some 17), .bslice 1 1 [(.int .u8 0)] [(0, (.t 16))], none, [2]⟩,
      ⟨(some 18), .app (.t 14) (.t 17) 1 1 [(.int .u8 0)], none, [0, 3]⟩,
      ⟨(some 2), .mv (.t 18), none, [4, 0, 1, 2, 3]⟩])
     .ret)))) }
def HC23 (P : Program) (N : Nat → Nat) : Prop := HasF P (N 23) (C23 N)
def f23_l10 : Nat → Int → (List UInt8) → Option (LR2 (Int × (List UInt8)) Unit (List UInt8))
  | 0, _, _ => none
  | k + 1, y10_1, y10_2 => cond (decide (y10_1 ≥ (128 : Int))) (gd ((y10_2.length + ([(u8 (bitsA .or .u8 (IntKind.u8.wrap y10_1) (128 : Int)))] : List UInt8).length) * 2 * 1 ≤ 281474976710656) (f23_l10 k (Int.fdiv y10_1 (2 ^ (min ((7 : Int)).toNat IntKind.u64.bits))) (y10_2 ++ ([(u8 (bitsA .or .u8 (IntKind.u8.wrap y10_1) (128 : Int)))] : List UInt8)))) (some (.b0 (y10_1, y10_2)))
def f23 (k : Nat) (a0 : Int) : Option (List UInt8) := (f23_l10 k a0 ([] : List UInt8)).bind fun o10 => match o10 with | .b0 (x10_1, x10_2) => gd ((x10_2.length + ([(u8 (IntKind.u8.wrap x10_1))] : List UInt8).length) * 2 * 1 ≤ 281474976710656) (some (x10_2 ++ ([(u8 (IntKind.u8.wrap x10_1))] : List UInt8))) | _ => none
theorem F23 {P : Program} {N : Nat → Nat} (hmix : P.follows .mixedOrders = true) (hc : HC23 P N) {k : Nat} {a0 : Int} {r : (List UInt8)} (h : f23 k a0 = some r) :
    ACalls P (N 23) [(.d (.int .u64 a0))] [] (.ap 0 1 (List.map byteD r)) [(0, (.tok ((List.map byteD r).length * 1)))] := by
  refine acalls_canon (F := C23 N) hc 0 1 rfl ?_
  unfold f23 at h
  dsimp only [C23, startL]
  refine AWc.seq ?_
  refine AWc.rg hmix rfl rfl ?_
  refine RegV.p0 rfl rfl rfl ?_
  refine RegV.nil0 ?_
  refine AWc.seq ?_
  refine AWc.rg hmix rfl rfl ?_
  refine RegV.p0 rfl rfl rfl ?_
  refine RegV.nil0 ?_
  obtain ⟨o10, h10, h⟩ := bind_some h
  refine AWc.seqS (N := 19) 1 (fun (z : (Int × (List UInt8))) => [(0, (.d (.int .u64 z.1))), (3, (.ap 0 1 (List.map byteD z.2)))]) (fun z => [(0, (.tok ((List.map byteD z.2).length * 1)))]) (fun z => o10 = .b0 z) rfl_le ?_ ?_
  · refine AWc.block ?_
    refine AWc.loopK (N := 19) 1 (fun (x : (Int × (List UInt8))) => [(0, (.d (.int .u64 x.1))), (3, (.ap 0 1 (List.map byteD x.2)))]) (fun x => [(0, (.tok ((List.map byteD x.2).length * 1)))]) (fun k x => f23_l10 k x.1 x.2 = some o10) k (a0, ([] : List UInt8)) rfl_le (fun x hx => by cases hx) h10 ⟨rfl, [.tok 0], [(0, 0)], rfl, rfl, ⟨⟨_, rfl, (.refl _)⟩, rfl, ⟨⟨_, rfl, .nil⟩, rfl, trivial⟩⟩, ⟨⟨_, rfl, (.refl _)⟩, rfl, rfl, trivial⟩⟩ ?_
    clear h10
    intro k
    rintro ⟨y10_1, y10_2⟩ h10
    dsimp only at h10 ⊢
    rw [f23_l10] at h10
    refine AWc.seq ?_
    refine AWc.seq ?_
    refine AWc.rg hmix rfl rfl ?_
    refine RegV.p0 rfl rfl rfl ?_
    refine RegV.p0 (v := (.d (.bool (decide (y10_1 ≥ (128 : Int)))))) rfl rfl rfl ?_
    refine RegV.nil0 ?_
    refine AWc.cond rfl (fun c18 => ?_) (fun c18 => ?_)
    · have h10 := cond_pos c18 h10
      refine AWc.skip ?_
      refine AWc.seq ?_
      refine AWc.block ?_
      refine AWc.rg hmix rfl rfl ?_
      refine RegV.p0 rfl rfl rfl ?_
      refine RegV.p0 rfl rfl rfl ?_
      refine RegV.p0 (v := (.d (.int .u8 (IntKind.u8.wrap y10_1)))) rfl rfl rfl ?_
      refine RegV.p0 (v := (.d (.int .u8 (bitsA .or .u8 (IntKind.u8.wrap y10_1) (128 : Int))))) rfl rfl rfl ?_
      refine RegV.p1 (v := .d (.sl [(.int .u8 (bitsA .or .u8 (IntKind.u8.wrap y10_1) (128 : Int)))])) (v' := (.d (.sl (List.map byteD ([(u8 (bitsA .or .u8 (IntKind.u8.wrap y10_1) (128 : Int)))] : List UInt8))))) (s := ([(.int .u8 0)] : List D).length = 1 ∧ 1 * 1 ≤ 16777216 ∧ ∀ d ∈ ([(.int .u8 (bitsA .or .u8 (IntKind.u8.wrap y10_1) (128 : Int)))] : List D), d.cells.length = 1) rfl rfl ⟨rfl, Nat.le_of_ble_eq_true rfl, by simp [D.cells]⟩ rfl (by simp only [List.map_cons, List.map_nil, byteD, ← u8_eq (u8_wrap _), ← u8_eq (u8_bits _ _ _)]) ?_
      obtain ⟨b30, h10⟩ := gd_some h10
      refine RegV.appA (xs := y10_2) (ys := ([(u8 (bitsA .or .u8 (IntKind.u8.wrap y10_1) (128 : Int)))] : List UInt8)) (e := byteD) (H1 := []) rfl rfl rfl rfl (fun _ => rfl) rfl rfl b30 rfl rfl rfl ?_
      refine RegV.p0 rfl rfl rfl ?_
      refine RegV.nil0 ?_
      refine AWc.rg hmix rfl rfl ?_
      refine RegV.p0 rfl rfl rfl ?_
      refine RegV.p1 (v := (.d (.int .u64 (Int.fdiv y10_1 (2 ^ (min ((7 : Int)).toNat IntKind.u64.bits)))))) rfl rfl (by decide) rfl rfl ?_
      refine RegV.p0 rfl rfl rfl ?_
      refine RegV.nil0 ?_
      exact ⟨((Int.fdiv y10_1 (2 ^ (min ((7 : Int)).toNat IntKind.u64.bits))), (y10_2 ++ ([(u8 (bitsA .or .u8 (IntKind.u8.wrap y10_1) (128 : Int)))] : List UInt8))), h10, ⟨rfl, [], [(0, 1)], rfl, rfl, ⟨⟨_, rfl, (.refl _)⟩, rfl, ⟨⟨_, rfl, (.refl _)⟩, rfl, trivial⟩⟩, ⟨⟨_, rfl, (.refl _)⟩, rfl, rfl, trivial⟩⟩⟩
    · have h10 := cond_neg c18 h10
      cases h10
      dsimp only at h
      refine AWc.exit ?_
      refine inBlk_eq ?_
      exact ⟨(y10_1, y10_2), rfl, ⟨rfl, [], [], rfl, rfl, ⟨⟨_, rfl, (.refl _)⟩, rfl, ⟨⟨_, rfl, (.refl _)⟩, rfl, trivial⟩⟩, ⟨⟨_, rfl, (.refl _)⟩, rfl, rfl, trivial⟩⟩⟩
  · rintro ⟨x10_1, x10_2⟩ ho
    subst ho
    dsimp only at h ⊢
    refine AWc.seq ?_
    refine AWc.rg hmix rfl rfl ?_
    refine RegV.p0 rfl rfl rfl ?_
    refine RegV.p0 rfl rfl rfl ?_
    refine RegV.p0 (v := (.d (.int .u8 (IntKind.u8.wrap x10_1)))) rfl rfl rfl ?_
    refine RegV.p1 (v := .d (.sl [(.int .u8 (IntKind.u8.wrap x10_1))])) (v' := (.d (.sl (List.map byteD ([(u8 (IntKind.u8.wrap x10_1))] : List UInt8))))) (s := ([(.int .u8 0)] : List D).length = 1 ∧ 1 * 1 ≤ 16777216 ∧ ∀ d ∈ ([(.int .u8 (IntKind.u8.wrap x10_1))] : List D), d.cells.length = 1) rfl rfl ⟨rfl, Nat.le_of_ble_eq_true rfl, by simp [D.cells]⟩ rfl (by simp only [List.map_cons, List.map_nil, byteD, ← u8_eq (u8_wrap _), ← u8_eq (u8_bits _ _ _)]) ?_
    obtain ⟨b44, h⟩ := gd_some h
    refine RegV.appA (xs := x10_2) (ys := ([(u8 (IntKind.u8.wrap x10_1))] : List UInt8)) (e := byteD) (H1 := []) rfl rfl rfl rfl (fun _ => rfl) rfl rfl b44 rfl rfl rfl ?_
    refine RegV.p0 rfl rfl rfl ?_
    refine RegV.nil0 ?_
    have hr := Option.some.inj h
    subst hr
    exact AWc.ret (canQ (N := 19) (k := 1) (l' := [(2, (.ap 0 1 (List.map byteD (x10_2 ++ ([(u8 (IntKind.u8.wrap x10_1))] : List UInt8)))))]) (H' := [(0, (.tok ((List.map byteD (x10_2 ++ ([(u8 (IntKind.u8.wrap x10_1))] : List UInt8))).length * 1)))]) rfl ⟨rfl, [], [(0, 1)], rfl, rfl, ⟨⟨_, rfl, (.refl _)⟩, rfl, trivial⟩, ⟨⟨_, rfl, (.refl _)⟩, rfl, rfl, trivial⟩⟩ (doneA (.inr rfl) rfl ⟨trivial, trivial⟩ (.refl _) (hasCons rfl hasNil)))
/-- courant/code.Zig -/
def C25 (N : Nat → Nat) : AFunc := { n := 6, params := 1, res := [.tmp 2], body :=
 (.seq (.region false [⟨(some 2), .mv (.k .nils), none, []⟩])
  (.seq (.region false [⟨(some 3), .mv (.t 0), none, []⟩,
    ⟨(some 4), .call (.k (.d (.fn (N 82)))) [(.t 3)], none, [0]⟩,
    ⟨(some 5), .call (.k (.d (.fn (N 23)))) [(.t 4)], none, [1]⟩,
    ⟨(some 2), .mv (.t 5), none, [2, 0, 1]⟩])
   .ret)) }
def HC25 (P : Program) (N : Nat → Nat) : Prop := HasF P (N 25) (C25 N) ∧ HC82 P N ∧ HC23 P N
def f25 (k : Nat) (a0 : Int) : Option (List UInt8) := (f82 k a0).bind fun r9 => (f23 k (bitsA .xor .u64 (IntKind.u64.wrap ((IntKind.u64.wrap a0) * 2 ^ (min ((1 : Int)).toNat IntKind.u64.bits))) (IntKind.u64.wrap (Int.fdiv a0 (2 ^ (min ((63 : Int)).toNat IntKind.i64.bits)))))).bind fun r10 => some r10
theorem F25 {P : Program} {N : Nat → Nat} (hmix : P.follows .mixedOrders = true) (hc : HC25 P N) {k : Nat} {a0 : Int} {r : (List UInt8)} (h : f25 k a0 = some r) :
    ACalls P (N 25) [(.d (.int .i64 a0))] [] (.ap 0 1 (List.map byteD r)) [(0, (.tok ((List.map byteD r).length * 1)))] := by
  refine acalls_canon (F := C25 N) hc.1 0 1 rfl ?_
  unfold f25 at h
  dsimp only [C25, startL]
  refine AWc.seq ?_
  refine AWc.rg hmix rfl rfl ?_
  refine RegV.p0 rfl rfl rfl ?_
  refine RegV.nil0 ?_
  refine AWc.seq ?_
  refine AWc.rg hmix rfl rfl ?_
  refine RegV.p0 rfl rfl rfl ?_
  obtain ⟨r9, e9, h⟩ := bind_some h
  refine RegV.call0 (F82 hmix hc.2.1 e9) rfl rfl rfl rfl (.cons (.refl _) .nil) rfl ?_
  obtain ⟨r10, e10, h⟩ := bind_some h
  refine RegV.callS (q := false) (H' := [(0, (.tok ((List.map byteD r10).length * 1)))]) (c' := 1) (show ACalls P (N 23) [(.d (.int .u64 (bitsA .xor .u64 (IntKind.u64.wrap ((IntKind.u64.wrap a0) * 2 ^ (min ((1 : Int)).toNat IntKind.u64.bits))) (IntKind.u64.wrap (Int.fdiv a0 (2 ^ (min ((63 : Int)).toNat IntKind.i64.bits)))))))] [] (.ap 0 1 (List.map byteD r10)) [(0, (.tok ((List.map byteD r10).length * 1)))] from ACalls.use (F23 hmix hc.2.2 e10) [(0, 0)] 1 rfl) rfl rfl rfl rfl (.cons (.refl _) .nil) (.refl _) (fun h => by cases h) rfl hasNil rfl rfl rfl rfl ?_
  refine RegV.p0 rfl rfl rfl ?_
  refine RegV.nil0 ?_
  have hr := Option.some.inj h
  subst hr
  exact AWc.ret (canQ (N := 6) (k := 1) (l' := [(2, (.ap 0 1 (List.map byteD r10)))]) (H' := [(0, (.tok ((List.map byteD r10).length * 1)))]) rfl ⟨rfl, [], [], rfl, rfl, ⟨⟨_, rfl, (.refl _)⟩, rfl, trivial⟩, ⟨⟨_, rfl, (.refl _)⟩, rfl, rfl, trivial⟩⟩ (doneA (.inr rfl) rfl ⟨trivial, trivial⟩ (.refl _) (hasCons rfl hasNil)))
/-- courant/code.Text -/
def C27 (N : Nat → Nat) : AFunc := { n := 8, params := 1, res := [.tmp 2], body :=
 (.seq (.region false [⟨(some 2), .mv (.k .nils), none, []⟩])
  (.seq (.region false [⟨(some 3), .mv (.t 0), none, []⟩,
    ⟨(some 4), .len (.t 3), none, [0]⟩,
    ⟨(some 5), .call (.k (.d (.fn (N 25)))) [(.t 4)], none, [1]⟩,
    ⟨(some 6), .mv (.t 0), none, []⟩,
    ⟨(some 7), .app (.t 5) (.t 6) 1 1 [(.int .u8 0)], none, [2, 3]⟩,
    ⟨(some 2), .mv (.t 7), none, [4, 0, 1, 2, 3]⟩])
   .ret)) }
def HC27 (P : Program) (N : Nat → Nat) : Prop := HasF P (N 27) (C27 N) ∧ HC25 P N
def f27 (k : Nat) (a0 : (List UInt8)) : Option (List UInt8) := (f25 k ((a0.length : Nat) : Int)).bind fun r10 => gd ((r10.length + a0.length) * 2 * 1 ≤ 281474976710656) (some (r10 ++ a0))
theorem F27 {P : Program} {N : Nat → Nat} (hmix : P.follows .mixedOrders = true) (hc : HC27 P N) {k : Nat} {a0 : (List UInt8)} {r : (List UInt8)} (h : f27 k a0 = some r) :
    ACalls P (N 27) [(.d (.sl (List.map byteD a0)))] [] (.ap 0 1 (List.map byteD r)) [(0, (.tok ((List.map byteD r).length * 1)))] := by
  refine acalls_canon (F := C27 N) hc.1 0 1 rfl ?_
  unfold f27 at h
  dsimp only [C27, startL]
  refine AWc.seq ?_
  refine AWc.rg hmix rfl rfl ?_
  refine RegV.p0 rfl rfl rfl ?_
  refine RegV.nil0 ?_
  refine AWc.seq ?_
  refine AWc.rg hmix rfl rfl ?_
  refine RegV.p0 rfl rfl rfl ?_
  refine RegV.len (xs := a0) (e := byteD) rfl rfl rfl rfl ?_
  obtain ⟨r10, e10, h⟩ := bind_some h
  refine RegV.callS (q := false) (H' := [(0, (.tok ((List.map byteD r10).length * 1)))]) (c' := 1) (show ACalls P (N 25) [(.d (.int .i64 ((a0.length : Nat) : Int)))] [] (.ap 0 1 (List.map byteD r10)) [(0, (.tok ((List.map byteD r10).length * 1)))] from ACalls.use (F25 hmix hc.2 e10) [(0, 0)] 1 rfl) rfl rfl rfl rfl (.cons (.refl _) .nil) (.refl _) (fun h => by cases h) rfl hasNil rfl rfl rfl rfl ?_
  refine RegV.p0 rfl rfl rfl ?_
  obtain ⟨b12, h⟩ := gd_some h
  refine RegV.appA (xs := r10) (ys := a0) (e := byteD) (H1 := []) rfl rfl rfl rfl (fun _ => rfl) rfl rfl b12 rfl rfl rfl ?_
  refine RegV.p0 rfl rfl rfl ?_
  refine RegV.nil0 ?_
  have hr := Option.some.inj h
  subst hr
  exact AWc.ret (canQ (N := 8) (k := 1) (l' := [(2, (.ap 0 1 (List.map byteD (r10 ++ a0))))]) (H' := [(0, (.tok ((List.map byteD (r10 ++ a0)).length * 1)))]) rfl ⟨rfl, [], [(0, 1)], rfl, rfl, ⟨⟨_, rfl, (.refl _)⟩, rfl, trivial⟩, ⟨⟨_, rfl, (.refl _)⟩, rfl, rfl, trivial⟩⟩ (doneA (.inr rfl) rfl ⟨trivial, trivial⟩ (.refl _) (hasCons rfl hasNil)))
/-- courant/courantlaw01.awake -/
def C20 (N : Nat → Nat) : AFunc := { n := 20, params := 0, res := [.tmp 0], body :=
 (.seq (.region false [⟨(some 0), .mv (.k (.d (.bool false))), none, []⟩])
  (.seq (.region false [⟨(some 2), .bslice 1 1 [(.int .u8 0)] [(0, (.k (.d (.int .u8 97))))], none, []⟩,
    ⟨(some 3), .bs2bs (.t 2), none, [0]⟩,
    ⟨(some 4), .call (.k (.d (.fn (N 27)))) [(.t 3)], none, [1]⟩,
    ⟨(some 1), .mv (.t 4), none, [2, 0, 1]⟩])
   (.seq (.region false [⟨(some 5), .mv (.t 1), none, []⟩,
     ⟨(some 6), .len (.t 5), none, [0]⟩,
     ⟨(some 7), .bin .eql (.t 6) (.k (.d (.int .i64 2))), none, [1]⟩,
     ⟨(some 8), .mv (.t 7), none, [2]⟩,
     ⟨(some 9), .mv (.t 1), (some (8, true)), [3]⟩,
     ⟨(some 10), .iaddr (.t 9) (.k (.d (.int .i64 0))) 1, (some (8, true)), [4, 3]⟩,
     ⟨(some 11), .load (.t 10) 1 false, (some (8, true)), [5, 3]⟩,
     ⟨(some 12), .bin .eql (.t 11) (.k (.d (.int .u8 2))), (some (8, true)), [6, 3]⟩,
     ⟨(some 13), .pick (.t 8) (.t 12) (.k (.d (.bool false))), none, [3, 7]⟩,
     ⟨(some 14), .mv (.t 13), none, [8, 3]⟩,
     ⟨(some 15), .mv (.t 1), (some (14, true)), [9]⟩,
     ⟨(some 16), .iaddr (.t 15) (.k (.d (.int .i64 1))) 1, (some (14, true)), [10, 9]⟩,
     ⟨(some 17), .load (.t 16) 1 false, (some (14, true)), [11, 9]⟩,
     ⟨(some 18), .bin .eql (.t 17) (.k (.d (.int .u8 97))), (some (14, true)), [12, 9]⟩,
     ⟨(some 19), .pick (.t 14) (.t 18) (.k (.d (.bool false))), none, [9, 13]⟩,
     ⟨(some 0), .mv (.t 19), none, [14, 9, 0, 1, 2, 3, 4, 5, 6, 7, 8, 10, 11, 12, 13]⟩])
    .ret))) }
def HC20 (P : Program) (N : Nat → Nat) : Prop := HasF P (N 20) (C20 N) ∧ HC27 P N
def f20 (k : Nat) : Option Bool := (f27 k ([(97 : UInt8)] : List UInt8)).bind fun r10 => cond (decide (((r10.length : Nat) : Int) = (2 : Int))) (gd (0 ≤ (0 : Int) ∧ (0 : Int) < ((r10.length : Nat) : Int)) (cond (decide ((((rd r10 (0 : Int)).toNat : Nat) : Int) = (2 : Int))) (gd (0 ≤ (1 : Int) ∧ (1 : Int) < ((r10.length : Nat) : Int)) (some (decide ((((rd r10 (1 : Int)).toNat : Nat) : Int) = (97 : Int))))) (some false))) (some false)
theorem F20 {P : Program} {N : Nat → Nat} (hmix : P.follows .mixedOrders = true) (hc : HC20 P N) {k : Nat} {r : Bool} (h : f20 k = some r) :
    ACalls P (N 20) [] [] (.d (.bool r)) [] := by
  refine acalls_canon (F := C20 N) hc.1 0 0 rfl ?_
  unfold f20 at h
  dsimp only [C20, startL]
  refine AWc.seq ?_
  refine AWc.rg hmix rfl rfl ?_
  refine RegV.p0 rfl rfl rfl ?_
  refine RegV.nil0 ?_
  refine AWc.seq ?_
  refine AWc.rg hmix rfl rfl ?_
  refine RegV.evS (own := true) (v := (.sl 0 0 (1) (1) 1)) (H' := [(0, (.cells [(.d (.int .u8 (97 : Int)))]))]) (c' := 1) rfl rfl (by exact ⟨rfl, Nat.le_of_ble_eq_true rfl, by simp [cellsAV, D.cells]⟩) rfl rfl rfl rfl rfl rfl ?_
  refine RegV.evS (own := false) (v := .d (.sl [.int .u8 (97 : Int)])) (v' := (.d (.sl (List.map byteD ([(97 : UInt8)] : List UInt8))))) (H' := []) (c' := 1) rfl rfl (by exact ⟨rfl, Nat.le_refl _⟩) rfl rfl rfl rfl rfl rfl ?_
  obtain ⟨r10, e10, h⟩ := bind_some h
  refine RegV.callS (q := false) (H' := [(1, (.tok ((List.map byteD r10).length * 1)))]) (c' := 2) (show ACalls P (N 27) [(.d (.sl (List.map byteD ([(97 : UInt8)] : List UInt8))))] [] (.ap 1 1 (List.map byteD r10)) [(1, (.tok ((List.map byteD r10).length * 1)))] from ACalls.use (F27 hmix hc.2 e10) [(0, 1)] 1 rfl) rfl rfl rfl rfl (.cons (.refl _) .nil) (.refl _) (fun h => by cases h) rfl hasNil rfl rfl rfl rfl ?_
  refine RegV.p0 rfl rfl rfl ?_
  refine RegV.nil0 ?_
  refine AWc.seq ?_
  refine AWc.rg hmix rfl rfl ?_
  refine RegV.p0 rfl rfl rfl ?_
  refine RegV.len (xs := r10) (e := byteD) rfl rfl rfl rfl ?_
  refine RegV.p0 (v := (.d (.bool (decide (((r10.length : Nat) : Int) = (2 : Int)))))) rfl rfl rfl ?_
  refine RegV.p0 rfl rfl rfl ?_
  refine RegV.split (fun c18 => ?_) (fun c18 => ?_)
  · have h := cond_pos c18 h
    refine RegV.p0 rfl rfl rfl ?_
    obtain ⟨b20, h⟩ := gd_some h
    refine RegV.iad (xs := r10) (e := byteD) rfl rfl rfl rfl (fun _ => rfl) b20 rfl ?_
    refine RegV.p0 (v := (.d (.int .u8 (((rd r10 (0 : Int)).toNat : Nat) : Int)))) rfl rfl rfl ?_
    refine RegV.p0 (v := (.d (.bool (decide ((((rd r10 (0 : Int)).toNat : Nat) : Int) = (2 : Int)))))) rfl rfl rfl ?_
    refine RegV.p0 rfl rfl rfl ?_
    refine RegV.p0 rfl rfl rfl ?_
    refine RegV.split (fun c24 => ?_) (fun c24 => ?_)
    · have h := cond_pos c24 h
      refine RegV.p0 rfl rfl rfl ?_
      obtain ⟨b26, h⟩ := gd_some h
      refine RegV.iad (xs := r10) (e := byteD) rfl rfl rfl rfl (fun _ => rfl) b26 rfl ?_
      refine RegV.p0 (v := (.d (.int .u8 (((rd r10 (1 : Int)).toNat : Nat) : Int)))) rfl rfl rfl ?_
      refine RegV.p0 (v := (.d (.bool (decide ((((rd r10 (1 : Int)).toNat : Nat) : Int) = (97 : Int)))))) rfl rfl rfl ?_
      refine RegV.p0 rfl rfl rfl ?_
      refine RegV.p0 rfl rfl rfl ?_
      refine RegV.nil0 ?_
      have hr := Option.some.inj h
      subst hr
      exact AWc.ret (canQ (N := 20) (k := 0) (l' := [(0, (.d (.bool (decide ((((rd r10 (1 : Int)).toNat : Nat) : Int) = (97 : Int))))))]) (H' := []) rfl ⟨rfl, [], [], rfl, rfl, ⟨⟨_, rfl, (.refl _)⟩, rfl, trivial⟩,  trivial⟩ (doneA (.inr rfl) rfl ⟨trivial, trivial⟩ (.refl _) hasNil))
    · have h := cond_neg c24 h
      refine RegV.noS rfl rfl ?_
      refine RegV.noS rfl rfl ?_
      refine RegV.noS rfl rfl ?_
      refine RegV.noS rfl rfl ?_
      refine RegV.p0 rfl rfl rfl ?_
      refine RegV.p0 rfl rfl rfl ?_
      refine RegV.nil0 ?_
      have hr := Option.some.inj h
      subst hr
      exact AWc.ret (canQ (N := 20) (k := 0) (l' := [(0, (.d (.bool false)))]) (H' := []) rfl ⟨rfl, [], [], rfl, rfl, ⟨⟨_, rfl, (.refl _)⟩, rfl, trivial⟩,  trivial⟩ (doneA (.inr rfl) rfl ⟨trivial, trivial⟩ (.refl _) hasNil))
  · have h := cond_neg c18 h
    refine RegV.noS rfl rfl ?_
    refine RegV.noS rfl rfl ?_
    refine RegV.noS rfl rfl ?_
    refine RegV.noS rfl rfl ?_
    refine RegV.p0 rfl rfl rfl ?_
    refine RegV.p0 rfl rfl rfl ?_
    refine RegV.noS rfl rfl ?_
    refine RegV.noS rfl rfl ?_
    refine RegV.noS rfl rfl ?_
    refine RegV.noS rfl rfl ?_
    refine RegV.p0 rfl rfl rfl ?_
    refine RegV.p0 rfl rfl rfl ?_
    refine RegV.nil0 ?_
    have hr := Option.some.inj h
    subst hr
    exact AWc.ret (canQ (N := 20) (k := 0) (l' := [(0, (.d (.bool false)))]) (H' := []) rfl ⟨rfl, [], [], rfl, rfl, ⟨⟨_, rfl, (.refl _)⟩, rfl, trivial⟩,  trivial⟩ (doneA (.inr rfl) rfl ⟨trivial, trivial⟩ (.refl _) hasNil))
/-- courant/couranthelp.Own[byte] -/
def C21 (N : Nat → Nat) : AFunc := { n := 33, params := 2, res := [.tmp 4], body :=
 (.seq (.region false [⟨(some 4), .mv (.k .nils), none, []⟩])
  (.seq (.region false [⟨(some 8), .mv (.t 0), none, []⟩,
    ⟨(some 9), .len (.t 8), none, [0]⟩,
    ⟨(some 10), .bin .add (.t 9) (.k (.d (.int .i64 3))), none, [1]⟩,
    ⟨(some 11), .mksl (.k (.d (.int .i64 0))) (.t 10) 1 1 [(.int .u8 0)], none, [2]⟩,
    ⟨(some 5), .mv (.t 11), none, [3, 0, 1, 2]⟩])
   (.seq (.region false [⟨(some 12), .mv (.t 5), none, []⟩,
     ⟨(some 13), .mv (.t 0), none, []⟩,
     ⟨(some 14), .app (.t 12) (.t 13) 1 1 [(.int .u8 0)], none, [0, 1]⟩,
     ⟨(some 5), .mv (.t 14), none, [2, 0, 1]⟩])
    (.seq (.region false [⟨(some 15), .mv (.t 5), none, []⟩,
      ⟨(some 16), .mv (.t 0), none, []⟩,
      ⟨(some 17), .len (.t 16), none, [1]⟩,
      ⟨(some 18), .bin .add (.t 17) (.k (.d (.int .i64 3))), none, [2]⟩,
      ⟨(some 19), .slc (.t 15) none (some (.t 18)) none 1, none, [0, 3]⟩,
      ⟨(some 6), .mv (.t 19), none, [4, 0, 1, 2, 3]⟩])
     (.seq (.seq (.region false [⟨(some 20), .mv (.t 0), none, []⟩,
        ⟨(some 21), .len (.t 20), none, [0]⟩,
        ⟨(some 7), .mv (.t 21), none, [1, 0]⟩])
       (.block 0 (.loop (.seq (.seq (.region false [⟨(some 22), .mv (.t 7), none, []⟩,
            ⟨(some 23), .mv (.t 6), none, []⟩,
            ⟨(some 24), .len (.t 23), none, [1]⟩,
            ⟨(some 25), .bin .lss (.t 22) (.t 24), none, [0, 2]⟩])
           (.cond (.t 25) (.skip)
            (.exit 0)))
          (.seq (.block 1 (.region false [⟨(some 28), .mv (.t 6), none, []⟩,
             ⟨(some 29), .mv (.t 7), none, []⟩,
             ⟨(some 30), .mv (.t 1), none, []⟩,
             ⟨(some 31), .iaddr (.t 28) (.t 29) 1, none, [0, 1, 2]⟩,
             ⟨none, .store (.t 31) (.t 30) 1, none, [3, 2, 0, 1]⟩]))
           (.region false [⟨(some 26), .mv (.t 7), none, []⟩,
            ⟨(some 27), .bin .add (.t 26) (.k (.d (.int .i64 1))), none, [0]⟩,
            ⟨(some 7), .mv (.t 27), none, [1, 0]⟩]))))))
      (.seq (.region false [⟨(some 32), .mv (.t 5), none, []⟩,
        ⟨(some 4), .mv (.t 32), none, [0]⟩])
       .ret)))))) }
def HC21 (P : Program) (N : Nat → Nat) : Prop := HasF P (N 21) (C21 N)
def f21_l36 (a0 : (List UInt8)) (a1 : UInt8) : Nat → Int → (List UInt8) → Option (LR2 (List UInt8) Unit (List UInt8))
  | 0, _, _ => none
  | k + 1, y36_1, y36_2 => cond (decide (y36_1 < ((((IntKind.i64.wrap (((a0.length : Nat) : Int) + (3 : Int)))).toNat : Nat) : Int))) (gd (0 ≤ y36_1 ∧ y36_1 < ((((IntKind.i64.wrap (((a0.length : Nat) : Int) + (3 : Int)))).toNat : Nat) : Int)) (gd ((y36_1).toNat < y36_2.length) (f21_l36 a0 a1 k (IntKind.i64.wrap (y36_1 + (1 : Int))) (List.set y36_2 (y36_1).toNat a1)))) (some (.b0 y36_2))
def f21 (k : Nat) (a0 : (List UInt8)) (a1 : UInt8) : Option (List UInt8) := gd (0 ≤ (0 : Int) ∧ (0 : Int) ≤ (IntKind.i64.wrap (((a0.length : Nat) : Int) + (3 : Int))) ∧ (IntKind.i64.wrap (((a0.length : Nat) : Int) + (3 : Int))) * 1 ≤ 281474976710656) (gd (((0 : Int)).toNat + a0.length ≤ ((IntKind.i64.wrap (((a0.length : Nat) : Int) + (3 : Int)))).toNat ∧ ((IntKind.i64.wrap (((a0.length : Nat) : Int) + (3 : Int)))).toNat ≤ (List.replicate ((IntKind.i64.wrap (((a0.length : Nat) : Int) + (3 : Int)))).toNat (default : UInt8)).length) (gd (0 ≤ (IntKind.i64.wrap (((a0.length : Nat) : Int) + (3 : Int))) ∧ (IntKind.i64.wrap (((a0.length : Nat) : Int) + (3 : Int))) ≤ ((((IntKind.i64.wrap (((a0.length : Nat) : Int) + (3 : Int)))).toNat : Nat) : Int)) ((f21_l36 a0 a1 k ((a0.length : Nat) : Int) (List.take (((0 : Int)).toNat) (List.replicate ((IntKind.i64.wrap (((a0.length : Nat) : Int) + (3 : Int)))).toNat (default : UInt8)) ++ a0 ++ List.drop (((0 : Int)).toNat + a0.length) (List.replicate ((IntKind.i64.wrap (((a0.length : Nat) : Int) + (3 : Int)))).toNat (default : UInt8)))).bind fun o36 => match o36 with | .b0 x36_1 => gd (((((0 : Int)).toNat + a0.length) ≤ x36_1.length ∧ ((IntKind.i64.wrap (((a0.length : Nat) : Int) + (3 : Int)))).toNat = x36_1.length)) (some x36_1) | _ => none)))
theorem F21 {P : Program} {N : Nat → Nat} (hmix : P.follows .mixedOrders = true) (hc : HC21 P N) {k : Nat} {a0 : (List UInt8)} {a1 : UInt8} {r : (List UInt8)} (h : f21 k a0 a1 = some r) :
    ACalls P (N 21) [(.d (.sl (List.map byteD a0))), (.d (.int .u8 ((a1.toNat : Nat) : Int)))] [] (.win (List.map byteD r) (((0 : Int)).toNat + a0.length)) [] := by
  refine acalls_canon (F := C21 N) hc 0 0 rfl ?_
  unfold f21 at h
  dsimp only [C21, startL]
  refine AWc.seq ?_
  refine AWc.rg hmix rfl rfl ?_
  refine RegV.p0 rfl rfl rfl ?_
  refine RegV.nil0 ?_
  refine AWc.seq ?_
  refine AWc.rg hmix rfl rfl ?_
  refine RegV.p0 rfl rfl rfl ?_
  refine RegV.len (xs := a0) (e := byteD) rfl rfl rfl rfl ?_
  refine RegV.p0 (v := (.d (.int .i64 (IntKind.i64.wrap (((a0.length : Nat) : Int) + (3 : Int)))))) rfl rfl rfl ?_
  obtain ⟨b11, h⟩ := gd_some h
  refine RegV.mkS (e := byteD) (a0 := default) rfl rfl rfl byteD_ok rfl rfl b11 rfl rfl ?_
  refine RegV.p0 rfl rfl rfl ?_
  refine RegV.nil0 ?_
  refine AWc.seq ?_
  refine AWc.rg hmix rfl rfl ?_
  refine RegV.p0 rfl rfl rfl ?_
  refine RegV.p0 rfl rfl rfl ?_
  obtain ⟨b18, h⟩ := gd_some h
  refine RegV.apS (xs := (List.replicate ((IntKind.i64.wrap (((a0.length : Nat) : Int) + (3 : Int)))).toNat (default : UInt8))) (ys := a0) (e := byteD) (H' := [(0, (cellsO byteD (List.take (((0 : Int)).toNat) (List.replicate ((IntKind.i64.wrap (((a0.length : Nat) : Int) + (3 : Int)))).toNat (default : UInt8)) ++ a0 ++ List.drop (((0 : Int)).toNat + a0.length) (List.replicate ((IntKind.i64.wrap (((a0.length : Nat) : Int) + (3 : Int)))).toNat (default : UInt8)))))]) rfl rfl rfl rfl byteD_ok rfl rfl b18 rfl rfl rfl rfl ?_
  refine RegV.p0 rfl rfl rfl ?_
  refine RegV.nil0 ?_
  refine AWc.seq ?_
  refine AWc.rg hmix rfl rfl ?_
  refine RegV.p0 rfl rfl rfl ?_
  refine RegV.p0 rfl rfl rfl ?_
  refine RegV.len (xs := a0) (e := byteD) rfl rfl rfl rfl ?_
  refine RegV.p0 (v := (.d (.int .i64 (IntKind.i64.wrap (((a0.length : Nat) : Int) + (3 : Int)))))) rfl rfl rfl ?_
  obtain ⟨b27, h⟩ := gd_some h
  refine RegV.slH (hi := (IntKind.i64.wrap (((a0.length : Nat) : Int) + (3 : Int)))) rfl rfl rfl b27 rfl ?_
  refine RegV.p0 rfl rfl rfl ?_
  refine RegV.nil0 ?_
  refine AWc.seq ?_
  refine AWc.seq ?_
  refine AWc.rg hmix rfl rfl ?_
  refine RegV.p0 rfl rfl rfl ?_
  refine RegV.len (xs := a0) (e := byteD) rfl rfl rfl rfl ?_
  refine RegV.p0 rfl rfl rfl ?_
  refine RegV.nil0 ?_
  obtain ⟨o36, h36, h⟩ := bind_some h
  refine AWc.block ?_
  refine AWc.loopK (N := 33) 1 (fun (x : (Int × (List UInt8))) => [(1, (.d (.int .u8 ((a1.toNat : Nat) : Int)))), (5, (.sl 0 0 (((0 : Int)).toNat + a0.length) (((IntKind.i64.wrap (((a0.length : Nat) : Int) + (3 : Int)))).toNat) 1)), (6, (.sl 0 0 (((IntKind.i64.wrap (((a0.length : Nat) : Int) + (3 : Int)))).toNat) (((IntKind.i64.wrap (((a0.length : Nat) : Int) + (3 : Int)))).toNat) 1)), (7, (.d (.int .i64 x.1)))]) (fun x => [(0, (cellsO byteD x.2))]) (fun k x => f21_l36 a0 a1 k x.1 x.2 = some o36) k (((a0.length : Nat) : Int), (List.take (((0 : Int)).toNat) (List.replicate ((IntKind.i64.wrap (((a0.length : Nat) : Int) + (3 : Int)))).toNat (default : UInt8)) ++ a0 ++ List.drop (((0 : Int)).toNat + a0.length) (List.replicate ((IntKind.i64.wrap (((a0.length : Nat) : Int) + (3 : Int)))).toNat (default : UInt8)))) rfl_le (fun x hx => by cases hx) h36 ⟨rfl, [], [], rfl, rfl, ⟨⟨_, rfl, (.refl _)⟩, rfl, ⟨⟨_, rfl, (.refl _)⟩, rfl, ⟨⟨_, rfl, (.refl _)⟩, rfl, ⟨⟨_, rfl, (.refl _)⟩, rfl, trivial⟩⟩⟩⟩, ⟨⟨_, rfl, (.refl _)⟩, rfl, rfl, trivial⟩⟩ ?_
  clear h36
  intro k
  rintro ⟨y36_1, y36_2⟩ h36
  dsimp only at h36 ⊢
  rw [f21_l36] at h36
  refine AWc.seq ?_
  refine AWc.seq ?_
  refine AWc.rg hmix rfl rfl ?_
  refine RegV.p0 rfl rfl rfl ?_
  refine RegV.p0 rfl rfl rfl ?_
  refine RegV.p0 (v := (.d (.int .i64 ((((IntKind.i64.wrap (((a0.length : Nat) : Int) + (3 : Int)))).toNat : Nat) : Int)))) rfl rfl rfl ?_
  refine RegV.p0 (v := (.d (.bool (decide (y36_1 < ((((IntKind.i64.wrap (((a0.length : Nat) : Int) + (3 : Int)))).toNat : Nat) : Int)))))) rfl rfl rfl ?_
  refine RegV.nil0 ?_
  refine AWc.cond rfl (fun c46 => ?_) (fun c46 => ?_)
  · have h36 := cond_pos c46 h36
    refine AWc.skip ?_
    refine AWc.seq ?_
    refine AWc.block ?_
    refine AWc.rg hmix rfl rfl ?_
    refine RegV.p0 rfl rfl rfl ?_
    refine RegV.p0 rfl rfl rfl ?_
    refine RegV.p0 rfl rfl rfl ?_
    obtain ⟨b56, h36⟩ := gd_some h36
    refine RegV.iaS0 (z := 1) rfl rfl rfl b56 rfl ?_
    obtain ⟨b57, h36⟩ := gd_some h36
    refine RegV.stS (e := byteD) (xs := y36_2) (i := (y36_1).toNat) (v := a1) (H' := [(0, (cellsO byteD (List.set y36_2 (y36_1).toNat a1)))]) rfl rfl rfl rfl byteD_ok rfl b57 rfl rfl rfl ?_
    refine RegV.nil0 ?_
    refine AWc.rg hmix rfl rfl ?_
    refine RegV.p0 rfl rfl rfl ?_
    refine RegV.p0 (v := (.d (.int .i64 (IntKind.i64.wrap (y36_1 + (1 : Int)))))) rfl rfl rfl ?_
    refine RegV.p0 rfl rfl rfl ?_
    refine RegV.nil0 ?_
    exact ⟨((IntKind.i64.wrap (y36_1 + (1 : Int))), (List.set y36_2 (y36_1).toNat a1)), h36, ⟨rfl, [], [], rfl, rfl, ⟨⟨_, rfl, (.refl _)⟩, rfl, ⟨⟨_, rfl, (.refl _)⟩, rfl, ⟨⟨_, rfl, (.refl _)⟩, rfl, ⟨⟨_, rfl, (.refl _)⟩, rfl, trivial⟩⟩⟩⟩, ⟨⟨_, rfl, (.refl _)⟩, rfl, rfl, trivial⟩⟩⟩
  · have h36 := cond_neg c46 h36
    cases h36
    dsimp only at h
    refine AWc.exit ?_
    refine inBlk_eq ?_
    refine AWc.seq ?_
    refine AWc.rg hmix rfl rfl ?_
    refine RegV.p0 rfl rfl rfl ?_
    refine RegV.p0 rfl rfl rfl ?_
    refine RegV.nil0 ?_
    obtain ⟨bs0, h⟩ := gd_some h
    refine AWc.seal (l0 := 0) (xs := y36_2) (l' := [(4, (.win (List.map byteD y36_2) (((0 : Int)).toNat + a0.length)))]) (H' := [(0, (.tok (y36_2.length * 1)))]) byteD_ok rfl ⟨⟨_, rfl, .win bs0⟩, trivial⟩ rfl ?_
    have hr := Option.some.inj h
    subst hr
    exact AWc.ret (canQ (N := 33) (k := 0) (l' := [(4, (.win (List.map byteD y36_2) (((0 : Int)).toNat + a0.length)))]) (H' := []) rfl ⟨rfl, [], [], rfl, rfl, ⟨⟨_, rfl, (.refl _)⟩, rfl, trivial⟩,  trivial⟩ (doneA (.inr rfl) rfl ⟨trivial, trivial⟩ (.refl _) hasNil))
/-- courant/courantref01.Num -/
def C24 (N : Nat → Nat) : AFunc := { n := 20, params := 1, res := [.tmp 2], body :=
 (.seq (.region false [⟨(some 2), .mv (.k .nils), none, []⟩])
  (.seq (.region false [⟨(some 3), .mv (.k .nils), none, []⟩])
   (.seq (.block 0 (.loop (.seq (.seq (.region false [⟨(some 4), .mv (.t 0), none, []⟩,
         ⟨(some 5), .bin .geq (.t 4) (.k (.d (.int .u64 128))), none, [0]⟩])
        (.cond (.t 5) (.skip)
         (.exit 0)))
       (.block 1 (.seq (.region false [⟨(some 6), .mv (.t 3), none, []⟩,
          ⟨(some 7), .mv (.t 0), none, []⟩,
          ⟨(some 8), .bin .rem (.t 7) (.k (.d (.int .u64 128))), none, [1]⟩,
          ⟨(some 9), .cvi .u8 (.t 8), none, [2]⟩,
          ⟨(some 10), .bin .add (.t 9) (.k (.d (.int .u8 128))), none, [3]⟩,
          ⟨(some 11), .bslice 1 1 [(.int .u8 0)] [(0, (.t 10))], none, [4]⟩,
          ⟨(some 12), .app (.t 6) (.t 11) 1 1 [(.int .u8 0)], none, [0, 5]⟩,
          ⟨(some 3), .mv (.t 12), none, [6, 0, 1, 2, 3, 4, 5]⟩])
         (.region false [⟨(some 13), .mv (.t 0), none, []⟩,
          ⟨(some 14), .bin .quo (.t 13) (.k (.d (.int .u64 128))), none, [0]⟩,
          ⟨(some 0), .mv (.t 14), none, [1, 0]⟩]))))))
    (.seq (.region false [⟨(some 15), .mv (.t 3), none, []⟩,
      ⟨(some 16), .mv (.t 0), none, []⟩,
      ⟨(some 17), .cvi .u8 (.t 16), none, [1]⟩,
      ⟨(some 18), .bslice 1 1 [(.int .u8 0)] [(0, (.t 17))], none, [2]⟩,
      ⟨(some 19), .app (.t 15) (.t 18) 1 1 [(.int .u8 0)], none, [0, 3]⟩,
      ⟨(some 2), .mv (.t 19), none, [4, 0, 1, 2, 3]⟩])
     .ret)))) }
def HC24 (P : Program) (N : Nat → Nat) : Prop := HasF P (N 24) (C24 N)
def f24_l10 : Nat → Int → (List UInt8) → Option (LR2 (Int × (List UInt8)) Unit (List UInt8))
  | 0, _, _ => none
  | k + 1, y10_1, y10_2 => cond (decide (y10_1 ≥ (128 : Int))) (gd ((y10_2.length + ([(u8 (IntKind.u8.wrap ((IntKind.u8.wrap (Int.tmod y10_1 (128 : Int))) + (128 : Int))))] : List UInt8).length) * 2 * 1 ≤ 281474976710656) (f24_l10 k (IntKind.u64.wrap (Int.tdiv y10_1 (128 : Int))) (y10_2 ++ ([(u8 (IntKind.u8.wrap ((IntKind.u8.wrap (Int.tmod y10_1 (128 : Int))) + (128 : Int))))] : List UInt8)))) (some (.b0 (y10_1, y10_2)))
def f24 (k : Nat) (a0 : Int) : Option (List UInt8) := (f24_l10 k a0 ([] : List UInt8)).bind fun o10 => match o10 with | .b0 (x10_1, x10_2) => gd ((x10_2.length + ([(u8 (IntKind.u8.wrap x10_1))] : List UInt8).length) * 2 * 1 ≤ 281474976710656) (some (x10_2 ++ ([(u8 (IntKind.u8.wrap x10_1))] : List UInt8))) | _ => none
theorem F24 {P : Program} {N : Nat → Nat} (hmix : P.follows .mixedOrders = true) (hc : HC24 P N) {k : Nat} {a0 : Int} {r : (List UInt8)} (h : f24 k a0 = some r) :
    ACalls P (N 24) [(.d (.int .u64 a0))] [] (.ap 0 1 (List.map byteD r)) [(0, (.tok ((List.map byteD r).length * 1)))] := by
  refine acalls_canon (F := C24 N) hc 0 1 rfl ?_
  unfold f24 at h
  dsimp only [C24, startL]
  refine AWc.seq ?_
  refine AWc.rg hmix rfl rfl ?_
  refine RegV.p0 rfl rfl rfl ?_
  refine RegV.nil0 ?_
  refine AWc.seq ?_
  refine AWc.rg hmix rfl rfl ?_
  refine RegV.p0 rfl rfl rfl ?_
  refine RegV.nil0 ?_
  obtain ⟨o10, h10, h⟩ := bind_some h
  refine AWc.seqS (N := 20) 1 (fun (z : (Int × (List UInt8))) => [(0, (.d (.int .u64 z.1))), (3, (.ap 0 1 (List.map byteD z.2)))]) (fun z => [(0, (.tok ((List.map byteD z.2).length * 1)))]) (fun z => o10 = .b0 z) rfl_le ?_ ?_
  · refine AWc.block ?_
    refine AWc.loopK (N := 20) 1 (fun (x : (Int × (List UInt8))) => [(0, (.d (.int .u64 x.1))), (3, (.ap 0 1 (List.map byteD x.2)))]) (fun x => [(0, (.tok ((List.map byteD x.2).length * 1)))]) (fun k x => f24_l10 k x.1 x.2 = some o10) k (a0, ([] : List UInt8)) rfl_le (fun x hx => by cases hx) h10 ⟨rfl, [.tok 0], [(0, 0)], rfl, rfl, ⟨⟨_, rfl, (.refl _)⟩, rfl, ⟨⟨_, rfl, .nil⟩, rfl, trivial⟩⟩, ⟨⟨_, rfl, (.refl _)⟩, rfl, rfl, trivial⟩⟩ ?_
    clear h10
    intro k
    rintro ⟨y10_1, y10_2⟩ h10
    dsimp only at h10 ⊢
    rw [f24_l10] at h10
    refine AWc.seq ?_
    refine AWc.seq ?_
    refine AWc.rg hmix rfl rfl ?_
    refine RegV.p0 rfl rfl rfl ?_
    refine RegV.p0 (v := (.d (.bool (decide (y10_1 ≥ (128 : Int)))))) rfl rfl rfl ?_
    refine RegV.nil0 ?_
    refine AWc.cond rfl (fun c18 => ?_) (fun c18 => ?_)
    · have h10 := cond_pos c18 h10
      refine AWc.skip ?_
      refine AWc.block ?_
      refine AWc.seq ?_
      refine AWc.rg hmix rfl rfl ?_
      refine RegV.p0 rfl rfl rfl ?_
      refine RegV.p0 rfl rfl rfl ?_
      refine RegV.p1 (v := (.d (.int .u64 (Int.tmod y10_1 (128 : Int))))) rfl rfl (by decide) rfl rfl ?_
      refine RegV.p0 (v := (.d (.int .u8 (IntKind.u8.wrap (Int.tmod y10_1 (128 : Int)))))) rfl rfl rfl ?_
      refine RegV.p0 (v := (.d (.int .u8 (IntKind.u8.wrap ((IntKind.u8.wrap (Int.tmod y10_1 (128 : Int))) + (128 : Int)))))) rfl rfl rfl ?_
      refine RegV.p1 (v := .d (.sl [(.int .u8 (IntKind.u8.wrap ((IntKind.u8.wrap (Int.tmod y10_1 (128 : Int))) + (128 : Int))))])) (v' := (.d (.sl (List.map byteD ([(u8 (IntKind.u8.wrap ((IntKind.u8.wrap (Int.tmod y10_1 (128 : Int))) + (128 : Int))))] : List UInt8))))) (s := ([(.int .u8 0)] : List D).length = 1 ∧ 1 * 1 ≤ 16777216 ∧ ∀ d ∈ ([(.int .u8 (IntKind.u8.wrap ((IntKind.u8.wrap (Int.tmod y10_1 (128 : Int))) + (128 : Int))))] : List D), d.cells.length = 1) rfl rfl ⟨rfl, Nat.le_of_ble_eq_true rfl, by simp [D.cells]⟩ rfl (by simp only [List.map_cons, List.map_nil, byteD, ← u8_eq (u8_wrap _), ← u8_eq (u8_bits _ _ _)]) ?_
      obtain ⟨b31, h10⟩ := gd_some h10
      refine RegV.appA (xs := y10_2) (ys := ([(u8 (IntKind.u8.wrap ((IntKind.u8.wrap (Int.tmod y10_1 (128 : Int))) + (128 : Int))))] : List UInt8)) (e := byteD) (H1 := []) rfl rfl rfl rfl (fun _ => rfl) rfl rfl b31 rfl rfl rfl ?_
      refine RegV.p0 rfl rfl rfl ?_
      refine RegV.nil0 ?_
      refine AWc.rg hmix rfl rfl ?_
      refine RegV.p0 rfl rfl rfl ?_
      refine RegV.p1 (v := (.d (.int .u64 (IntKind.u64.wrap (Int.tdiv y10_1 (128 : Int)))))) rfl rfl (by decide) rfl rfl ?_
      refine RegV.p0 rfl rfl rfl ?_
      refine RegV.nil0 ?_
      exact ⟨((IntKind.u64.wrap (Int.tdiv y10_1 (128 : Int))), (y10_2 ++ ([(u8 (IntKind.u8.wrap ((IntKind.u8.wrap (Int.tmod y10_1 (128 : Int))) + (128 : Int))))] : List UInt8))), h10, ⟨rfl, [], [(0, 1)], rfl, rfl, ⟨⟨_, rfl, (.refl _)⟩, rfl, ⟨⟨_, rfl, (.refl _)⟩, rfl, trivial⟩⟩, ⟨⟨_, rfl, (.refl _)⟩, rfl, rfl, trivial⟩⟩⟩
    · have h10 := cond_neg c18 h10
      cases h10
      dsimp only at h
      refine AWc.exit ?_
      refine inBlk_eq ?_
      exact ⟨(y10_1, y10_2), rfl, ⟨rfl, [], [], rfl, rfl, ⟨⟨_, rfl, (.refl _)⟩, rfl, ⟨⟨_, rfl, (.refl _)⟩, rfl, trivial⟩⟩, ⟨⟨_, rfl, (.refl _)⟩, rfl, rfl, trivial⟩⟩⟩
  · rintro ⟨x10_1, x10_2⟩ ho
    subst ho
    dsimp only at h ⊢
    refine AWc.seq ?_
    refine AWc.rg hmix rfl rfl ?_
    refine RegV.p0 rfl rfl rfl ?_
    refine RegV.p0 rfl rfl rfl ?_
    refine RegV.p0 (v := (.d (.int .u8 (IntKind.u8.wrap x10_1)))) rfl rfl rfl ?_
    refine RegV.p1 (v := .d (.sl [(.int .u8 (IntKind.u8.wrap x10_1))])) (v' := (.d (.sl (List.map byteD ([(u8 (IntKind.u8.wrap x10_1))] : List UInt8))))) (s := ([(.int .u8 0)] : List D).length = 1 ∧ 1 * 1 ≤ 16777216 ∧ ∀ d ∈ ([(.int .u8 (IntKind.u8.wrap x10_1))] : List D), d.cells.length = 1) rfl rfl ⟨rfl, Nat.le_of_ble_eq_true rfl, by simp [D.cells]⟩ rfl (by simp only [List.map_cons, List.map_nil, byteD, ← u8_eq (u8_wrap _), ← u8_eq (u8_bits _ _ _)]) ?_
    obtain ⟨b45, h⟩ := gd_some h
    refine RegV.appA (xs := x10_2) (ys := ([(u8 (IntKind.u8.wrap x10_1))] : List UInt8)) (e := byteD) (H1 := []) rfl rfl rfl rfl (fun _ => rfl) rfl rfl b45 rfl rfl rfl ?_
    refine RegV.p0 rfl rfl rfl ?_
    refine RegV.nil0 ?_
    have hr := Option.some.inj h
    subst hr
    exact AWc.ret (canQ (N := 20) (k := 1) (l' := [(2, (.ap 0 1 (List.map byteD (x10_2 ++ ([(u8 (IntKind.u8.wrap x10_1))] : List UInt8)))))]) (H' := [(0, (.tok ((List.map byteD (x10_2 ++ ([(u8 (IntKind.u8.wrap x10_1))] : List UInt8))).length * 1)))]) rfl ⟨rfl, [], [(0, 1)], rfl, rfl, ⟨⟨_, rfl, (.refl _)⟩, rfl, trivial⟩, ⟨⟨_, rfl, (.refl _)⟩, rfl, rfl, trivial⟩⟩ (doneA (.inr rfl) rfl ⟨trivial, trivial⟩ (.refl _) (hasCons rfl hasNil)))
/-- courant/couranthelp.Bytes -/
def C22 (N : Nat → Nat) : AFunc := { n := 10, params := 2, res := [.tmp 4], body :=
 (.seq (.region false [⟨(some 4), .mv (.k (.d (.bool false))), none, []⟩])
  (.seq (.region false [⟨(some 5), .mv (.t 0), none, []⟩,
    ⟨(some 6), .bs2s (.t 5), none, [0]⟩,
    ⟨(some 7), .mv (.t 1), none, []⟩,
    ⟨(some 8), .bs2s (.t 7), none, [2]⟩,
    ⟨(some 9), .bin .eql (.t 6) (.t 8), none, [1, 3]⟩,
    ⟨(some 4), .mv (.t 9), none, [4, 0, 1, 2, 3]⟩])
   .ret)) }
def HC22 (P : Program) (N : Nat → Nat) : Prop := HasF P (N 22) (C22 N)
def f22 (k : Nat) (a0 : (List UInt8)) (a1 : (List UInt8)) : Option Unit := some ()
theorem F22 {P : Program} {N : Nat → Nat} (hmix : P.follows .mixedOrders = true) (hc : HC22 P N) {k : Nat} {a0 : (List UInt8)} {a1 : (List UInt8)} {r : Unit} (h : f22 k a0 a1 = some r) :
    ACalls P (N 22) [(.d (.sl (List.map byteD a0))), (.d (.sl (List.map byteD a1)))] [] (.d (.bool (decide (a0 = a1)))) [] := by
  refine acalls_canon (F := C22 N) hc 0 0 rfl ?_
  unfold f22 at h
  dsimp only [C22, startL]
  refine AWc.seq ?_
  refine AWc.rg hmix rfl rfl ?_
  refine RegV.p0 rfl rfl rfl ?_
  refine RegV.nil0 ?_
  refine AWc.seq ?_
  refine AWc.rg hmix rfl rfl ?_
  refine RegV.p0 rfl rfl rfl ?_
  refine RegV.bs2s (b := a0) rfl rfl rfl ?_
  refine RegV.p0 rfl rfl rfl ?_
  refine RegV.bs2s (b := a1) rfl rfl rfl ?_
  refine RegV.p0 (v := (.d (.bool (decide (a0 = a1))))) rfl rfl rfl ?_
  refine RegV.p0 rfl rfl rfl ?_
  refine RegV.nil0 ?_
  have hr := Option.some.inj h
  subst hr
  exact AWc.ret (canQ (N := 10) (k := 0) (l' := [(4, (.d (.bool (decide (a0 = a1)))))]) (H' := []) rfl ⟨rfl, [], [], rfl, rfl, ⟨⟨_, rfl, (.refl _)⟩, rfl, trivial⟩,  trivial⟩ (doneA (.inr rfl) rfl ⟨trivial, trivial⟩ (.refl _) hasNil))
/-- courant/courantref01.Zig -/
def C26 (N : Nat → Nat) : AFunc := { n := 16, params := 1, res := [.tmp 2], body :=
 (.seq (.region false [⟨(some 2), .mv (.k .nils), none, []⟩])
  (.seq (.seq (.region false [⟨(some 3), .mv (.t 0), none, []⟩,
     ⟨(some 4), .bin .geq (.t 3) (.k (.d (.int .i64 0))), none, [0]⟩])
    (.cond (.t 4) (.seq (.region false [⟨(some 5), .mv (.t 0), none, []⟩,
       ⟨(some 6), .cvi .u64 (.t 5), none, [0]⟩,
       ⟨(some 7), .bin .mul (.t 6) (.k (.d (.int .u64 2))), none, [1]⟩,
       ⟨(some 8), .call (.k (.d (.fn (N 24)))) [(.t 7)], none, [2]⟩,
       ⟨(some 2), .mv (.t 8), none, [3, 0, 1, 2]⟩])
      .ret)
     (.skip)))
   (.seq (.region false [⟨(some 9), .mv (.t 0), none, []⟩,
     ⟨(some 10), .bin .add (.t 9) (.k (.d (.int .i64 1))), none, [0]⟩,
     ⟨(some 11), .un .neg (.t 10), none, [1]⟩,
     ⟨(some 12), .cvi .u64 (.t 11), none, [2]⟩,
     ⟨(some 13), .bin .mul (.t 12) (.k (.d (.int .u64 2))), none, [3]⟩,
     ⟨(some 14), .bin .add (.t 13) (.k (.d (.int .u64 1))), none, [4]⟩,
     ⟨(some 15), .call (.k (.d (.fn (N 24)))) [(.t 14)], none, [5]⟩,
     ⟨(some 2), .mv (.t 15), none, [6, 0, 1, 2, 3, 4, 5]⟩])
    .ret))) }
def HC26 (P : Program) (N : Nat → Nat) : Prop := HasF P (N 26) (C26 N) ∧ HC24 P N
def f26 (k : Nat) (a0 : Int) : Option (List UInt8) := cond (decide (a0 ≥ (0 : Int))) ((f24 k (IntKind.u64.wrap ((IntKind.u64.wrap a0) * (2 : Int)))).bind fun r18 => some r18) ((f24 k (IntKind.u64.wrap ((IntKind.u64.wrap ((IntKind.u64.wrap (IntKind.i64.wrap (0 - (IntKind.i64.wrap (a0 + (1 : Int)))))) * (2 : Int))) + (1 : Int)))).bind fun r31 => some r31)
theorem F26 {P : Program} {N : Nat → Nat} (hmix : P.follows .mixedOrders = true) (hc : HC26 P N) {k : Nat} {a0 : Int} {r : (List UInt8)} (h : f26 k a0 = some r) :
    ACalls P (N 26) [(.d (.int .i64 a0))] [] (.ap 0 1 (List.map byteD r)) [(0, (.tok ((List.map byteD r).length * 1)))] := by
  refine acalls_canon (F := C26 N) hc.1 0 1 rfl ?_
  unfold f26 at h
  dsimp only [C26, startL]
  refine AWc.seq ?_
  refine AWc.rg hmix rfl rfl ?_
  refine RegV.p0 rfl rfl rfl ?_
  refine RegV.nil0 ?_
  refine AWc.seq ?_
  refine AWc.seq ?_
  refine AWc.rg hmix rfl rfl ?_
  refine RegV.p0 rfl rfl rfl ?_
  refine RegV.p0 (v := (.d (.bool (decide (a0 ≥ (0 : Int)))))) rfl rfl rfl ?_
  refine RegV.nil0 ?_
  refine AWc.cond rfl (fun c11 => ?_) (fun c11 => ?_)
  · have h := cond_pos c11 h
    refine AWc.seq ?_
    refine AWc.rg hmix rfl rfl ?_
    refine RegV.p0 rfl rfl rfl ?_
    refine RegV.p0 (v := (.d (.int .u64 (IntKind.u64.wrap a0)))) rfl rfl rfl ?_
    refine RegV.p0 (v := (.d (.int .u64 (IntKind.u64.wrap ((IntKind.u64.wrap a0) * (2 : Int)))))) rfl rfl rfl ?_
    obtain ⟨r18, e18, h⟩ := bind_some h
    refine RegV.callS (q := false) (H' := [(0, (.tok ((List.map byteD r18).length * 1)))]) (c' := 1) (show ACalls P (N 24) [(.d (.int .u64 (IntKind.u64.wrap ((IntKind.u64.wrap a0) * (2 : Int)))))] [] (.ap 0 1 (List.map byteD r18)) [(0, (.tok ((List.map byteD r18).length * 1)))] from ACalls.use (F24 hmix hc.2 e18) [(0, 0)] 1 rfl) rfl rfl rfl rfl (.cons (.refl _) .nil) (.refl _) (fun h => by cases h) rfl hasNil rfl rfl rfl rfl ?_
    refine RegV.p0 rfl rfl rfl ?_
    refine RegV.nil0 ?_
    have hr := Option.some.inj h
    subst hr
    exact AWc.ret (canQ (N := 16) (k := 1) (l' := [(2, (.ap 0 1 (List.map byteD r18)))]) (H' := [(0, (.tok ((List.map byteD r18).length * 1)))]) rfl ⟨rfl, [], [], rfl, rfl, ⟨⟨_, rfl, (.refl _)⟩, rfl, trivial⟩, ⟨⟨_, rfl, (.refl _)⟩, rfl, rfl, trivial⟩⟩ (doneA (.inr rfl) rfl ⟨trivial, trivial⟩ (.refl _) (hasCons rfl hasNil)))
  · have h := cond_neg c11 h
    refine AWc.skip ?_
    refine AWc.seq ?_
    refine AWc.rg hmix rfl rfl ?_
    refine RegV.p0 rfl rfl rfl ?_
    refine RegV.p0 (v := (.d (.int .i64 (IntKind.i64.wrap (a0 + (1 : Int)))))) rfl rfl rfl ?_
    refine RegV.p0 (v := (.d (.int .i64 (IntKind.i64.wrap (0 - (IntKind.i64.wrap (a0 + (1 : Int)))))))) rfl rfl rfl ?_
    refine RegV.p0 (v := (.d (.int .u64 (IntKind.u64.wrap (IntKind.i64.wrap (0 - (IntKind.i64.wrap (a0 + (1 : Int))))))))) rfl rfl rfl ?_
    refine RegV.p0 (v := (.d (.int .u64 (IntKind.u64.wrap ((IntKind.u64.wrap (IntKind.i64.wrap (0 - (IntKind.i64.wrap (a0 + (1 : Int)))))) * (2 : Int)))))) rfl rfl rfl ?_
    refine RegV.p0 (v := (.d (.int .u64 (IntKind.u64.wrap ((IntKind.u64.wrap ((IntKind.u64.wrap (IntKind.i64.wrap (0 - (IntKind.i64.wrap (a0 + (1 : Int)))))) * (2 : Int))) + (1 : Int)))))) rfl rfl rfl ?_
    obtain ⟨r31, e31, h⟩ := bind_some h
    refine RegV.callS (q := false) (H' := [(0, (.tok ((List.map byteD r31).length * 1)))]) (c' := 1) (show ACalls P (N 24) [(.d (.int .u64 (IntKind.u64.wrap ((IntKind.u64.wrap ((IntKind.u64.wrap (IntKind.i64.wrap (0 - (IntKind.i64.wrap (a0 + (1 : Int)))))) * (2 : Int))) + (1 : Int)))))] [] (.ap 0 1 (List.map byteD r31)) [(0, (.tok ((List.map byteD r31).length * 1)))] from ACalls.use (F24 hmix hc.2 e31) [(0, 0)] 1 rfl) rfl rfl rfl rfl (.cons (.refl _) .nil) (.refl _) (fun h => by cases h) rfl hasNil rfl rfl rfl rfl ?_
    refine RegV.p0 rfl rfl rfl ?_
    refine RegV.nil0 ?_
    have hr := Option.some.inj h
    subst hr
    exact AWc.ret (canQ (N := 16) (k := 1) (l' := [(2, (.ap 0 1 (List.map byteD r31)))]) (H' := [(0, (.tok ((List.map byteD r31).length * 1)))]) rfl ⟨rfl, [], [], rfl, rfl, ⟨⟨_, rfl, (.refl _)⟩, rfl, trivial⟩, ⟨⟨_, rfl, (.refl _)⟩, rfl, rfl, trivial⟩⟩ (doneA (.inr rfl) rfl ⟨trivial, trivial⟩ (.refl _) (hasCons rfl hasNil)))
/-- courant/courantref01.Text -/
def C28 (N : Nat → Nat) : AFunc := { n := 8, params := 1, res := [.tmp 2], body :=
 (.seq (.region false [⟨(some 2), .mv (.k .nils), none, []⟩])
  (.seq (.region false [⟨(some 3), .mv (.t 0), none, []⟩,
    ⟨(some 4), .len (.t 3), none, [0]⟩,
    ⟨(some 5), .call (.k (.d (.fn (N 26)))) [(.t 4)], none, [1]⟩,
    ⟨(some 6), .mv (.t 0), none, []⟩,
    ⟨(some 7), .app (.t 5) (.t 6) 1 1 [(.int .u8 0)], none, [2, 3]⟩,
    ⟨(some 2), .mv (.t 7), none, [4, 0, 1, 2, 3]⟩])
   .ret)) }
def HC28 (P : Program) (N : Nat → Nat) : Prop := HasF P (N 28) (C28 N) ∧ HC26 P N
def f28 (k : Nat) (a0 : (List UInt8)) : Option (List UInt8) := (f26 k ((a0.length : Nat) : Int)).bind fun r10 => gd ((r10.length + a0.length) * 2 * 1 ≤ 281474976710656) (some (r10 ++ a0))
theorem F28 {P : Program} {N : Nat → Nat} (hmix : P.follows .mixedOrders = true) (hc : HC28 P N) {k : Nat} {a0 : (List UInt8)} {r : (List UInt8)} (h : f28 k a0 = some r) :
    ACalls P (N 28) [(.d (.sl (List.map byteD a0)))] [] (.ap 0 1 (List.map byteD r)) [(0, (.tok ((List.map byteD r).length * 1)))] := by
  refine acalls_canon (F := C28 N) hc.1 0 1 rfl ?_
  unfold f28 at h
  dsimp only [C28, startL]
  refine AWc.seq ?_
  refine AWc.rg hmix rfl rfl ?_
  refine RegV.p0 rfl rfl rfl ?_
  refine RegV.nil0 ?_
  refine AWc.seq ?_
  refine AWc.rg hmix rfl rfl ?_
  refine RegV.p0 rfl rfl rfl ?_
  refine RegV.len (xs := a0) (e := byteD) rfl rfl rfl rfl ?_
  obtain ⟨r10, e10, h⟩ := bind_some h
  refine RegV.callS (q := false) (H' := [(0, (.tok ((List.map byteD r10).length * 1)))]) (c' := 1) (show ACalls P (N 26) [(.d (.int .i64 ((a0.length : Nat) : Int)))] [] (.ap 0 1 (List.map byteD r10)) [(0, (.tok ((List.map byteD r10).length * 1)))] from ACalls.use (F26 hmix hc.2 e10) [(0, 0)] 1 rfl) rfl rfl rfl rfl (.cons (.refl _) .nil) (.refl _) (fun h => by cases h) rfl hasNil rfl rfl rfl rfl ?_
  refine RegV.p0 rfl rfl rfl ?_
  obtain ⟨b12, h⟩ := gd_some h
  refine RegV.appA (xs := r10) (ys := a0) (e := byteD) (H1 := []) rfl rfl rfl rfl (fun _ => rfl) rfl rfl b12 rfl rfl rfl ?_
  refine RegV.p0 rfl rfl rfl ?_
  refine RegV.nil0 ?_
  have hr := Option.some.inj h
  subst hr
  exact AWc.ret (canQ (N := 8) (k := 1) (l' := [(2, (.ap 0 1 (List.map byteD (r10 ++ a0))))]) (H' := [(0, (.tok ((List.map byteD (r10 ++ a0)).length * 1)))]) rfl ⟨rfl, [], [(0, 1)], rfl, rfl, ⟨⟨_, rfl, (.refl _)⟩, rfl, trivial⟩, ⟨⟨_, rfl, (.refl _)⟩, rfl, rfl, trivial⟩⟩ (doneA (.inr rfl) rfl ⟨trivial, trivial⟩ (.refl _) (hasCons rfl hasNil)))
/-- courant/couranthelp.Plain[byte]$1 -/
def C109 (N : Nat → Nat) : AFunc := { n := 8, params := 2, res := [.tmp 4], body :=
 (.seq (.region false [⟨(some 4), .mv (.k (.d (.bool false))), none, []⟩])
  (.seq (.region false [⟨(some 5), .mv (.t 0), none, []⟩,
    ⟨(some 6), .mv (.t 1), none, []⟩,
    ⟨(some 7), .bin .eql (.t 5) (.t 6), none, [0, 1]⟩,
    ⟨(some 4), .mv (.t 7), none, [2, 0, 1]⟩])
   .ret)) }
def HC109 (P : Program) (N : Nat → Nat) : Prop := HasF P (N 109) (C109 N)
def f109 (k : Nat) (a0 : UInt8) (a1 : UInt8) : Option Unit := some ()
theorem F109 {P : Program} {N : Nat → Nat} (hmix : P.follows .mixedOrders = true) (hc : HC109 P N) {k : Nat} {a0 : UInt8} {a1 : UInt8} {r : Unit} (h : f109 k a0 a1 = some r) :
    ACalls P (N 109) [(.d (.int .u8 ((a0.toNat : Nat) : Int))), (.d (.int .u8 ((a1.toNat : Nat) : Int)))] [] (.d (.bool (decide (((a0.toNat : Nat) : Int) = ((a1.toNat : Nat) : Int))))) [] := by
  refine acalls_canon (F := C109 N) hc 0 0 rfl ?_
  unfold f109 at h
  dsimp only [C109, startL]
  refine AWc.seq ?_
  refine AWc.rg hmix rfl rfl ?_
  refine RegV.p0 rfl rfl rfl ?_
  refine RegV.nil0 ?_
  refine AWc.seq ?_
  refine AWc.rg hmix rfl rfl ?_
  refine RegV.p0 rfl rfl rfl ?_
  refine RegV.p0 rfl rfl rfl ?_
  refine RegV.p0 (v := (.d (.bool (decide (((a0.toNat : Nat) : Int) = ((a1.toNat : Nat) : Int)))))) rfl rfl rfl ?_
  refine RegV.p0 rfl rfl rfl ?_
  refine RegV.nil0 ?_
  have hr := Option.some.inj h
  subst hr
  exact AWc.ret (canQ (N := 8) (k := 0) (l' := [(4, (.d (.bool (decide (((a0.toNat : Nat) : Int) = ((a1.toNat : Nat) : Int))))))]) (H' := []) rfl ⟨rfl, [], [], rfl, rfl, ⟨⟨_, rfl, (.refl _)⟩, rfl, trivial⟩,  trivial⟩ (doneA (.inr rfl) rfl ⟨trivial, trivial⟩ (.refl _) hasNil))
/-- courant/couranthelp.Same[byte] -/
def C108 (N : Nat → Nat) : AFunc := { n := 30, params := 3, res := [.tmp 6], body :=
 (.seq (.region false [⟨(some 6), .mv (.k (.d (.bool false))), none, []⟩])
  (.seq (.seq (.region false [⟨(some 8), .mv (.t 0), none, []⟩,
     ⟨(some 9), .len (.t 8), none, [0]⟩,
     ⟨(some 10), .mv (.t 1), none, []⟩,
     ⟨(some 11), .len (.t 10), none, [2]⟩,
     ⟨(some 12), .bin .neq (.t 9) (.t 11), none, [1, 3]⟩])
    (.cond (.t 12) (.seq (.region false [⟨(some 6), .mv (.k (.d (.bool false))), none, []⟩])
      .ret)
     (.skip)))
   (.seq (.seq (.region false [⟨(some 7), .mv (.k (.d (.int .i64 0))), none, []⟩])
     (.block 0 (.loop (.seq (.seq (.region false [⟨(some 13), .mv (.t 7), none, []⟩,
          ⟨(some 14), .mv (.t 0), none, []⟩,
          ⟨(some 15), .len (.t 14), none, [1]⟩,
          ⟨(some 16), .bin .lss (.t 13) (.t 15), none, [0, 2]⟩])
         (.cond (.t 16) (.skip)
          (.exit 0)))
        (.seq (.block 1 (.seq (.region true [⟨(some 19), .mv (.t 2), none, []⟩,
            ⟨(some 20), .mv (.t 0), none, []⟩,
            ⟨(some 21), .mv (.t 7), none, []⟩,
            ⟨(some 22), .iaddr (.t 20) (.t 21) 1, none, [1, 2]⟩,
            ⟨(some 23), .load (.t 22) 1 false, none, [3]⟩,
            ⟨(some 24), .mv (.t 1), none, []⟩,
            ⟨(some 25), .mv (.t 7), none, []⟩,
            ⟨(some 26), .iaddr (.t 24) (.t 25) 1, none, [5, 6]⟩,
            ⟨(some 27), .load (.t 26) 1 false, none, [7]⟩,
            ⟨(some 28), .call (.t 19) [(.t 23), (.t 27)], none, [0, 4, 8]⟩,
            ⟨(some 29), .un .not (.t 28), none, [9]⟩])
           (.cond (.t 29) (.seq (.region false [⟨(some 6), .mv (.k (.d (.bool false))), none, []⟩])
             .ret)
            (.skip))))
         (.region false [⟨(some 17), .mv (.t 7), none, []⟩,
          ⟨(some 18), .bin .add (.t 17) (.k (.d (.int .i64 1))), none, [0]⟩,
          ⟨(some 7), .mv (.t 18), none, [1, 0]⟩]))))))
    (.seq (.region false [⟨(some 6), .mv (.k (.d (.bool true))), none, []⟩])
     .ret)))) }
def HC108 (P : Program) (N : Nat → Nat) : Prop := HasF P (N 108) (C108 N) ∧ HC109 P N
def f108_l26 (a0 : (List UInt8)) (a1 : (List UInt8)) : Nat → Int → Option (LR2 Unit Unit Bool)
  | 0, _ => none
  | k + 1, y26_1 => cond (decide (y26_1 < ((a0.length : Nat) : Int))) (gd (0 ≤ y26_1 ∧ y26_1 < ((a0.length : Nat) : Int)) (gd (0 ≤ y26_1 ∧ y26_1 < ((a1.length : Nat) : Int)) ((f109 k (rd a0 y26_1) (rd a1 y26_1)).bind fun r53 => cond (!(decide ((((rd a0 y26_1).toNat : Nat) : Int) = (((rd a1 y26_1).toNat : Nat) : Int)))) (some (.r false)) (f108_l26 a0 a1 k (IntKind.i64.wrap (y26_1 + (1 : Int))))))) (some (.b0 ()))
def f108 (k : Nat) (a0 : (List UInt8)) (a1 : (List UInt8)) : Option Bool := cond (decide (((a0.length : Nat) : Int) ≠ ((a1.length : Nat) : Int))) (some false) ((f108_l26 a0 a1 k (0 : Int)).bind fun o26 => match o26 with | .b0 () => some true | .r x => some x | _ => none)
theorem F108 {P : Program} {N : Nat → Nat} (hmix : P.follows .mixedOrders = true) (hc : HC108 P N) {k : Nat} {a0 : (List UInt8)} {a1 : (List UInt8)} {r : Bool} (h : f108 k a0 a1 = some r) :
    ACalls P (N 108) [(.d (.sl (List.map byteD a0))), (.d (.sl (List.map byteD a1))), (.d (.fn (N 109)))] [] (.d (.bool r)) [] := by
  refine acalls_canon (F := C108 N) hc.1 0 0 rfl ?_
  unfold f108 at h
  dsimp only [C108, startL]
  refine AWc.seq ?_
  refine AWc.rg hmix rfl rfl ?_
  refine RegV.p0 rfl rfl rfl ?_
  refine RegV.nil0 ?_
  refine AWc.seq ?_
  refine AWc.seq ?_
  refine AWc.rg hmix rfl rfl ?_
  refine RegV.p0 rfl rfl rfl ?_
  refine RegV.len (xs := a0) (e := byteD) rfl rfl rfl rfl ?_
  refine RegV.p0 rfl rfl rfl ?_
  refine RegV.len (xs := a1) (e := byteD) rfl rfl rfl rfl ?_
  refine RegV.p0 (v := (.d (.bool (decide (((a0.length : Nat) : Int) ≠ ((a1.length : Nat) : Int)))))) rfl rfl rfl ?_
  refine RegV.nil0 ?_
  refine AWc.cond rfl (fun c14 => ?_) (fun c14 => ?_)
  · have h := cond_pos c14 h
    refine AWc.seq ?_
    refine AWc.rg hmix rfl rfl ?_
    refine RegV.p0 rfl rfl rfl ?_
    refine RegV.nil0 ?_
    have hr := Option.some.inj h
    subst hr
    exact AWc.ret (canQ (N := 30) (k := 0) (l' := [(6, (.d (.bool false)))]) (H' := []) rfl ⟨rfl, [], [], rfl, rfl, ⟨⟨_, rfl, (.refl _)⟩, rfl, trivial⟩,  trivial⟩ (doneA (.inr rfl) rfl ⟨trivial, trivial⟩ (.refl _) hasNil))
  · have h := cond_neg c14 h
    refine AWc.skip ?_
    refine AWc.seq ?_
    refine AWc.seq ?_
    refine AWc.rg hmix rfl rfl ?_
    refine RegV.p0 rfl rfl rfl ?_
    refine RegV.nil0 ?_
    obtain ⟨o26, h26, h⟩ := bind_some h
    refine AWc.block ?_
    refine AWc.loopK (N := 30) 0 (fun (x : Int) => [(0, (.d (.sl (List.map byteD a0)))), (1, (.d (.sl (List.map byteD a1)))), (2, (.d (.fn (N 109)))), (7, (.d (.int .i64 x)))]) (fun x => []) (fun k x => f108_l26 a0 a1 k x = some o26) k (0 : Int) rfl_le (fun x hx => by cases hx) h26 ⟨rfl, [], [], rfl, rfl, ⟨⟨_, rfl, (.refl _)⟩, rfl, ⟨⟨_, rfl, (.refl _)⟩, rfl, ⟨⟨_, rfl, (.refl _)⟩, rfl, ⟨⟨_, rfl, (.refl _)⟩, rfl, trivial⟩⟩⟩⟩,  trivial⟩ ?_
    clear h26
    intro k
    intro y26_1 h26
    rw [f108_l26] at h26
    refine AWc.seq ?_
    refine AWc.seq ?_
    refine AWc.rg hmix rfl rfl ?_
    refine RegV.p0 rfl rfl rfl ?_
    refine RegV.p0 rfl rfl rfl ?_
    refine RegV.len (xs := a0) (e := byteD) rfl rfl rfl rfl ?_
    refine RegV.p0 (v := (.d (.bool (decide (y26_1 < ((a0.length : Nat) : Int)))))) rfl rfl rfl ?_
    refine RegV.nil0 ?_
    refine AWc.cond rfl (fun c36 => ?_) (fun c36 => ?_)
    · have h26 := cond_pos c36 h26
      refine AWc.skip ?_
      refine AWc.seq ?_
      refine AWc.block ?_
      refine AWc.seq ?_
      refine AWc.rg hmix rfl rfl ?_
      refine RegV.p0 rfl rfl rfl ?_
      refine RegV.p0 rfl rfl rfl ?_
      refine RegV.p0 rfl rfl rfl ?_
      obtain ⟨b47, h26⟩ := gd_some h26
      refine RegV.iad (xs := a0) (e := byteD) rfl rfl rfl rfl (fun _ => rfl) b47 rfl ?_
      refine RegV.p0 (v := (.d (.int .u8 (((rd a0 y26_1).toNat : Nat) : Int)))) rfl rfl rfl ?_
      refine RegV.p0 rfl rfl rfl ?_
      refine RegV.p0 rfl rfl rfl ?_
      obtain ⟨b51, h26⟩ := gd_some h26
      refine RegV.iad (xs := a1) (e := byteD) rfl rfl rfl rfl (fun _ => rfl) b51 rfl ?_
      refine RegV.p0 (v := (.d (.int .u8 (((rd a1 y26_1).toNat : Nat) : Int)))) rfl rfl rfl ?_
      obtain ⟨r53, e53, h26⟩ := bind_some h26
      refine RegV.call0 (F109 hmix hc.2 e53) rfl rfl rfl rfl (.cons (.refl _) (.cons (.refl _) .nil)) rfl ?_
      refine RegV.p0 (v := (.d (.bool (!(decide ((((rd a0 y26_1).toNat : Nat) : Int) = (((rd a1 y26_1).toNat : Nat) : Int))))))) rfl rfl rfl ?_
      refine RegV.nil1 (by kernel_rfl) ?_
      refine AWc.cond rfl (fun c55 => ?_) (fun c55 => ?_)
      · have h26 := cond_pos c55 h26
        refine AWc.seq ?_
        refine AWc.rg hmix rfl rfl ?_
        refine RegV.p0 rfl rfl rfl ?_
        refine RegV.nil0 ?_
        cases h26
        dsimp only at h
        have hr := Option.some.inj h
        subst hr
        exact AWc.ret (canQ (N := 30) (k := 0) (l' := [(6, (.d (.bool false)))]) (H' := []) rfl ⟨rfl, [], [], rfl, rfl, ⟨⟨_, rfl, (.refl _)⟩, rfl, trivial⟩,  trivial⟩ (doneA (.inr rfl) rfl ⟨trivial, trivial⟩ (.refl _) hasNil))
      · have h26 := cond_neg c55 h26
        refine AWc.skip ?_
        refine AWc.rg hmix rfl rfl ?_
        refine RegV.p0 rfl rfl rfl ?_
        refine RegV.p0 (v := (.d (.int .i64 (IntKind.i64.wrap (y26_1 + (1 : Int)))))) rfl rfl rfl ?_
        refine RegV.p0 rfl rfl rfl ?_
        refine RegV.nil0 ?_
        exact ⟨(IntKind.i64.wrap (y26_1 + (1 : Int))), h26, ⟨rfl, [], [], rfl, rfl, ⟨⟨_, rfl, (.refl _)⟩, rfl, ⟨⟨_, rfl, (.refl _)⟩, rfl, ⟨⟨_, rfl, (.refl _)⟩, rfl, ⟨⟨_, rfl, (.refl _)⟩, rfl, trivial⟩⟩⟩⟩,  trivial⟩⟩
    · have h26 := cond_neg c36 h26
      cases h26
      dsimp only at h
      refine AWc.exit ?_
      refine inBlk_eq ?_
      refine AWc.seq ?_
      refine AWc.rg hmix rfl rfl ?_
      refine RegV.p0 rfl rfl rfl ?_
      refine RegV.nil0 ?_
      have hr := Option.some.inj h
      subst hr
      exact AWc.ret (canQ (N := 30) (k := 0) (l' := [(6, (.d (.bool true)))]) (H' := []) rfl ⟨rfl, [], [], rfl, rfl, ⟨⟨_, rfl, (.refl _)⟩, rfl, trivial⟩,  trivial⟩ (doneA (.inr rfl) rfl ⟨trivial, trivial⟩ (.refl _) hasNil))
/-- courant/couranthelp.Plain[byte] -/
def C83 (N : Nat → Nat) : AFunc := { n := 8, params := 2, res := [.tmp 4], body :=
 (.seq (.region false [⟨(some 4), .mv (.k (.d (.bool false))), none, []⟩])
  (.seq (.region false [⟨(some 5), .mv (.t 0), none, []⟩,
    ⟨(some 6), .mv (.t 1), none, []⟩,
    ⟨(some 7), .call (.k (.d (.fn (N 108)))) [(.t 5), (.t 6), (.k (.d (.fn (N 109))))], none, [0, 1]⟩,
    ⟨(some 4), .mv (.t 7), none, [2, 0, 1]⟩])
   .ret)) }
def HC83 (P : Program) (N : Nat → Nat) : Prop := HasF P (N 83) (C83 N) ∧ HC108 P N
def f83 (k : Nat) (a0 : (List UInt8)) (a1 : (List UInt8)) : Option Bool := (f108 k a0 a1).bind fun r10 => some r10
theorem F83 {P : Program} {N : Nat → Nat} (hmix : P.follows .mixedOrders = true) (hc : HC83 P N) {k : Nat} {a0 : (List UInt8)} {a1 : (List UInt8)} {r : Bool} (h : f83 k a0 a1 = some r) :
    ACalls P (N 83) [(.d (.sl (List.map byteD a0))), (.d (.sl (List.map byteD a1)))] [] (.d (.bool r)) [] := by
  refine acalls_canon (F := C83 N) hc.1 0 0 rfl ?_
  unfold f83 at h
  dsimp only [C83, startL]
  refine AWc.seq ?_
  refine AWc.rg hmix rfl rfl ?_
  refine RegV.p0 rfl rfl rfl ?_
  refine RegV.nil0 ?_
  refine AWc.seq ?_
  refine AWc.rg hmix rfl rfl ?_
  refine RegV.p0 rfl rfl rfl ?_
  refine RegV.p0 rfl rfl rfl ?_
  obtain ⟨r10, e10, h⟩ := bind_some h
  refine RegV.call0 (F108 hmix hc.2 e10) rfl rfl rfl rfl (.cons (.refl _) (.cons (.refl _) (.cons (.refl _) .nil))) rfl ?_
  refine RegV.p0 rfl rfl rfl ?_
  refine RegV.nil0 ?_
  have hr := Option.some.inj h
  subst hr
  exact AWc.ret (canQ (N := 8) (k := 0) (l' := [(4, (.d (.bool r10)))]) (H' := []) rfl ⟨rfl, [], [], rfl, rfl, ⟨⟨_, rfl, (.refl _)⟩, rfl, trivial⟩,  trivial⟩ (doneA (.inr rfl) rfl ⟨trivial, trivial⟩ (.refl _) hasNil))
/-- courant/couranthelp.Kept[byte] -/
def C29 (N : Nat → Nat) : AFunc := { n := 40, params := 3, res := [.tmp 6], body :=
 (.seq (.region false [⟨(some 6), .mv (.k (.d (.bool false))), none, []⟩])
  (.seq (.seq (.region false [⟨(some 9), .mv (.t 0), none, []⟩,
     ⟨(some 10), .mv (.t 1), none, []⟩,
     ⟨(some 11), .call (.k (.d (.fn (N 83)))) [(.t 9), (.t 10)], none, [0, 1]⟩,
     ⟨(some 12), .un .not (.t 11), none, [2]⟩,
     ⟨(some 13), .mv (.t 12), none, [3, 2]⟩,
     ⟨(some 14), .mv (.t 0), (some (13, false)), [4]⟩,
     ⟨(some 15), .cap (.t 14), (some (13, false)), [5, 4]⟩,
     ⟨(some 16), .mv (.t 1), (some (13, false)), [4]⟩,
     ⟨(some 17), .len (.t 16), (some (13, false)), [7, 4]⟩,
     ⟨(some 18), .bin .add (.t 17) (.k (.d (.int .i64 3))), (some (13, false)), [8, 4]⟩,
     ⟨(some 19), .bin .lss (.t 15) (.t 18), (some (13, false)), [6, 9, 4]⟩,
     ⟨(some 20), .pick (.t 13) (.k (.d (.bool true))) (.t 19), none, [4, 10]⟩])
    (.cond (.t 20) (.seq (.region false [⟨(some 6), .mv (.k (.d (.bool false))), none, []⟩])
      .ret)
     (.skip)))
   (.seq (.region false [⟨(some 21), .mv (.t 0), none, []⟩,
     ⟨(some 22), .mv (.t 1), none, []⟩,
     ⟨(some 23), .len (.t 22), none, [1]⟩,
     ⟨(some 24), .bin .add (.t 23) (.k (.d (.int .i64 3))), none, [2]⟩,
     ⟨(some 25), .slc (.t 21) none (some (.t 24)) none 1, none, [0, 3]⟩,
     ⟨(some 7), .mv (.t 25), none, [4, 0, 1, 2, 3]⟩])
    (.seq (.seq (.region false [⟨(some 26), .mv (.t 1), none, []⟩,
       ⟨(some 27), .len (.t 26), none, [0]⟩,
       ⟨(some 8), .mv (.t 27), none, [1, 0]⟩])
      (.block 0 (.loop (.seq (.seq (.region false [⟨(some 28), .mv (.t 8), none, []⟩,
           ⟨(some 29), .mv (.t 7), none, []⟩,
           ⟨(some 30), .len (.t 29), none, [1]⟩,
           ⟨(some 31), .bin .lss (.t 28) (.t 30), none, [0, 2]⟩])
          (.cond (.t 31) (.skip)
           (.exit 0)))
         (.seq (.block 1 (.seq (.region false [⟨(some 34), .mv (.t 7), none, []⟩,
             ⟨(some 35), .mv (.t 8), none, []⟩,
             ⟨(some 36), .iaddr (.t 34) (.t 35) 1, none, [0, 1]⟩,
             ⟨(some 37), .load (.t 36) 1 false, none, [2]⟩,
             ⟨(some 38), .mv (.t 2), none, []⟩,
             ⟨(some 39), .bin .neq (.t 37) (.t 38), none, [3, 4]⟩])
            (.cond (.t 39) (.seq (.region false [⟨(some 6), .mv (.k (.d (.bool false))), none, []⟩])
              .ret)
             (.skip))))
          (.region false [⟨(some 32), .mv (.t 8), none, []⟩,
           ⟨(some 33), .bin .add (.t 32) (.k (.d (.int .i64 1))), none, [0]⟩,
           ⟨(some 8), .mv (.t 33), none, [1, 0]⟩]))))))
     (.seq (.region false [⟨(some 6), .mv (.k (.d (.bool true))), none, []⟩])
      .ret))))) }
def HC29 (P : Program) (N : Nat → Nat) : Prop := HasF P (N 29) (C29 N) ∧ HC83 P N
def f29_l44 (a2 : (List UInt8)) (a0 : (List UInt8)) (a3 : UInt8) : Nat → Int → Option (LR2 Unit Unit Bool)
  | 0, _ => none
  | k + 1, y44_1 => cond (decide (y44_1 < (((List.take (((IntKind.i64.wrap (((a2.length : Nat) : Int) + (3 : Int)))).toNat) a0).length : Nat) : Int))) (gd (0 ≤ y44_1 ∧ y44_1 < (((List.take (((IntKind.i64.wrap (((a2.length : Nat) : Int) + (3 : Int)))).toNat) a0).length : Nat) : Int)) (cond (decide ((((rd (List.take (((IntKind.i64.wrap (((a2.length : Nat) : Int) + (3 : Int)))).toNat) a0) y44_1).toNat : Nat) : Int) ≠ ((a3.toNat : Nat) : Int))) (some (.r false)) (f29_l44 a2 a0 a3 k (IntKind.i64.wrap (y44_1 + (1 : Int)))))) (some (.b0 ()))
def f29 (k : Nat) (a0 : (List UInt8)) (a1 : Nat) (a2 : (List UInt8)) (a3 : UInt8) : Option Bool := (f83 k (List.take a1 a0) a2).bind fun r11 => cond (!r11) (some false) (cond (decide (((a0.length : Nat) : Int) < (IntKind.i64.wrap (((a2.length : Nat) : Int) + (3 : Int))))) (some false) (gd (0 ≤ (IntKind.i64.wrap (((a2.length : Nat) : Int) + (3 : Int))) ∧ (IntKind.i64.wrap (((a2.length : Nat) : Int) + (3 : Int))) ≤ ((a0.length : Nat) : Int)) ((f29_l44 a2 a0 a3 k ((a2.length : Nat) : Int)).bind fun o44 => match o44 with | .b0 () => some true | .r x => some x | _ => none)))
theorem F29 {P : Program} {N : Nat → Nat} (hmix : P.follows .mixedOrders = true) (hc : HC29 P N) {k : Nat} {a0 : (List UInt8)} {a1 : Nat} {a2 : (List UInt8)} {a3 : UInt8} {r : Bool} (h : f29 k a0 a1 a2 a3 = some r) :
    ACalls P (N 29) [(.win (List.map byteD a0) a1), (.d (.sl (List.map byteD a2))), (.d (.int .u8 ((a3.toNat : Nat) : Int)))] [] (.d (.bool r)) [] := by
  refine acalls_canon (F := C29 N) hc.1 0 0 rfl ?_
  unfold f29 at h
  dsimp only [C29, startL]
  refine AWc.seq ?_
  refine AWc.rg hmix rfl rfl ?_
  refine RegV.p0 rfl rfl rfl ?_
  refine RegV.nil0 ?_
  refine AWc.seq ?_
  refine AWc.seq ?_
  refine AWc.rg hmix rfl rfl ?_
  refine RegV.p0 rfl rfl rfl ?_
  refine RegV.p0 rfl rfl rfl ?_
  obtain ⟨r11, e11, h⟩ := bind_some h
  refine RegV.call0 (F83 hmix hc.2 e11) rfl rfl rfl rfl (.cons .win (.cons (.refl _) .nil)) rfl ?_
  refine RegV.p0 (v := (.d (.bool (!r11)))) rfl rfl rfl ?_
  refine RegV.p0 rfl rfl rfl ?_
  refine RegV.split (fun c13 => ?_) (fun c13 => ?_)
  · have h := cond_pos c13 h
    refine RegV.noS rfl rfl ?_
    refine RegV.noS rfl rfl ?_
    refine RegV.noS rfl rfl ?_
    refine RegV.noS rfl rfl ?_
    refine RegV.noS rfl rfl ?_
    refine RegV.noS rfl rfl ?_
    refine RegV.p0 rfl rfl rfl ?_
    refine RegV.nil0 ?_
    refine AWc.cond rfl (fun _ => ?_) (fun hc => by cases hc)
    refine AWc.seq ?_
    refine AWc.rg hmix rfl rfl ?_
    refine RegV.p0 rfl rfl rfl ?_
    refine RegV.nil0 ?_
    have hr := Option.some.inj h
    subst hr
    exact AWc.ret (canQ (N := 40) (k := 0) (l' := [(6, (.d (.bool false)))]) (H' := []) rfl ⟨rfl, [], [], rfl, rfl, ⟨⟨_, rfl, (.refl _)⟩, rfl, trivial⟩,  trivial⟩ (doneA (.inr rfl) rfl ⟨trivial, trivial⟩ (.refl _) hasNil))
  · have h := cond_neg c13 h
    refine RegV.p0 rfl rfl rfl ?_
    refine RegV.capW (ys := a0) (e := byteD) rfl rfl rfl ?_
    refine RegV.p0 rfl rfl rfl ?_
    refine RegV.len (xs := a2) (e := byteD) rfl rfl rfl rfl ?_
    refine RegV.p0 (v := (.d (.int .i64 (IntKind.i64.wrap (((a2.length : Nat) : Int) + (3 : Int)))))) rfl rfl rfl ?_
    refine RegV.p0 (v := (.d (.bool (decide (((a0.length : Nat) : Int) < (IntKind.i64.wrap (((a2.length : Nat) : Int) + (3 : Int)))))))) rfl rfl rfl ?_
    refine RegV.p0 rfl rfl rfl ?_
    refine RegV.nil0 ?_
    refine AWc.cond rfl (fun c21 => ?_) (fun c21 => ?_)
    · have h := cond_pos c21 h
      refine AWc.seq ?_
      refine AWc.rg hmix rfl rfl ?_
      refine RegV.p0 rfl rfl rfl ?_
      refine RegV.nil0 ?_
      have hr := Option.some.inj h
      subst hr
      exact AWc.ret (canQ (N := 40) (k := 0) (l' := [(6, (.d (.bool false)))]) (H' := []) rfl ⟨rfl, [], [], rfl, rfl, ⟨⟨_, rfl, (.refl _)⟩, rfl, trivial⟩,  trivial⟩ (doneA (.inr rfl) rfl ⟨trivial, trivial⟩ (.refl _) hasNil))
    · have h := cond_neg c21 h
      refine AWc.skip ?_
      refine AWc.seq ?_
      refine AWc.rg hmix rfl rfl ?_
      refine RegV.p0 rfl rfl rfl ?_
      refine RegV.p0 rfl rfl rfl ?_
      refine RegV.len (xs := a2) (e := byteD) rfl rfl rfl rfl ?_
      refine RegV.p0 (v := (.d (.int .i64 (IntKind.i64.wrap (((a2.length : Nat) : Int) + (3 : Int)))))) rfl rfl rfl ?_
      obtain ⟨b35, h⟩ := gd_some h
      refine RegV.slW (ys := a0) (e := byteD) (hi := (IntKind.i64.wrap (((a2.length : Nat) : Int) + (3 : Int)))) rfl rfl rfl b35 rfl ?_
      refine RegV.p0 rfl rfl rfl ?_
      refine RegV.nil0 ?_
      refine AWc.seq ?_
      refine AWc.seq ?_
      refine AWc.rg hmix rfl rfl ?_
      refine RegV.p0 rfl rfl rfl ?_
      refine RegV.len (xs := a2) (e := byteD) rfl rfl rfl rfl ?_
      refine RegV.p0 rfl rfl rfl ?_
      refine RegV.nil0 ?_
      obtain ⟨o44, h44, h⟩ := bind_some h
      refine AWc.block ?_
      refine AWc.loopK (N := 40) 0 (fun (x : Int) => [(2, (.d (.int .u8 ((a3.toNat : Nat) : Int)))), (7, (.win (List.map byteD a0) (((IntKind.i64.wrap (((a2.length : Nat) : Int) + (3 : Int)))).toNat))), (8, (.d (.int .i64 x)))]) (fun x => []) (fun k x => f29_l44 a2 a0 a3 k x = some o44) k ((a2.length : Nat) : Int) rfl_le (fun x hx => by cases hx) h44 ⟨rfl, [], [], rfl, rfl, ⟨⟨_, rfl, (.refl _)⟩, rfl, ⟨⟨_, rfl, (.refl _)⟩, rfl, ⟨⟨_, rfl, (.refl _)⟩, rfl, trivial⟩⟩⟩,  trivial⟩ ?_
      clear h44
      intro k
      intro y44_1 h44
      rw [f29_l44] at h44
      refine AWc.seq ?_
      refine AWc.seq ?_
      refine AWc.rg hmix rfl rfl ?_
      refine RegV.p0 rfl rfl rfl ?_
      refine RegV.p0 rfl rfl rfl ?_
      refine RegV.len (xs := (List.take (((IntKind.i64.wrap (((a2.length : Nat) : Int) + (3 : Int)))).toNat) a0)) (e := byteD) rfl rfl (toSlW _ _) rfl ?_
      refine RegV.p0 (v := (.d (.bool (decide (y44_1 < (((List.take (((IntKind.i64.wrap (((a2.length : Nat) : Int) + (3 : Int)))).toNat) a0).length : Nat) : Int)))))) rfl rfl rfl ?_
      refine RegV.nil0 ?_
      refine AWc.cond rfl (fun c54 => ?_) (fun c54 => ?_)
      · have h44 := cond_pos c54 h44
        refine AWc.skip ?_
        refine AWc.seq ?_
        refine AWc.block ?_
        refine AWc.seq ?_
        refine AWc.rg hmix rfl rfl ?_
        refine RegV.p0 rfl rfl rfl ?_
        refine RegV.p0 rfl rfl rfl ?_
        obtain ⟨b64, h44⟩ := gd_some h44
        refine RegV.iad (xs := (List.take (((IntKind.i64.wrap (((a2.length : Nat) : Int) + (3 : Int)))).toNat) a0)) (e := byteD) rfl rfl (toSlW _ _) rfl (fun _ => rfl) b64 rfl ?_
        refine RegV.p0 (v := (.d (.int .u8 (((rd (List.take (((IntKind.i64.wrap (((a2.length : Nat) : Int) + (3 : Int)))).toNat) a0) y44_1).toNat : Nat) : Int)))) rfl rfl rfl ?_
        refine RegV.p0 rfl rfl rfl ?_
        refine RegV.p0 (v := (.d (.bool (decide ((((rd (List.take (((IntKind.i64.wrap (((a2.length : Nat) : Int) + (3 : Int)))).toNat) a0) y44_1).toNat : Nat) : Int) ≠ ((a3.toNat : Nat) : Int)))))) rfl rfl rfl ?_
        refine RegV.nil0 ?_
        refine AWc.cond rfl (fun c68 => ?_) (fun c68 => ?_)
        · have h44 := cond_pos c68 h44
          refine AWc.seq ?_
          refine AWc.rg hmix rfl rfl ?_
          refine RegV.p0 rfl rfl rfl ?_
          refine RegV.nil0 ?_
          cases h44
          dsimp only at h
          have hr := Option.some.inj h
          subst hr
          exact AWc.ret (canQ (N := 40) (k := 0) (l' := [(6, (.d (.bool false)))]) (H' := []) rfl ⟨rfl, [], [], rfl, rfl, ⟨⟨_, rfl, (.refl _)⟩, rfl, trivial⟩,  trivial⟩ (doneA (.inr rfl) rfl ⟨trivial, trivial⟩ (.refl _) hasNil))
        · have h44 := cond_neg c68 h44
          refine AWc.skip ?_
          refine AWc.rg hmix rfl rfl ?_
          refine RegV.p0 rfl rfl rfl ?_
          refine RegV.p0 (v := (.d (.int .i64 (IntKind.i64.wrap (y44_1 + (1 : Int)))))) rfl rfl rfl ?_
          refine RegV.p0 rfl rfl rfl ?_
          refine RegV.nil0 ?_
          exact ⟨(IntKind.i64.wrap (y44_1 + (1 : Int))), h44, ⟨rfl, [], [], rfl, rfl, ⟨⟨_, rfl, (.refl _)⟩, rfl, ⟨⟨_, rfl, (.refl _)⟩, rfl, ⟨⟨_, rfl, (.refl _)⟩, rfl, trivial⟩⟩⟩,  trivial⟩⟩
      · have h44 := cond_neg c54 h44
        cases h44
        dsimp only at h
        refine AWc.exit ?_
        refine inBlk_eq ?_
        refine AWc.seq ?_
        refine AWc.rg hmix rfl rfl ?_
        refine RegV.p0 rfl rfl rfl ?_
        refine RegV.nil0 ?_
        have hr := Option.some.inj h
        subst hr
        exact AWc.ret (canQ (N := 40) (k := 0) (l' := [(6, (.d (.bool true)))]) (H' := []) rfl ⟨rfl, [], [], rfl, rfl, ⟨⟨_, rfl, (.refl _)⟩, rfl, trivial⟩,  trivial⟩ (doneA (.inr rfl) rfl ⟨trivial, trivial⟩ (.refl _) hasNil))
/-- courant/courantlaw01.CodeWrites -/
def C3 (N : Nat → Nat) : AFunc := { n := 41, params := 3, res := [.tmp 6], body :=
 (.seq (.region false [⟨(some 6), .mv (.k (.d (.bool false))), none, []⟩])
  (.seq (.seq (.region false [⟨(some 8), .mv (.t 2), none, []⟩,
     ⟨(some 9), .len (.t 8), none, [0]⟩,
     ⟨(some 10), .bin .gtr (.t 9) (.k (.d (.int .i64 5000))), none, [1]⟩])
    (.cond (.t 10) (.seq (.region false [⟨(some 11), .call (.k (.d (.fn (N 20)))) [], none, []⟩,
       ⟨(some 6), .mv (.t 11), none, [0]⟩])
      .ret)
     (.skip)))
   (.seq (.region false [⟨(some 12), .mv (.t 2), none, []⟩,
     ⟨(some 13), .call (.k (.d (.fn (N 21)))) [(.t 12), (.k (.d (.int .u8 71)))], none, [0]⟩,
     ⟨(some 7), .mv (.t 13), none, [1, 0]⟩])
    (.seq (.region false [⟨(some 14), .call (.k (.d (.fn (N 20)))) [], none, []⟩,
      ⟨(some 15), .mv (.t 14), none, [0]⟩,
      ⟨(some 16), .mv (.t 0), (some (15, true)), [1]⟩,
      ⟨(some 17), .call (.k (.d (.fn (N 23)))) [(.t 16)], (some (15, true)), [2, 1]⟩,
      ⟨(some 18), .mv (.t 0), (some (15, true)), [1]⟩,
      ⟨(some 19), .call (.k (.d (.fn (N 24)))) [(.t 18)], (some (15, true)), [4, 3, 1]⟩,
      ⟨(some 20), .call (.k (.d (.fn (N 22)))) [(.t 17), (.t 19)], (some (15, true)), [3, 5, 1]⟩,
      ⟨(some 21), .pick (.t 15) (.t 20) (.k (.d (.bool false))), none, [1, 6]⟩,
      ⟨(some 22), .mv (.t 21), none, [7, 6]⟩,
      ⟨(some 23), .mv (.t 1), (some (22, true)), [8]⟩,
      ⟨(some 24), .call (.k (.d (.fn (N 25)))) [(.t 23)], (some (22, true)), [9, 8]⟩,
      ⟨(some 25), .mv (.t 1), (some (22, true)), [8]⟩,
      ⟨(some 26), .call (.k (.d (.fn (N 26)))) [(.t 25)], (some (22, true)), [11, 10, 8]⟩,
      ⟨(some 27), .call (.k (.d (.fn (N 22)))) [(.t 24), (.t 26)], (some (22, true)), [10, 12, 8]⟩,
      ⟨(some 28), .pick (.t 22) (.t 27) (.k (.d (.bool false))), none, [8, 13]⟩,
      ⟨(some 29), .mv (.t 28), none, [14, 13]⟩,
      ⟨(some 30), .mv (.t 7), (some (29, true)), [15]⟩,
      ⟨(some 31), .call (.k (.d (.fn (N 27)))) [(.t 30)], (some (29, true)), [16, 15]⟩,
      ⟨(some 32), .mv (.t 2), (some (29, true)), [15]⟩,
      ⟨(some 33), .call (.k (.d (.fn (N 28)))) [(.t 32)], (some (29, true)), [18, 17, 15]⟩,
      ⟨(some 34), .call (.k (.d (.fn (N 22)))) [(.t 31), (.t 33)], (some (29, true)), [17, 19, 15]⟩,
      ⟨(some 35), .pick (.t 29) (.t 34) (.k (.d (.bool false))), none, [15, 20]⟩,
      ⟨(some 36), .mv (.t 35), none, [21, 20]⟩,
      ⟨(some 37), .mv (.t 7), (some (36, true)), [22]⟩,
      ⟨(some 38), .mv (.t 2), (some (36, true)), [22]⟩,
      ⟨(some 39), .call (.k (.d (.fn (N 29)))) [(.t 37), (.t 38), (.k (.d (.int .u8 71)))], (some (36, true)), [23, 24, 22]⟩,
      ⟨(some 40), .pick (.t 36) (.t 39) (.k (.d (.bool false))), none, [22, 25]⟩,
      ⟨(some 6), .mv (.t 40), none, [26, 25, 0, 1, 2, 3, 4, 5, 6, 7, 8, 9, 10, 11, 12, 13, 14, 15, 16, 17, 18, 19, 20, 21, 22, 23, 24]⟩])
     .ret)))) }
def HC3 (P : Program) (N : Nat → Nat) : Prop := HasF P (N 3) (C3 N) ∧ HC20 P N ∧ HC21 P N ∧ HC23 P N ∧ HC24 P N ∧ HC22 P N ∧ HC25 P N ∧ HC26 P N ∧ HC27 P N ∧ HC28 P N ∧ HC29 P N
def f3 (k : Nat) (a0 : Int) (a1 : Int) (a2 : (List UInt8)) : Option Bool := cond (decide (((a2.length : Nat) : Int) > (5000 : Int))) ((f20 k).bind fun r16 => some r16) ((f21 k a2 (71 : UInt8)).bind fun r24 => (f20 k).bind fun r29 => cond r29 ((f23 k a0).bind fun r32 => (f24 k a0).bind fun r34 => (f22 k r32 r34).bind fun r35 => cond (decide (r32 = r34)) ((f25 k a1).bind fun r39 => (f26 k a1).bind fun r41 => (f22 k r39 r41).bind fun r42 => cond (decide (r39 = r41)) ((f27 k (List.take (((0 : Int)).toNat + a2.length) r24)).bind fun r46 => (f28 k a2).bind fun r48 => (f22 k r46 r48).bind fun r49 => cond (decide (r46 = r48)) ((f29 k r24 (((0 : Int)).toNat + a2.length) a2 (71 : UInt8)).bind fun r54 => some r54) (some false)) (some false)) (some false)) (some false))
theorem F3 {P : Program} {N : Nat → Nat} (hmix : P.follows .mixedOrders = true) (hc : HC3 P N) {k : Nat} {a0 : Int} {a1 : Int} {a2 : (List UInt8)} {r : Bool} (h : f3 k a0 a1 a2 = some r) :
    ACalls P (N 3) [(.d (.int .u64 a0)), (.d (.int .i64 a1)), (.d (.sl (List.map byteD a2)))] [] (.d (.bool r)) [] := by
  refine acalls_canon (F := C3 N) hc.1 0 0 rfl ?_
  unfold f3 at h
  dsimp only [C3, startL]
  refine AWc.seq ?_
  refine AWc.rg hmix rfl rfl ?_
  refine RegV.p0 rfl rfl rfl ?_
  refine RegV.nil0 ?_
  refine AWc.seq ?_
  refine AWc.seq ?_
  refine AWc.rg hmix rfl rfl ?_
  refine RegV.p0 rfl rfl rfl ?_
  refine RegV.len (xs := a2) (e := byteD) rfl rfl rfl rfl ?_
  refine RegV.p0 (v := (.d (.bool (decide (((a2.length : Nat) : Int) > (5000 : Int)))))) rfl rfl rfl ?_
  refine RegV.nil0 ?_
  refine AWc.cond rfl (fun c12 => ?_) (fun c12 => ?_)
  · have h := cond_pos c12 h
    refine AWc.seq ?_
    refine AWc.rg hmix rfl rfl ?_
    obtain ⟨r16, e16, h⟩ := bind_some h
    refine RegV.call0 (F20 hmix hc.2.1 e16) rfl rfl rfl rfl .nil rfl ?_
    refine RegV.p0 rfl rfl rfl ?_
    refine RegV.nil0 ?_
    have hr := Option.some.inj h
    subst hr
    exact AWc.ret (canQ (N := 41) (k := 0) (l' := [(6, (.d (.bool r16)))]) (H' := []) rfl ⟨rfl, [], [], rfl, rfl, ⟨⟨_, rfl, (.refl _)⟩, rfl, trivial⟩,  trivial⟩ (doneA (.inr rfl) rfl ⟨trivial, trivial⟩ (.refl _) hasNil))
  · have h := cond_neg c12 h
    refine AWc.skip ?_
    refine AWc.seq ?_
    refine AWc.rg hmix rfl rfl ?_
    refine RegV.p0 rfl rfl rfl ?_
    obtain ⟨r24, e24, h⟩ := bind_some h
    refine RegV.call0 (F21 hmix hc.2.2.1 e24) rfl rfl rfl rfl (.cons (.refl _) (.cons (.refl _) .nil)) rfl ?_
    refine RegV.p0 rfl rfl rfl ?_
    refine RegV.nil0 ?_
    refine AWc.seq ?_
    refine AWc.rg hmix rfl rfl ?_
    obtain ⟨r29, e29, h⟩ := bind_some h
    refine RegV.call0 (F20 hmix hc.2.1 e29) rfl rfl rfl rfl .nil rfl ?_
    refine RegV.p0 rfl rfl rfl ?_
    refine RegV.split (fun c30 => ?_) (fun c30 => ?_)
    · have h := cond_pos c30 h
      refine RegV.p0 rfl rfl rfl ?_
      obtain ⟨r32, e32, h⟩ := bind_some h
      refine RegV.callS (q := false) (H' := [(0, (.tok ((List.map byteD r32).length * 1)))]) (c' := 1) (show ACalls P (N 23) [(.d (.int .u64 a0))] [] (.ap 0 1 (List.map byteD r32)) [(0, (.tok ((List.map byteD r32).length * 1)))] from ACalls.use (F23 hmix hc.2.2.2.1 e32) [(0, 0)] 1 rfl) rfl rfl rfl rfl (.cons (.refl _) .nil) (.refl _) (fun h => by cases h) rfl hasNil rfl rfl rfl rfl ?_
      refine RegV.p0 rfl rfl rfl ?_
      obtain ⟨r34, e34, h⟩ := bind_some h
      refine RegV.callS (q := false) (H' := [(1, (.tok ((List.map byteD r34).length * 1))), (0, (.tok ((List.map byteD r32).length * 1)))]) (c' := 2) (show ACalls P (N 24) [(.d (.int .u64 a0))] [] (.ap 1 1 (List.map byteD r34)) [(1, (.tok ((List.map byteD r34).length * 1)))] from ACalls.use (F24 hmix hc.2.2.2.2.1 e34) [(0, 1)] 1 rfl) rfl rfl rfl rfl (.cons (.refl _) .nil) (.refl _) (fun h => by cases h) rfl hasNil rfl rfl rfl rfl ?_
      obtain ⟨r35, e35, h⟩ := bind_some h
      refine RegV.call0 (F22 hmix hc.2.2.2.2.2.1 e35) rfl rfl rfl rfl (.cons (.sl rfl) (.cons (.sl rfl) .nil)) rfl ?_
      refine RegV.p0 rfl rfl rfl ?_
      refine RegV.p0 rfl rfl rfl ?_
      refine RegV.split (fun c37 => ?_) (fun c37 => ?_)
      · have h := cond_pos c37 h
        refine RegV.p0 rfl rfl rfl ?_
        obtain ⟨r39, e39, h⟩ := bind_some h
        refine RegV.callS (q := false) (H' := [(2, (.tok ((List.map byteD r39).length * 1))), (1, (.tok ((List.map byteD r34).length * 1))), (0, (.tok ((List.map byteD r32).length * 1)))]) (c' := 3) (show ACalls P (N 25) [(.d (.int .i64 a1))] [] (.ap 2 1 (List.map byteD r39)) [(2, (.tok ((List.map byteD r39).length * 1)))] from ACalls.use (F25 hmix hc.2.2.2.2.2.2.1 e39) [(0, 2)] 1 rfl) rfl rfl rfl rfl (.cons (.refl _) .nil) (.refl _) (fun h => by cases h) rfl hasNil rfl rfl rfl rfl ?_
        refine RegV.p0 rfl rfl rfl ?_
        obtain ⟨r41, e41, h⟩ := bind_some h
        refine RegV.callS (q := false) (H' := [(3, (.tok ((List.map byteD r41).length * 1))), (2, (.tok ((List.map byteD r39).length * 1))), (1, (.tok ((List.map byteD r34).length * 1))), (0, (.tok ((List.map byteD r32).length * 1)))]) (c' := 4) (show ACalls P (N 26) [(.d (.int .i64 a1))] [] (.ap 3 1 (List.map byteD r41)) [(3, (.tok ((List.map byteD r41).length * 1)))] from ACalls.use (F26 hmix hc.2.2.2.2.2.2.2.1 e41) [(0, 3)] 1 rfl) rfl rfl rfl rfl (.cons (.refl _) .nil) (.refl _) (fun h => by cases h) rfl hasNil rfl rfl rfl rfl ?_
        obtain ⟨r42, e42, h⟩ := bind_some h
        refine RegV.call0 (F22 hmix hc.2.2.2.2.2.1 e42) rfl rfl rfl rfl (.cons (.sl rfl) (.cons (.sl rfl) .nil)) rfl ?_
        refine RegV.p0 rfl rfl rfl ?_
        refine RegV.p0 rfl rfl rfl ?_
        refine RegV.split (fun c44 => ?_) (fun c44 => ?_)
        · have h := cond_pos c44 h
          refine RegV.p0 rfl rfl rfl ?_
          obtain ⟨r46, e46, h⟩ := bind_some h
          refine RegV.callS (q := false) (H' := [(4, (.tok ((List.map byteD r46).length * 1))), (3, (.tok ((List.map byteD r41).length * 1))), (2, (.tok ((List.map byteD r39).length * 1))), (1, (.tok ((List.map byteD r34).length * 1))), (0, (.tok ((List.map byteD r32).length * 1)))]) (c' := 5) (show ACalls P (N 27) [(.d (.sl (List.map byteD (List.take (((0 : Int)).toNat + a2.length) r24))))] [] (.ap 4 1 (List.map byteD r46)) [(4, (.tok ((List.map byteD r46).length * 1)))] from ACalls.use (F27 hmix hc.2.2.2.2.2.2.2.2.1 e46) [(0, 4)] 1 rfl) rfl rfl rfl rfl (.cons .win .nil) (.refl _) (fun h => by cases h) rfl hasNil rfl rfl rfl rfl ?_
          refine RegV.p0 rfl rfl rfl ?_
          obtain ⟨r48, e48, h⟩ := bind_some h
          refine RegV.callS (q := false) (H' := [(5, (.tok ((List.map byteD r48).length * 1))), (4, (.tok ((List.map byteD r46).length * 1))), (3, (.tok ((List.map byteD r41).length * 1))), (2, (.tok ((List.map byteD r39).length * 1))), (1, (.tok ((List.map byteD r34).length * 1))), (0, (.tok ((List.map byteD r32).length * 1)))]) (c' := 6) (show ACalls P (N 28) [(.d (.sl (List.map byteD a2)))] [] (.ap 5 1 (List.map byteD r48)) [(5, (.tok ((List.map byteD r48).length * 1)))] from ACalls.use (F28 hmix hc.2.2.2.2.2.2.2.2.2.1 e48) [(0, 5)] 1 rfl) rfl rfl rfl rfl (.cons (.refl _) .nil) (.refl _) (fun h => by cases h) rfl hasNil rfl rfl rfl rfl ?_
          obtain ⟨r49, e49, h⟩ := bind_some h
          refine RegV.call0 (F22 hmix hc.2.2.2.2.2.1 e49) rfl rfl rfl rfl (.cons (.sl rfl) (.cons (.sl rfl) .nil)) rfl ?_
          refine RegV.p0 rfl rfl rfl ?_
          refine RegV.p0 rfl rfl rfl ?_
          refine RegV.split (fun c51 => ?_) (fun c51 => ?_)
          · have h := cond_pos c51 h
            refine RegV.p0 rfl rfl rfl ?_
            refine RegV.p0 rfl rfl rfl ?_
            obtain ⟨r54, e54, h⟩ := bind_some h
            refine RegV.call0 (F29 hmix hc.2.2.2.2.2.2.2.2.2.2 e54) rfl rfl rfl rfl (.cons (.refl _) (.cons (.refl _) (.cons (.refl _) .nil))) rfl ?_
            refine RegV.p0 rfl rfl rfl ?_
            refine RegV.p0 rfl rfl rfl ?_
            refine RegV.nil0 ?_
            have hr := Option.some.inj h
            subst hr
            exact AWc.ret (canQ (N := 41) (k := 0) (l' := [(6, (.d (.bool r54)))]) (H' := []) rfl ⟨rfl, [], [], rfl, rfl, ⟨⟨_, rfl, (.refl _)⟩, rfl, trivial⟩,  trivial⟩ (doneA (.inr rfl) rfl ⟨trivial, trivial⟩ (.refl _) hasNil))
          · have h := cond_neg c51 h
            refine RegV.noS rfl rfl ?_
            refine RegV.noS rfl rfl ?_
            refine RegV.noS rfl rfl ?_
            refine RegV.p0 rfl rfl rfl ?_
            refine RegV.p0 rfl rfl rfl ?_
            refine RegV.nil0 ?_
            have hr := Option.some.inj h
            subst hr
            exact AWc.ret (canQ (N := 41) (k := 0) (l' := [(6, (.d (.bool false)))]) (H' := []) rfl ⟨rfl, [], [], rfl, rfl, ⟨⟨_, rfl, (.refl _)⟩, rfl, trivial⟩,  trivial⟩ (doneA (.inr rfl) rfl ⟨trivial, trivial⟩ (.refl _) hasNil))
        · have h := cond_neg c44 h
          refine RegV.noS rfl rfl ?_
          refine RegV.noS rfl rfl ?_
          refine RegV.noS rfl rfl ?_
          refine RegV.noS rfl rfl ?_
          refine RegV.noS rfl rfl ?_
          refine RegV.p0 rfl rfl rfl ?_
          refine RegV.p0 rfl rfl rfl ?_
          refine RegV.noS rfl rfl ?_
          refine RegV.noS rfl rfl ?_
          refine RegV.noS rfl rfl ?_
          refine RegV.p0 rfl rfl rfl ?_
          refine RegV.p0 rfl rfl rfl ?_
          refine RegV.nil0 ?_
          have hr := Option.some.inj h
          subst hr
          exact AWc.ret (canQ (N := 41) (k := 0) (l' := [(6, (.d (.bool false)))]) (H' := []) rfl ⟨rfl, [], [], rfl, rfl, ⟨⟨_, rfl, (.refl _)⟩, rfl, trivial⟩,  trivial⟩ (doneA (.inr rfl) rfl ⟨trivial, trivial⟩ (.refl _) hasNil))
      · have h := cond_neg c37 h
        refine RegV.noS rfl rfl ?_
        refine RegV.noS rfl rfl ?_
        refine RegV.noS rfl rfl ?_
        refine RegV.noS rfl rfl ?_
        refine RegV.noS rfl rfl ?_
        refine RegV.p0 rfl rfl rfl ?_
        refine RegV.p0 rfl rfl rfl ?_
        refine RegV.noS rfl rfl ?_
        refine RegV.noS rfl rfl ?_
        refine RegV.noS rfl rfl ?_
        refine RegV.noS rfl rfl ?_
        refine RegV.noS rfl rfl ?_
        refine RegV.p0 rfl rfl rfl ?_
        refine RegV.p0 rfl rfl rfl ?_
        refine RegV.noS rfl rfl ?_
        refine RegV.noS rfl rfl ?_
        refine RegV.noS rfl rfl ?_
        refine RegV.p0 rfl rfl rfl ?_
        refine RegV.p0 rfl rfl rfl ?_
        refine RegV.nil0 ?_
        have hr := Option.some.inj h
        subst hr
        exact AWc.ret (canQ (N := 41) (k := 0) (l' := [(6, (.d (.bool false)))]) (H' := []) rfl ⟨rfl, [], [], rfl, rfl, ⟨⟨_, rfl, (.refl _)⟩, rfl, trivial⟩,  trivial⟩ (doneA (.inr rfl) rfl ⟨trivial, trivial⟩ (.refl _) hasNil))
    · have h := cond_neg c30 h
      refine RegV.noS rfl rfl ?_
      refine RegV.noS rfl rfl ?_
      refine RegV.noS rfl rfl ?_
      refine RegV.noS rfl rfl ?_
      refine RegV.noS rfl rfl ?_
      refine RegV.p0 rfl rfl rfl ?_
      refine RegV.p0 rfl rfl rfl ?_
      refine RegV.noS rfl rfl ?_
      refine RegV.noS rfl rfl ?_
      refine RegV.noS rfl rfl ?_
      refine RegV.noS rfl rfl ?_
      refine RegV.noS rfl rfl ?_
      refine RegV.p0 rfl rfl rfl ?_
      refine RegV.p0 rfl rfl rfl ?_
      refine RegV.noS rfl rfl ?_
      refine RegV.noS rfl rfl ?_
      refine RegV.noS rfl rfl ?_
      refine RegV.noS rfl rfl ?_
      refine RegV.noS rfl rfl ?_
      refine RegV.p0 rfl rfl rfl ?_
      refine RegV.p0 rfl rfl rfl ?_
      refine RegV.noS rfl rfl ?_
      refine RegV.noS rfl rfl ?_
      refine RegV.noS rfl rfl ?_
      refine RegV.p0 rfl rfl rfl ?_
      refine RegV.p0 rfl rfl rfl ?_
      refine RegV.nil0 ?_
      have hr := Option.some.inj h
      subst hr
      exact AWc.ret (canQ (N := 41) (k := 0) (l' := [(6, (.d (.bool false)))]) (H' := []) rfl ⟨rfl, [], [], rfl, rfl, ⟨⟨_, rfl, (.refl _)⟩, rfl, trivial⟩,  trivial⟩ (doneA (.inr rfl) rfl ⟨trivial, trivial⟩ (.refl _) hasNil))
/-- courant/code.New -/
def C30 (N : Nat → Nat) : AFunc := { n := 7, params := 1, res := [.tmp 2], body :=
 (.seq (.region false [⟨(some 2), .mv (.k (.d .nilp)), none, []⟩])
  (.seq (.region false [⟨(some 3), .mv (.t 0), none, []⟩,
    ⟨(some 4), .app (.k .nils) (.t 3) 1 1 [(.int .u8 0)], none, [0]⟩,
    ⟨(some 5), .build [(.sl []), (.int .i64 0), (.int .i64 0)] [(0, 1, (.t 4))], none, [1]⟩,
    ⟨(some 6), .box (.t 5), none, [2]⟩,
    ⟨(some 2), .mv (.t 6), none, [3, 1, 0, 2]⟩])
   .ret)) }
def HC30 (P : Program) (N : Nat → Nat) : Prop := HasF P (N 30) (C30 N)
def f30 (k : Nat) (a0 : (List UInt8)) : Option Unit := gd (a0.length * 1 ≤ 281474976710656) (some ())
theorem F30 {P : Program} {N : Nat → Nat} (hmix : P.follows .mixedOrders = true) (hc : HC30 P N) {k : Nat} {a0 : (List UInt8)} {r : Unit} (h : f30 k a0 = some r) :
    ACalls P (N 30) [(.d (.sl (List.map byteD a0)))] [] (.ptr 0 0) [(0, (.cells [(.d (.sl (List.map byteD a0))), (.d (.int .i64 (0 : Int))), (.d (.int .i64 (0 : Int)))]))] := by
  refine acalls_canon (F := C30 N) hc 0 1 rfl ?_
  unfold f30 at h
  dsimp only [C30, startL]
  refine AWc.seq ?_
  refine AWc.rg hmix rfl rfl ?_
  refine RegV.p0 rfl rfl rfl ?_
  refine RegV.nil0 ?_
  refine AWc.seq ?_
  refine AWc.rg hmix rfl rfl ?_
  refine RegV.p0 rfl rfl rfl ?_
  obtain ⟨b9, h⟩ := gd_some h
  refine RegV.appN (ys := a0) (e := byteD) rfl rfl rfl (fun _ => rfl) rfl rfl b9 rfl rfl ?_
  refine RegV.p1 (v := (.d (.agg [(.sl (List.map byteD a0)), (.int .i64 (0 : Int)), (.int .i64 (0 : Int))]))) rfl rfl (by exact ⟨⟨rfl, Nat.le_of_ble_eq_true rfl⟩, trivial⟩) rfl rfl ?_
  refine RegV.evS (own := false) (v := (.ptr 1 0)) (H' := [(1, (.cells [(.d (.sl (List.map byteD a0))), (.d (.int .i64 (0 : Int))), (.d (.int .i64 (0 : Int)))])), (0, (.tok ((List.map byteD a0).length * 1)))]) (c' := 2) rfl rfl trivial rfl rfl rfl rfl rfl rfl ?_
  refine RegV.p0 rfl rfl rfl ?_
  refine RegV.nil0 ?_
  have hr := Option.some.inj h
  subst hr
  exact AWc.ret (canQ (N := 7) (k := 1) (l' := [(2, (.ptr 0 0))]) (H' := [(0, (.cells [(.d (.sl (List.map byteD a0))), (.d (.int .i64 (0 : Int))), (.d (.int .i64 (0 : Int)))]))]) rfl ⟨rfl, [], [(0, 1)], rfl, rfl, ⟨⟨_, rfl, (.refl _)⟩, rfl, trivial⟩, ⟨⟨_, rfl, (.refl _)⟩, rfl, rfl, trivial⟩⟩ (doneA (.inr rfl) rfl ⟨trivial, trivial⟩ (.refl _) (hasCons rfl hasNil)))
/-- (*courant/code.Reader).ready -/
def C84 (N : Nat → Nat) : AFunc := { n := 12, params := 1, res := [.tmp 2], body :=
 (.seq (.region false [⟨(some 2), .mv (.k (.d (.bool false))), none, []⟩])
  (.seq (.region false [⟨(some 3), .mv (.t 0), none, []⟩,
    ⟨(some 4), .nileq 1 true (.t 3) (.k (.d .nilp)), none, [0]⟩,
    ⟨(some 5), .mv (.t 4), none, [1]⟩,
    ⟨(some 6), .mv (.t 0), (some (5, true)), [2]⟩,
    ⟨(some 7), .nilchk (.t 6), (some (5, true)), [3, 2]⟩,
    ⟨(some 8), .faddr (.t 7) 2, (some (5, true)), [4, 2]⟩,
    ⟨(some 9), .load (.t 8) 1 false, (some (5, true)), [5, 2]⟩,
    ⟨(some 10), .bin .eql (.t 9) (.k (.d (.int .i64 0))), (some (5, true)), [6, 2]⟩,
    ⟨(some 11), .pick (.t 5) (.t 10) (.k (.d (.bool false))), none, [2, 7]⟩,
    ⟨(some 2), .mv (.t 11), none, [8, 2, 0, 1, 3, 4, 5, 6, 7]⟩])
   .ret)) }
def HC84 (P : Program) (N : Nat → Nat) : Prop := HasF P (N 84) (C84 N)
def f84 (k : Nat) (a0 : (List UInt8)) (a1 : Int) (a2 : Int) : Option Unit := some ()
theorem F84 {P : Program} {N : Nat → Nat} (hmix : P.follows .mixedOrders = true) (hc : HC84 P N) {k : Nat} {a0 : (List UInt8)} {a1 : Int} {a2 : Int} {r : Unit} (h : f84 k a0 a1 a2 = some r) :
    ACalls P (N 84) [(.ptr 0 0)] [(0, (.cells [(.d (.sl (List.map byteD a0))), (.d (.int .i64 a1)), (.d (.int .i64 a2))]))] (.d (.bool (decide (a2 = (0 : Int))))) [(0, (.cells [(.d (.sl (List.map byteD a0))), (.d (.int .i64 a1)), (.d (.int .i64 a2))]))] := by
  refine acalls_canon (F := C84 N) hc 1 1 rfl ?_
  unfold f84 at h
  dsimp only [C84, startL]
  refine AWc.seq ?_
  refine AWc.rg hmix rfl rfl ?_
  refine RegV.p0 rfl rfl rfl ?_
  refine RegV.nil0 ?_
  refine AWc.seq ?_
  refine AWc.rg hmix rfl rfl ?_
  refine RegV.p0 rfl rfl rfl ?_
  refine RegV.p0 (v := (.d (.bool true))) rfl rfl rfl ?_
  refine RegV.p0 rfl rfl rfl ?_
  refine RegV.p0 rfl rfl rfl ?_
  refine RegV.p0 rfl rfl rfl ?_
  refine RegV.p0 (v := (.ptr 0 2)) rfl rfl rfl ?_
  refine RegV.ld (v := (.d (.int .i64 a2))) (H' := [(0, (.cells [(.d (.sl (List.map byteD a0))), (.d (.int .i64 a1)), (.d (.int .i64 a2))]))]) rfl rfl trivial rfl rfl rfl rfl rfl ?_
  refine RegV.p0 (v := (.d (.bool (decide (a2 = (0 : Int)))))) rfl rfl rfl ?_
  refine RegV.p0 rfl rfl rfl ?_
  refine RegV.p0 rfl rfl rfl ?_
  refine RegV.nil0 ?_
  have hr := Option.some.inj h
  subst hr
  exact AWc.ret (canQ (N := 12) (k := 1) (l' := [(2, (.d (.bool (decide (a2 = (0 : Int))))))]) (H' := [(0, (.cells [(.d (.sl (List.map byteD a0))), (.d (.int .i64 a1)), (.d (.int .i64 a2))]))]) rfl ⟨rfl, [], [], rfl, rfl, ⟨⟨_, rfl, (.refl _)⟩, rfl, trivial⟩, ⟨⟨_, rfl, (.refl _)⟩, rfl, rfl, trivial⟩⟩ (doneA (.inr rfl) rfl ⟨trivial, trivial⟩ (.refl _) (hasCons rfl hasNil)))
/-- (*courant/code.Reader).fail -/
def C85 (N : Nat → Nat) : AFunc := { n := 14, params := 3, res := [], body :=
 (.region false [⟨(some 6), .mv (.t 0), none, []⟩,
  ⟨(some 7), .mv (.t 0), none, []⟩,
  ⟨(some 8), .mv (.t 1), none, []⟩,
  ⟨(some 9), .mv (.t 2), none, []⟩,
  ⟨(some 10), .nilchk (.t 6), none, [0, 2]⟩,
  ⟨(some 11), .faddr (.t 10) 1, none, [4, 0, 2]⟩,
  ⟨none, .store (.t 11) (.t 8) 1, none, [5, 2, 0]⟩,
  ⟨(some 12), .nilchk (.t 7), none, [1, 0, 2, 3, 4, 5, 6]⟩,
  ⟨(some 13), .faddr (.t 12) 2, none, [7, 0, 1, 2, 3, 4, 5, 6]⟩,
  ⟨none, .store (.t 13) (.t 9) 1, none, [8, 3, 6, 0, 1, 2, 4, 5]⟩]) }
def HC85 (P : Program) (N : Nat → Nat) : Prop := HasF P (N 85) (C85 N)
def f85 (k : Nat) (a0 : (List UInt8)) (a1 : Int) (a2 : Int) (a3 : Int) (a4 : Int) : Option Unit := some ()
theorem F85 {P : Program} {N : Nat → Nat} (hmix : P.follows .mixedOrders = true) (hc : HC85 P N) {k : Nat} {a0 : (List UInt8)} {a1 : Int} {a2 : Int} {a3 : Int} {a4 : Int} {r : Unit} (h : f85 k a0 a1 a2 a3 a4 = some r) :
    ACalls P (N 85) [(.ptr 0 0), (.d (.int .i64 a3)), (.d (.int .i64 a4))] [(0, (.cells [(.d (.sl (List.map byteD a0))), (.d (.int .i64 a1)), (.d (.int .i64 a2))]))] (.tup []) [(0, (.cells [(.d (.sl (List.map byteD a0))), (.d (.int .i64 a3)), (.d (.int .i64 a4))]))] := by
  refine acalls_canon (F := C85 N) hc 1 1 rfl ?_
  unfold f85 at h
  dsimp only [C85, startL]
  refine AWc.rg hmix rfl rfl ?_
  refine RegV.p0 rfl rfl rfl ?_
  refine RegV.p0 rfl rfl rfl ?_
  refine RegV.p0 rfl rfl rfl ?_
  refine RegV.p0 rfl rfl rfl ?_
  refine RegV.p0 rfl rfl rfl ?_
  refine RegV.p0 (v := (.ptr 0 1)) rfl rfl rfl ?_
  refine RegV.evN (own := false) (H' := [(0, (.cells [(.d (.sl (List.map byteD a0))), (.d (.int .i64 a3)), (.d (.int .i64 a2))]))]) (c' := 1) rfl rfl (by exact ⟨rfl, Nat.le_of_ble_eq_true rfl, rfl⟩) rfl rfl rfl rfl ?_
  refine RegV.p0 rfl rfl rfl ?_
  refine RegV.p0 (v := (.ptr 0 2)) rfl rfl rfl ?_
  refine RegV.evN (own := false) (H' := [(0, (.cells [(.d (.sl (List.map byteD a0))), (.d (.int .i64 a3)), (.d (.int .i64 a4))]))]) (c' := 1) rfl rfl (by exact ⟨rfl, Nat.le_of_ble_eq_true rfl, rfl⟩) rfl rfl rfl rfl ?_
  refine RegV.nil0 ?_
  have hr := Option.some.inj h
  subst hr
  exact canQ (N := 14) (k := 1) (l' := []) (H' := [(0, (.cells [(.d (.sl (List.map byteD a0))), (.d (.int .i64 a3)), (.d (.int .i64 a4))]))]) rfl ⟨rfl, [], [], rfl, rfl,  trivial, ⟨⟨_, rfl, (.refl _)⟩, rfl, rfl, trivial⟩⟩ (doneA (.inl rfl) rfl trivial (.refl _) (hasCons rfl hasNil))
/-- (*courant/code.Reader).Num -/
def C39 (N : Nat → Nat) : AFunc := { n := 73, params := 1, res := [.tmp 2], body :=
 (.seq (.region false [⟨(some 2), .mv (.k (.d (.int .u64 0))), none, []⟩])
  (.scope (.seq (.seq (.region false [⟨(some 8), .mv (.t 0), none, []⟩,
      ⟨(some 9), .call (.k (.d (.fn (N 84)))) [(.t 8)], none, [0]⟩,
      ⟨(some 10), .un .not (.t 9), none, [1]⟩])
     (.cond (.t 10) (.seq (.region false [⟨(some 2), .mv (.k (.d (.int .u64 0))), none, []⟩])
       .ret)
      (.skip)))
    (.seq (.region false [⟨(some 11), .mv (.t 0), none, []⟩,
      ⟨(some 12), .nilchk (.t 11), none, [0]⟩,
      ⟨(some 13), .faddr (.t 12) 1, none, [1]⟩,
      ⟨(some 14), .load (.t 13) 1 false, none, [2]⟩,
      ⟨(some 3), .mv (.t 14), none, [3, 0, 1, 2]⟩,
      ⟨(some 4), .mv (.k (.d (.int .u64 0))), none, [4, 0, 1, 2, 3]⟩,
      ⟨(some 5), .mv (.k (.d (.int .i64 3))), none, [5, 0, 1, 2, 3, 4]⟩])
     (.seq (.label 0)
      (.seq (.seq (.region false [⟨(some 6), .mv (.k (.d (.int .i64 0))), none, []⟩])
        (.block 0 (.loop (.seq (.seq (.region true [⟨(some 15), .mv (.t 0), none, []⟩,
             ⟨(some 16), .nilchk (.t 15), none, [0]⟩,
             ⟨(some 17), .faddr (.t 16) 1, none, [1]⟩,
             ⟨(some 18), .load (.t 17) 1 false, none, [2]⟩,
             ⟨(some 19), .mv (.t 0), none, []⟩,
             ⟨(some 20), .nilchk (.t 19), none, [4]⟩,
             ⟨(some 21), .faddr (.t 20) 0, none, [5]⟩,
             ⟨(some 22), .load (.t 21) 1 false, none, [6]⟩,
             ⟨(some 23), .len (.t 22), none, [7]⟩,
             ⟨(some 24), .bin .lss (.t 18) (.t 23), none, [3, 8]⟩])
            (.cond (.t 24) (.skip)
             (.exit 0)))
           (.seq (.block 1 (.seq (.region true [⟨(some 27), .mv (.t 0), none, []⟩,
               ⟨(some 28), .nilchk (.t 27), none, [0]⟩,
               ⟨(some 29), .faddr (.t 28) 0, none, [1]⟩,
               ⟨(some 30), .load (.t 29) 1 false, none, [2]⟩,
               ⟨(some 31), .mv (.t 0), none, []⟩,
               ⟨(some 32), .nilchk (.t 31), none, [4]⟩,
               ⟨(some 33), .faddr (.t 32) 1, none, [5]⟩,
               ⟨(some 34), .load (.t 33) 1 false, none, [6]⟩,
               ⟨(some 35), .iaddr (.t 30) (.t 34) 1, none, [3, 7]⟩,
               ⟨(some 36), .load (.t 35) 1 false, none, [8]⟩,
               ⟨(some 7), .mv (.t 36), none, [9, 0, 1, 2, 3, 4, 5, 6, 7, 8]⟩])
              (.seq (.region false [⟨(some 37), .mv (.t 0), none, []⟩,
                ⟨(some 38), .nilchk (.t 37), none, [0]⟩,
                ⟨(some 39), .faddr (.t 38) 1, none, [1]⟩,
                ⟨(some 40), .load (.t 39) 1 false, none, [2]⟩,
                ⟨(some 41), .bin .add (.t 40) (.k (.d (.int .i64 1))), none, [3]⟩,
                ⟨(some 42), .nilchk (.t 37), none, [0, 1, 2, 3, 4]⟩,
                ⟨(some 43), .faddr (.t 42) 1, none, [5, 0, 1, 2, 3, 4]⟩,
                ⟨none, .store (.t 43) (.t 41) 1, none, [6, 4, 0, 1, 2, 3]⟩])
               (.seq (.region false [⟨(some 44), .mv (.t 4), none, []⟩,
                 ⟨(some 45), .mv (.t 7), none, []⟩,
                 ⟨(some 46), .bin .and (.t 45) (.k (.d (.int .u8 127))), none, [1]⟩,
                 ⟨(some 47), .cvi .u64 (.t 46), none, [2]⟩,
                 ⟨(some 48), .mv (.t 6), none, []⟩,
                 ⟨(some 49), .bin .mul (.k (.d (.int .i64 7))) (.t 48), none, [4]⟩,
                 ⟨(some 50), .bin .shl (.t 47) (.t 49), none, [3, 5]⟩,
                 ⟨(some 51), .bin .or (.t 44) (.t 50), none, [0, 6]⟩,
                 ⟨(some 4), .mv (.t 51), none, [7, 0, 1, 2, 3, 4, 5, 6]⟩])
                (.block 2 (.seq (.seq (.region false [⟨(some 53), .mv (.t 6), none, []⟩,
                    ⟨(some 54), .bin .eql (.t 53) (.k (.d (.int .i64 9))), none, [0]⟩,
                    ⟨(some 55), .mv (.t 54), none, [1]⟩,
                    ⟨(some 56), .mv (.t 7), (some (55, true)), [2]⟩,
                    ⟨(some 57), .bin .gtr (.t 56) (.k (.d (.int .u8 1))), (some (55, true)), [3, 2]⟩,
                    ⟨(some 58), .pick (.t 55) (.t 57) (.k (.d (.bool false))), none, [2, 4]⟩,
                    ⟨(some 52), .mv (.t 58), none, [5, 2]⟩])
                   (.cond (.t 52) (.skip)
                    (.region false [⟨(some 59), .mv (.t 6), none, []⟩,
                     ⟨(some 60), .bin .gtr (.t 59) (.k (.d (.int .i64 0))), none, [0]⟩,
                     ⟨(some 61), .mv (.t 60), none, [1]⟩,
                     ⟨(some 62), .mv (.t 7), (some (61, true)), [2]⟩,
                     ⟨(some 63), .bin .eql (.t 62) (.k (.d (.int .u8 0))), (some (61, true)), [3, 2]⟩,
                     ⟨(some 64), .pick (.t 61) (.t 63) (.k (.d (.bool false))), none, [2, 4]⟩,
                     ⟨(some 52), .mv (.t 64), none, [5, 2]⟩])))
                  (.cond (.t 52) (.seq (.region false [⟨(some 5), .mv (.k (.d (.int .i64 4))), none, []⟩])
                    (.exit 0))
                   (.seq (.region false [⟨(some 66), .mv (.t 7), none, []⟩,
                     ⟨(some 67), .bin .lss (.t 66) (.k (.d (.int .u8 128))), none, [0]⟩,
                     ⟨(some 65), .mv (.t 67), none, [1]⟩])
                    (.cond (.t 65) (.seq (.region false [⟨(some 68), .mv (.t 4), none, []⟩,
                       ⟨(some 2), .mv (.t 68), none, [0]⟩])
                      .ret)
                     (.skip))))))))))
            (.region false [⟨(some 25), .mv (.t 6), none, []⟩,
             ⟨(some 26), .bin .add (.t 25) (.k (.d (.int .i64 1))), none, [0]⟩,
             ⟨(some 6), .mv (.t 26), none, [1, 0]⟩]))))))
       (.seq (.region false [⟨(some 69), .mv (.t 0), none, []⟩,
         ⟨(some 70), .mv (.t 3), none, []⟩,
         ⟨(some 71), .mv (.t 5), none, []⟩,
         ⟨(some 72), .call (.k (.d (.fn (N 85)))) [(.t 69), (.t 70), (.t 71)], none, [0, 1, 2]⟩])
        (.seq (.region false [⟨(some 2), .mv (.k (.d (.int .u64 0))), none, []⟩])
         .ret)))))))) }
def HC39 (P : Program) (N : Nat → Nat) : Prop := HasF P (N 39) (C39 N) ∧ HC84 P N ∧ HC85 P N
def f39_j143 (k : Nat) (a0 : (List UInt8)) (a2 : Int) (a1 : Int) (j143_1 : Int) (j143_2 : Int) : Option (Int × Int × Int) := (f85 k a0 j143_2 a2 a1 j143_1).bind fun r149 => some ((0 : Int), a1, j143_1)
def f39_j118 (L : Int → Int → Int → Option (LR2 (Int × Int) Unit (Int × Int × Int))) (k : Nat) (y37_3 : Int) (a0 : (List UInt8)) (y37_1 : Int) (y37_2 : Int) (a2 : Int) (j118_1 : Bool) : Option (LR2 (Int × Int) Unit (Int × Int × Int)) := cond j118_1 (some (.b0 ((4 : Int), (IntKind.i64.wrap (y37_3 + (1 : Int)))))) (cond (decide ((((rd a0 y37_3).toNat : Nat) : Int) < (128 : Int))) (some (.r ((bitsA .or .u64 y37_1 (IntKind.u64.wrap ((IntKind.u64.wrap (bitsA .and .u8 (((rd a0 y37_3).toNat : Nat) : Int) (127 : Int))) * 2 ^ (min ((IntKind.i64.wrap ((7 : Int) * y37_2))).toNat IntKind.u64.bits)))), (IntKind.i64.wrap (y37_3 + (1 : Int))), a2))) (L (bitsA .or .u64 y37_1 (IntKind.u64.wrap ((IntKind.u64.wrap (bitsA .and .u8 (((rd a0 y37_3).toNat : Nat) : Int) (127 : Int))) * 2 ^ (min ((IntKind.i64.wrap ((7 : Int) * y37_2))).toNat IntKind.u64.bits)))) (IntKind.i64.wrap (y37_2 + (1 : Int))) (IntKind.i64.wrap (y37_3 + (1 : Int)))))
def f39_j107 (L : Int → Int → Int → Option (LR2 (Int × Int) Unit (Int × Int × Int))) (k : Nat) (y37_3 : Int) (a0 : (List UInt8)) (y37_1 : Int) (y37_2 : Int) (a2 : Int) (j107_1 : Bool) : Option (LR2 (Int × Int) Unit (Int × Int × Int)) := cond j107_1 (f39_j118 (L) k y37_3 a0 y37_1 y37_2 a2 j107_1) (cond (decide (y37_2 > (0 : Int))) (f39_j118 (L) k y37_3 a0 y37_1 y37_2 a2 (decide ((((rd a0 y37_3).toNat : Nat) : Int) = (0 : Int)))) (f39_j118 (L) k y37_3 a0 y37_1 y37_2 a2 false))
def f39_l37 (a0 : (List UInt8)) (a2 : Int) : Nat → Int → Int → Int → Option (LR2 (Int × Int) Unit (Int × Int × Int))
  | 0, _, _, _ => none
  | k + 1, y37_1, y37_2, y37_3 => cond (decide (y37_3 < ((a0.length : Nat) : Int))) (gd (0 ≤ y37_3 ∧ y37_3 < ((a0.length : Nat) : Int)) (gd (0 ≤ (IntKind.i64.wrap ((7 : Int) * y37_2))) (cond (decide (y37_2 = (9 : Int))) (f39_j107 (f39_l37 a0 a2 k) k y37_3 a0 y37_1 y37_2 a2 (decide ((((rd a0 y37_3).toNat : Nat) : Int) > (1 : Int)))) (f39_j107 (f39_l37 a0 a2 k) k y37_3 a0 y37_1 y37_2 a2 false)))) (some (.b0 ((3 : Int), y37_3)))
def f39 (k : Nat) (a0 : (List UInt8)) (a1 : Int) (a2 : Int) : Option (Int × Int × Int) := (f84 k a0 a1 a2).bind fun r11 => cond (!(decide (a2 = (0 : Int)))) (some ((0 : Int), a1, a2)) ((f39_l37 a0 a2 k (0 : Int) (0 : Int) a1).bind fun o37 => match o37 with | .b0 (x37_1, x37_2) => f39_j143 k a0 a2 a1 x37_1 x37_2 | .r x => some x | _ => none)
theorem F39 {P : Program} {N : Nat → Nat} (hmix : P.follows .mixedOrders = true) (hc : HC39 P N) {k : Nat} {a0 : (List UInt8)} {a1 : Int} {a2 : Int} {r : (Int × Int × Int)} (h : f39 k a0 a1 a2 = some r) :
    ACalls P (N 39) [(.ptr 0 0)] [(0, (.cells [(.d (.sl (List.map byteD a0))), (.d (.int .i64 a1)), (.d (.int .i64 a2))]))] (.d (.int .u64 r.1)) [(0, (.cells [(.d (.sl (List.map byteD a0))), (.d (.int .i64 r.2.1)), (.d (.int .i64 r.2.2))]))] := by
  refine acalls_canon (F := C39 N) hc.1 1 1 rfl ?_
  unfold f39 at h
  dsimp only [C39, startL]
  refine AWc.seq ?_
  refine AWc.rg hmix rfl rfl ?_
  refine RegV.p0 rfl rfl rfl ?_
  refine RegV.nil0 ?_
  refine AWc.scope ?_
  refine AWc.seq ?_
  refine AWc.seq ?_
  refine AWc.rg hmix rfl rfl ?_
  refine RegV.p0 rfl rfl rfl ?_
  obtain ⟨r11, e11, h⟩ := bind_some h
  refine RegV.callS (q := true) (H' := [(0, (.cells [(.d (.sl (List.map byteD a0))), (.d (.int .i64 a1)), (.d (.int .i64 a2))]))]) (c' := 1) (show ACalls P (N 84) [(.ptr 0 0)] [(0, (.cells [(.d (.sl (List.map byteD a0))), (.d (.int .i64 a1)), (.d (.int .i64 a2))]))] (.d (.bool (decide (a2 = (0 : Int))))) [(0, (.cells [(.d (.sl (List.map byteD a0))), (.d (.int .i64 a1)), (.d (.int .i64 a2))]))] from ACalls.use (F84 hmix hc.2.1 e11) [(0, 0)] 1 rfl) rfl rfl rfl rfl (.cons (.refl _) .nil) (.refl _) (fun _ => rfl) rfl (hasCons rfl hasNil) rfl rfl rfl rfl ?_
  refine RegV.p0 (v := (.d (.bool (!(decide (a2 = (0 : Int))))))) rfl rfl rfl ?_
  refine RegV.nil0 ?_
  refine AWc.cond rfl (fun c13 => ?_) (fun c13 => ?_)
  · have h := cond_pos c13 h
    refine AWc.seq ?_
    refine AWc.rg hmix rfl rfl ?_
    refine RegV.p0 rfl rfl rfl ?_
    refine RegV.nil0 ?_
    have hr := Option.some.inj h
    subst hr
    exact AWc.ret (canQ (N := 73) (k := 1) (l' := [(2, (.d (.int .u64 (0 : Int))))]) (H' := [(0, (.cells [(.d (.sl (List.map byteD a0))), (.d (.int .i64 a1)), (.d (.int .i64 a2))]))]) rfl ⟨rfl, [], [], rfl, rfl, ⟨⟨_, rfl, (.refl _)⟩, rfl, trivial⟩, ⟨⟨_, rfl, (.refl _)⟩, rfl, rfl, trivial⟩⟩ (doneA (.inr rfl) rfl ⟨trivial, trivial⟩ (.refl _) (hasCons rfl hasNil)))
  · have h := cond_neg c13 h
    refine AWc.skip ?_
    refine AWc.seq ?_
    refine AWc.rg hmix rfl rfl ?_
    refine RegV.p0 rfl rfl rfl ?_
    refine RegV.p0 rfl rfl rfl ?_
    refine RegV.p0 (v := (.ptr 0 1)) rfl rfl rfl ?_
    refine RegV.ld (v := (.d (.int .i64 a1))) (H' := [(0, (.cells [(.d (.sl (List.map byteD a0))), (.d (.int .i64 a1)), (.d (.int .i64 a2))]))]) rfl rfl trivial rfl rfl rfl rfl rfl ?_
    refine RegV.p0 rfl rfl rfl ?_
    refine RegV.p0 rfl rfl rfl ?_
    refine RegV.p0 rfl rfl rfl ?_
    refine RegV.nil0 ?_
    refine AWc.seq ?_
    refine AWc.label ?_
    refine AWc.seqS (N := 73) 1 (fun (z : (Int × Int)) => [(0, (.ptr 0 0)), (3, (.d (.int .i64 a1))), (5, (.d (.int .i64 z.1)))]) (fun z => [(0, (.cells [(.d (.sl (List.map byteD a0))), (.d (.int .i64 z.2)), (.d (.int .i64 a2))]))]) (fun z => f39_j143 k a0 a2 a1 z.1 z.2 = some r) rfl_le ?_ ?_
    · refine AWc.seq ?_
      refine AWc.rg hmix rfl rfl ?_
      refine RegV.p0 rfl rfl rfl ?_
      refine RegV.nil0 ?_
      obtain ⟨o37, h37, h⟩ := bind_some h
      refine AWc.block ?_
      refine AWc.loopK (N := 73) 1 (fun (x : (Int × Int × Int)) => [(0, (.ptr 0 0)), (3, (.d (.int .i64 a1))), (4, (.d (.int .u64 x.1))), (5, (.d (.int .i64 (3 : Int)))), (6, (.d (.int .i64 x.2.1)))]) (fun x => [(0, (.cells [(.d (.sl (List.map byteD a0))), (.d (.int .i64 x.2.2)), (.d (.int .i64 a2))]))]) (fun k x => f39_l37 a0 a2 k x.1 x.2.1 x.2.2 = some o37) k ((0 : Int), (0 : Int), a1) rfl_le (fun x hx => by cases hx) h37 ⟨rfl, [], [], rfl, rfl, ⟨⟨_, rfl, (.refl _)⟩, rfl, ⟨⟨_, rfl, (.refl _)⟩, rfl, ⟨⟨_, rfl, (.refl _)⟩, rfl, ⟨⟨_, rfl, (.refl _)⟩, rfl, ⟨⟨_, rfl, (.refl _)⟩, rfl, trivial⟩⟩⟩⟩⟩, ⟨⟨_, rfl, (.refl _)⟩, rfl, rfl, trivial⟩⟩ ?_
      clear h37
      intro k
      rintro ⟨y37_1, y37_2, y37_3⟩ h37
      dsimp only at h37 ⊢
      rw [f39_l37] at h37
      refine AWc.seq ?_
      refine AWc.seq ?_
      refine AWc.rg hmix rfl rfl ?_
      refine RegV.p0 rfl rfl rfl ?_
      refine RegV.p0 rfl rfl rfl ?_
      refine RegV.p0 (v := (.ptr 0 1)) rfl rfl rfl ?_
      refine RegV.ld (v := (.d (.int .i64 y37_3))) (H' := [(0, (.cells [(.d (.sl (List.map byteD a0))), (.d (.int .i64 y37_3)), (.d (.int .i64 a2))]))]) rfl rfl trivial rfl rfl rfl rfl rfl ?_
      refine RegV.p0 rfl rfl rfl ?_
      refine RegV.p0 rfl rfl rfl ?_
      refine RegV.p0 (v := (.ptr 0 0)) rfl rfl rfl ?_
      refine RegV.ld (v := (.d (.sl (List.map byteD a0)))) (H' := [(0, (.cells [(.d (.sl (List.map byteD a0))), (.d (.int .i64 y37_3)), (.d (.int .i64 a2))]))]) rfl rfl trivial rfl rfl rfl rfl rfl ?_
      refine RegV.len (xs := a0) (e := byteD) rfl rfl rfl rfl ?_
      refine RegV.p0 (v := (.d (.bool (decide (y37_3 < ((a0.length : Nat) : Int)))))) rfl rfl rfl ?_
      refine RegV.nil1 (by kernel_rfl) ?_
      refine AWc.cond rfl (fun c53 => ?_) (fun c53 => ?_)
      · have h37 := cond_pos c53 h37
        refine AWc.skip ?_
        refine AWc.seq ?_
        refine AWc.block ?_
        refine AWc.seq ?_
        refine AWc.rg hmix rfl rfl ?_
        refine RegV.p0 rfl rfl rfl ?_
        refine RegV.p0 rfl rfl rfl ?_
        refine RegV.p0 (v := (.ptr 0 0)) rfl rfl rfl ?_
        refine RegV.ld (v := (.d (.sl (List.map byteD a0)))) (H' := [(0, (.cells [(.d (.sl (List.map byteD a0))), (.d (.int .i64 y37_3)), (.d (.int .i64 a2))]))]) rfl rfl trivial rfl rfl rfl rfl rfl ?_
        refine RegV.p0 rfl rfl rfl ?_
        refine RegV.p0 rfl rfl rfl ?_
        refine RegV.p0 (v := (.ptr 0 1)) rfl rfl rfl ?_
        refine RegV.ld (v := (.d (.int .i64 y37_3))) (H' := [(0, (.cells [(.d (.sl (List.map byteD a0))), (.d (.int .i64 y37_3)), (.d (.int .i64 a2))]))]) rfl rfl trivial rfl rfl rfl rfl rfl ?_
        obtain ⟨b69, h37⟩ := gd_some h37
        refine RegV.iad (xs := a0) (e := byteD) rfl rfl rfl rfl (fun _ => rfl) b69 rfl ?_
        refine RegV.p0 (v := (.d (.int .u8 (((rd a0 y37_3).toNat : Nat) : Int)))) rfl rfl rfl ?_
        refine RegV.p0 rfl rfl rfl ?_
        refine RegV.nil1 (by kernel_rfl) ?_
        refine AWc.seq ?_
        refine AWc.rg hmix rfl rfl ?_
        refine RegV.p0 rfl rfl rfl ?_
        refine RegV.p0 rfl rfl rfl ?_
        refine RegV.p0 (v := (.ptr 0 1)) rfl rfl rfl ?_
        refine RegV.ld (v := (.d (.int .i64 y37_3))) (H' := [(0, (.cells [(.d (.sl (List.map byteD a0))), (.d (.int .i64 y37_3)), (.d (.int .i64 a2))]))]) rfl rfl trivial rfl rfl rfl rfl rfl ?_
        refine RegV.p0 (v := (.d (.int .i64 (IntKind.i64.wrap (y37_3 + (1 : Int)))))) rfl rfl rfl ?_
        refine RegV.p0 rfl rfl rfl ?_
        refine RegV.p0 (v := (.ptr 0 1)) rfl rfl rfl ?_
        refine RegV.evN (own := false) (H' := [(0, (.cells [(.d (.sl (List.map byteD a0))), (.d (.int .i64 (IntKind.i64.wrap (y37_3 + (1 : Int))))), (.d (.int .i64 a2))]))]) (c' := 1) rfl rfl (by exact ⟨rfl, Nat.le_of_ble_eq_true rfl, rfl⟩) rfl rfl rfl rfl ?_
        refine RegV.nil0 ?_
        refine AWc.seq ?_
        refine AWc.rg hmix rfl rfl ?_
        refine RegV.p0 rfl rfl rfl ?_
        refine RegV.p0 rfl rfl rfl ?_
        refine RegV.p0 (v := (.d (.int .u8 (bitsA .and .u8 (((rd a0 y37_3).toNat : Nat) : Int) (127 : Int))))) rfl rfl rfl ?_
        refine RegV.p0 (v := (.d (.int .u64 (IntKind.u64.wrap (bitsA .and .u8 (((rd a0 y37_3).toNat : Nat) : Int) (127 : Int)))))) rfl rfl rfl ?_
        refine RegV.p0 rfl rfl rfl ?_
        refine RegV.p0 (v := (.d (.int .i64 (IntKind.i64.wrap ((7 : Int) * y37_2))))) rfl rfl rfl ?_
        obtain ⟨b92, h37⟩ := gd_some h37
        refine RegV.p1 (v := (.d (.int .u64 (IntKind.u64.wrap ((IntKind.u64.wrap (bitsA .and .u8 (((rd a0 y37_3).toNat : Nat) : Int) (127 : Int))) * 2 ^ (min ((IntKind.i64.wrap ((7 : Int) * y37_2))).toNat IntKind.u64.bits)))))) rfl rfl b92 rfl rfl ?_
        refine RegV.p0 (v := (.d (.int .u64 (bitsA .or .u64 y37_1 (IntKind.u64.wrap ((IntKind.u64.wrap (bitsA .and .u8 (((rd a0 y37_3).toNat : Nat) : Int) (127 : Int))) * 2 ^ (min ((IntKind.i64.wrap ((7 : Int) * y37_2))).toNat IntKind.u64.bits))))))) rfl rfl rfl ?_
        refine RegV.p0 rfl rfl rfl ?_
        refine RegV.nil0 ?_
        refine AWc.block ?_
        refine AWc.seqS (N := 73) 1 (fun (z : Bool) => [(0, (.ptr 0 0)), (3, (.d (.int .i64 a1))), (4, (.d (.int .u64 (bitsA .or .u64 y37_1 (IntKind.u64.wrap ((IntKind.u64.wrap (bitsA .and .u8 (((rd a0 y37_3).toNat : Nat) : Int) (127 : Int))) * 2 ^ (min ((IntKind.i64.wrap ((7 : Int) * y37_2))).toNat IntKind.u64.bits))))))), (5, (.d (.int .i64 (3 : Int)))), (6, (.d (.int .i64 y37_2))), (7, (.d (.int .u8 (((rd a0 y37_3).toNat : Nat) : Int)))), (52, (.d (.bool z))), (56, .any), (57, .any)]) (fun z => [(0, (.cells [(.d (.sl (List.map byteD a0))), (.d (.int .i64 (IntKind.i64.wrap (y37_3 + (1 : Int))))), (.d (.int .i64 a2))]))]) (fun z => f39_j118 (f39_l37 a0 a2 k) k y37_3 a0 y37_1 y37_2 a2 z = some o37) rfl_le ?_ ?_
        · refine AWc.seqS (N := 73) 1 (fun (z : Bool) => [(0, (.ptr 0 0)), (3, (.d (.int .i64 a1))), (4, (.d (.int .u64 (bitsA .or .u64 y37_1 (IntKind.u64.wrap ((IntKind.u64.wrap (bitsA .and .u8 (((rd a0 y37_3).toNat : Nat) : Int) (127 : Int))) * 2 ^ (min ((IntKind.i64.wrap ((7 : Int) * y37_2))).toNat IntKind.u64.bits))))))), (5, (.d (.int .i64 (3 : Int)))), (6, (.d (.int .i64 y37_2))), (7, (.d (.int .u8 (((rd a0 y37_3).toNat : Nat) : Int)))), (52, (.d (.bool z))), (56, .any), (57, .any)]) (fun z => [(0, (.cells [(.d (.sl (List.map byteD a0))), (.d (.int .i64 (IntKind.i64.wrap (y37_3 + (1 : Int))))), (.d (.int .i64 a2))]))]) (fun z => f39_j107 (f39_l37 a0 a2 k) k y37_3 a0 y37_1 y37_2 a2 z = some o37) rfl_le ?_ ?_
          · refine AWc.rg hmix rfl rfl ?_
            refine RegV.p0 rfl rfl rfl ?_
            refine RegV.p0 (v := (.d (.bool (decide (y37_2 = (9 : Int)))))) rfl rfl rfl ?_
            refine RegV.p0 rfl rfl rfl ?_
            refine RegV.split (fun c102 => ?_) (fun c102 => ?_)
            · have h37 := cond_pos c102 h37
              refine RegV.p0 rfl rfl rfl ?_
              refine RegV.p0 (v := (.d (.bool (decide ((((rd a0 y37_3).toNat : Nat) : Int) > (1 : Int)))))) rfl rfl rfl ?_
              refine RegV.p0 rfl rfl rfl ?_
              refine RegV.p0 rfl rfl rfl ?_
              refine RegV.nil0 ?_
              exact ⟨(decide ((((rd a0 y37_3).toNat : Nat) : Int) > (1 : Int))), h37, ⟨rfl, [], [], rfl, rfl, ⟨⟨_, rfl, (.refl _)⟩, rfl, ⟨⟨_, rfl, (.refl _)⟩, rfl, ⟨⟨_, rfl, (.refl _)⟩, rfl, ⟨⟨_, rfl, (.refl _)⟩, rfl, ⟨⟨_, rfl, (.refl _)⟩, rfl, ⟨⟨_, rfl, (.refl _)⟩, rfl, ⟨⟨_, rfl, (.refl _)⟩, rfl, ⟨⟨_, rfl, (.any _)⟩, rfl, ⟨⟨_, rfl, (.any _)⟩, rfl, trivial⟩⟩⟩⟩⟩⟩⟩⟩⟩, ⟨⟨_, rfl, (.refl _)⟩, rfl, rfl, trivial⟩⟩⟩
            · have h37 := cond_neg c102 h37
              refine RegV.noS rfl rfl ?_
              refine RegV.noS rfl rfl ?_
              refine RegV.p0 rfl rfl rfl ?_
              refine RegV.p0 rfl rfl rfl ?_
              refine RegV.nil0 ?_
              exact ⟨false, h37, ⟨rfl, [], [], rfl, rfl, ⟨⟨_, rfl, (.refl _)⟩, rfl, ⟨⟨_, rfl, (.refl _)⟩, rfl, ⟨⟨_, rfl, (.refl _)⟩, rfl, ⟨⟨_, rfl, (.refl _)⟩, rfl, ⟨⟨_, rfl, (.refl _)⟩, rfl, ⟨⟨_, rfl, (.refl _)⟩, rfl, ⟨⟨_, rfl, (.refl _)⟩, rfl, ⟨⟨_, rfl, (.any _)⟩, rfl, ⟨⟨_, rfl, (.any _)⟩, rfl, trivial⟩⟩⟩⟩⟩⟩⟩⟩⟩, ⟨⟨_, rfl, (.refl _)⟩, rfl, rfl, trivial⟩⟩⟩
          · intro j107_1 h37
            unfold f39_j107 at h37
            refine AWc.cond rfl (fun c107 => ?_) (fun c107 => ?_)
            · have h37 := cond_pos c107 h37
              refine AWc.skip ?_
              exact ⟨j107_1, h37, ⟨rfl, [], [], rfl, rfl, ⟨⟨_, rfl, (.refl _)⟩, rfl, ⟨⟨_, rfl, (.refl _)⟩, rfl, ⟨⟨_, rfl, (.refl _)⟩, rfl, ⟨⟨_, rfl, (.refl _)⟩, rfl, ⟨⟨_, rfl, (.refl _)⟩, rfl, ⟨⟨_, rfl, (.refl _)⟩, rfl, ⟨⟨_, rfl, (.refl _)⟩, rfl, ⟨⟨_, rfl, (.refl _)⟩, rfl, ⟨⟨_, rfl, (.refl _)⟩, rfl, trivial⟩⟩⟩⟩⟩⟩⟩⟩⟩, ⟨⟨_, rfl, (.refl _)⟩, rfl, rfl, trivial⟩⟩⟩
            · have h37 := cond_neg c107 h37
              refine AWc.rg hmix rfl rfl ?_
              refine RegV.p0 rfl rfl rfl ?_
              refine RegV.p0 (v := (.d (.bool (decide (y37_2 > (0 : Int)))))) rfl rfl rfl ?_
              refine RegV.p0 rfl rfl rfl ?_
              refine RegV.split (fun c113 => ?_) (fun c113 => ?_)
              · have h37 := cond_pos c113 h37
                refine RegV.p0 rfl rfl rfl ?_
                refine RegV.p0 (v := (.d (.bool (decide ((((rd a0 y37_3).toNat : Nat) : Int) = (0 : Int)))))) rfl rfl rfl ?_
                refine RegV.p0 rfl rfl rfl ?_
                refine RegV.p0 rfl rfl rfl ?_
                refine RegV.nil0 ?_
                exact ⟨(decide ((((rd a0 y37_3).toNat : Nat) : Int) = (0 : Int))), h37, ⟨rfl, [], [], rfl, rfl, ⟨⟨_, rfl, (.refl _)⟩, rfl, ⟨⟨_, rfl, (.refl _)⟩, rfl, ⟨⟨_, rfl, (.refl _)⟩, rfl, ⟨⟨_, rfl, (.refl _)⟩, rfl, ⟨⟨_, rfl, (.refl _)⟩, rfl, ⟨⟨_, rfl, (.refl _)⟩, rfl, ⟨⟨_, rfl, (.refl _)⟩, rfl, ⟨⟨_, rfl, (.refl _)⟩, rfl, ⟨⟨_, rfl, (.refl _)⟩, rfl, trivial⟩⟩⟩⟩⟩⟩⟩⟩⟩, ⟨⟨_, rfl, (.refl _)⟩, rfl, rfl, trivial⟩⟩⟩
              · have h37 := cond_neg c113 h37
                refine RegV.noS rfl rfl ?_
                refine RegV.noS rfl rfl ?_
                refine RegV.p0 rfl rfl rfl ?_
                refine RegV.p0 rfl rfl rfl ?_
                refine RegV.nil0 ?_
                exact ⟨false, h37, ⟨rfl, [], [], rfl, rfl, ⟨⟨_, rfl, (.refl _)⟩, rfl, ⟨⟨_, rfl, (.refl _)⟩, rfl, ⟨⟨_, rfl, (.refl _)⟩, rfl, ⟨⟨_, rfl, (.refl _)⟩, rfl, ⟨⟨_, rfl, (.refl _)⟩, rfl, ⟨⟨_, rfl, (.refl _)⟩, rfl, ⟨⟨_, rfl, (.refl _)⟩, rfl, ⟨⟨_, rfl, (.refl _)⟩, rfl, ⟨⟨_, rfl, (.refl _)⟩, rfl, trivial⟩⟩⟩⟩⟩⟩⟩⟩⟩, ⟨⟨_, rfl, (.refl _)⟩, rfl, rfl, trivial⟩⟩⟩
        · intro j118_1 h37
          unfold f39_j118 at h37
          refine AWc.cond rfl (fun c118 => ?_) (fun c118 => ?_)
          · have h37 := cond_pos c118 h37
            refine AWc.seq ?_
            refine AWc.rg hmix rfl rfl ?_
            refine RegV.p0 rfl rfl rfl ?_
            refine RegV.nil0 ?_
            cases h37
            dsimp only at h
            refine AWc.exit ?_
            refine inBlk_ne rfl ?_
            refine inBlk_ne rfl ?_
            refine inBlk_eq ?_
            exact ⟨((4 : Int), (IntKind.i64.wrap (y37_3 + (1 : Int)))), h, ⟨rfl, [], [], rfl, rfl, ⟨⟨_, rfl, (.refl _)⟩, rfl, ⟨⟨_, rfl, (.refl _)⟩, rfl, ⟨⟨_, rfl, (.refl _)⟩, rfl, trivial⟩⟩⟩, ⟨⟨_, rfl, (.refl _)⟩, rfl, rfl, trivial⟩⟩⟩
          · have h37 := cond_neg c118 h37
            refine AWc.seq ?_
            refine AWc.rg hmix rfl rfl ?_
            refine RegV.p0 rfl rfl rfl ?_
            refine RegV.p0 (v := (.d (.bool (decide ((((rd a0 y37_3).toNat : Nat) : Int) < (128 : Int)))))) rfl rfl rfl ?_
            refine RegV.p0 rfl rfl rfl ?_
            refine RegV.nil0 ?_
            refine AWc.cond rfl (fun c130 => ?_) (fun c130 => ?_)
            · have h37 := cond_pos c130 h37
              refine AWc.seq ?_
              refine AWc.rg hmix rfl rfl ?_
              refine RegV.p0 rfl rfl rfl ?_
              refine RegV.p0 rfl rfl rfl ?_
              refine RegV.nil0 ?_
              cases h37
              dsimp only at h
              have hr := Option.some.inj h
              subst hr
              exact AWc.ret (canQ (N := 73) (k := 1) (l' := [(2, (.d (.int .u64 (bitsA .or .u64 y37_1 (IntKind.u64.wrap ((IntKind.u64.wrap (bitsA .and .u8 (((rd a0 y37_3).toNat : Nat) : Int) (127 : Int))) * 2 ^ (min ((IntKind.i64.wrap ((7 : Int) * y37_2))).toNat IntKind.u64.bits)))))))]) (H' := [(0, (.cells [(.d (.sl (List.map byteD a0))), (.d (.int .i64 (IntKind.i64.wrap (y37_3 + (1 : Int))))), (.d (.int .i64 a2))]))]) rfl ⟨rfl, [], [], rfl, rfl, ⟨⟨_, rfl, (.refl _)⟩, rfl, trivial⟩, ⟨⟨_, rfl, (.refl _)⟩, rfl, rfl, trivial⟩⟩ (doneA (.inr rfl) rfl ⟨trivial, trivial⟩ (.refl _) (hasCons rfl hasNil)))
            · have h37 := cond_neg c130 h37
              refine AWc.skip ?_
              refine AWc.rg hmix rfl rfl ?_
              refine RegV.p0 rfl rfl rfl ?_
              refine RegV.p0 (v := (.d (.int .i64 (IntKind.i64.wrap (y37_2 + (1 : Int)))))) rfl rfl rfl ?_
              refine RegV.p0 rfl rfl rfl ?_
              refine RegV.nil0 ?_
              exact ⟨((bitsA .or .u64 y37_1 (IntKind.u64.wrap ((IntKind.u64.wrap (bitsA .and .u8 (((rd a0 y37_3).toNat : Nat) : Int) (127 : Int))) * 2 ^ (min ((IntKind.i64.wrap ((7 : Int) * y37_2))).toNat IntKind.u64.bits)))), (IntKind.i64.wrap (y37_2 + (1 : Int))), (IntKind.i64.wrap (y37_3 + (1 : Int)))), h37, ⟨rfl, [], [], rfl, rfl, ⟨⟨_, rfl, (.refl _)⟩, rfl, ⟨⟨_, rfl, (.refl _)⟩, rfl, ⟨⟨_, rfl, (.refl _)⟩, rfl, ⟨⟨_, rfl, (.refl _)⟩, rfl, ⟨⟨_, rfl, (.refl _)⟩, rfl, trivial⟩⟩⟩⟩⟩, ⟨⟨_, rfl, (.refl _)⟩, rfl, rfl, trivial⟩⟩⟩
      · have h37 := cond_neg c53 h37
        cases h37
        dsimp only at h
        refine AWc.exit ?_
        refine inBlk_eq ?_
        exact ⟨((3 : Int), y37_3), h, ⟨rfl, [], [], rfl, rfl, ⟨⟨_, rfl, (.refl _)⟩, rfl, ⟨⟨_, rfl, (.refl _)⟩, rfl, ⟨⟨_, rfl, (.refl _)⟩, rfl, trivial⟩⟩⟩, ⟨⟨_, rfl, (.refl _)⟩, rfl, rfl, trivial⟩⟩⟩
    · rintro ⟨j143_1, j143_2⟩ h
      dsimp only at h ⊢
      unfold f39_j143 at h
      refine AWc.seq ?_
      refine AWc.rg hmix rfl rfl ?_
      refine RegV.p0 rfl rfl rfl ?_
      refine RegV.p0 rfl rfl rfl ?_
      refine RegV.p0 rfl rfl rfl ?_
      obtain ⟨r149, e149, h⟩ := bind_some h
      refine RegV.callS (q := false) (H' := [(0, (.cells [(.d (.sl (List.map byteD a0))), (.d (.int .i64 a1)), (.d (.int .i64 j143_1))]))]) (c' := 1) (show ACalls P (N 85) [(.ptr 0 0), (.d (.int .i64 a1)), (.d (.int .i64 j143_1))] [(0, (.cells [(.d (.sl (List.map byteD a0))), (.d (.int .i64 j143_2)), (.d (.int .i64 a2))]))] (.tup []) [(0, (.cells [(.d (.sl (List.map byteD a0))), (.d (.int .i64 a1)), (.d (.int .i64 j143_1))]))] from ACalls.use (F85 hmix hc.2.2 e149) [(0, 0)] 1 rfl) rfl rfl rfl rfl (.cons (.refl _) (.cons (.refl _) (.cons (.refl _) .nil))) (.refl _) (fun h => by cases h) rfl (hasCons rfl hasNil) rfl rfl rfl rfl ?_
      refine RegV.nil0 ?_
      refine AWc.seq ?_
      refine AWc.rg hmix rfl rfl ?_
      refine RegV.p0 rfl rfl rfl ?_
      refine RegV.nil0 ?_
      have hr := Option.some.inj h
      subst hr
      exact AWc.ret (canQ (N := 73) (k := 1) (l' := [(2, (.d (.int .u64 (0 : Int))))]) (H' := [(0, (.cells [(.d (.sl (List.map byteD a0))), (.d (.int .i64 a1)), (.d (.int .i64 j143_1))]))]) rfl ⟨rfl, [], [], rfl, rfl, ⟨⟨_, rfl, (.refl _)⟩, rfl, trivial⟩, ⟨⟨_, rfl, (.refl _)⟩, rfl, rfl, trivial⟩⟩ (doneA (.inr rfl) rfl ⟨trivial, trivial⟩ (.refl _) (hasCons rfl hasNil)))
/-- courant/code.unfold -/
def C88 (N : Nat → Nat) : AFunc := { n := 11, params := 1, res := [.tmp 2], body :=
 (.seq (.region false [⟨(some 2), .mv (.k (.d (.int .i64 0))), none, []⟩])
  (.seq (.region false [⟨(some 3), .mv (.t 0), none, []⟩,
    ⟨(some 4), .bin .shr (.t 3) (.k (.d (.int .u64 1))), none, [0]⟩,
    ⟨(some 5), .cvi .i64 (.t 4), none, [1]⟩,
    ⟨(some 6), .mv (.t 0), none, []⟩,
    ⟨(some 7), .bin .and (.t 6) (.k (.d (.int .u64 1))), none, [3]⟩,
    ⟨(some 8), .cvi .i64 (.t 7), none, [4]⟩,
    ⟨(some 9), .un .neg (.t 8), none, [5]⟩,
    ⟨(some 10), .bin .xor (.t 5) (.t 9), none, [2, 6]⟩,
    ⟨(some 2), .mv (.t 10), none, [7, 0, 1, 2, 3, 4, 5, 6]⟩])
   .ret)) }
def HC88 (P : Program) (N : Nat → Nat) : Prop := HasF P (N 88) (C88 N)
def f88 (k : Nat) (a0 : Int) : Option Unit := some ()
theorem F88 {P : Program} {N : Nat → Nat} (hmix : P.follows .mixedOrders = true) (hc : HC88 P N) {k : Nat} {a0 : Int} {r : Unit} (h : f88 k a0 = some r) :
    ACalls P (N 88) [(.d (.int .u64 a0))] [] (.d (.int .i64 (bitsA .xor .i64 (IntKind.i64.wrap (Int.fdiv a0 (2 ^ (min ((1 : Int)).toNat IntKind.u64.bits)))) (IntKind.i64.wrap (0 - (IntKind.i64.wrap (bitsA .and .u64 a0 (1 : Int)))))))) [] := by
  refine acalls_canon (F := C88 N) hc 0 0 rfl ?_
  unfold f88 at h
  dsimp only [C88, startL]
  refine AWc.seq ?_
  refine AWc.rg hmix rfl rfl ?_
  refine RegV.p0 rfl rfl rfl ?_
  refine RegV.nil0 ?_
  refine AWc.seq ?_
  refine AWc.rg hmix rfl rfl ?_
  refine RegV.p0 rfl rfl rfl ?_
  refine RegV.p1 (v := (.d (.int .u64 (Int.fdiv a0 (2 ^ (min ((1 : Int)).toNat IntKind.u64.bits)))))) rfl rfl (by decide) rfl rfl ?_
  refine RegV.p0 (v := (.d (.int .i64 (IntKind.i64.wrap (Int.fdiv a0 (2 ^ (min ((1 : Int)).toNat IntKind.u64.bits))))))) rfl rfl rfl ?_
  refine RegV.p0 rfl rfl rfl ?_
  refine RegV.p0 (v := (.d (.int .u64 (bitsA .and .u64 a0 (1 : Int))))) rfl rfl rfl ?_
  refine RegV.p0 (v := (.d (.int .i64 (IntKind.i64.wrap (bitsA .and .u64 a0 (1 : Int)))))) rfl rfl rfl ?_
  refine RegV.p0 (v := (.d (.int .i64 (IntKind.i64.wrap (0 - (IntKind.i64.wrap (bitsA .and .u64 a0 (1 : Int)))))))) rfl rfl rfl ?_
  refine RegV.p0 (v := (.d (.int .i64 (bitsA .xor .i64 (IntKind.i64.wrap (Int.fdiv a0 (2 ^ (min ((1 : Int)).toNat IntKind.u64.bits)))) (IntKind.i64.wrap (0 - (IntKind.i64.wrap (bitsA .and .u64 a0 (1 : Int))))))))) rfl rfl rfl ?_
  refine RegV.p0 rfl rfl rfl ?_
  refine RegV.nil0 ?_
  have hr := Option.some.inj h
  subst hr
  exact AWc.ret (canQ (N := 11) (k := 0) (l' := [(2, (.d (.int .i64 (bitsA .xor .i64 (IntKind.i64.wrap (Int.fdiv a0 (2 ^ (min ((1 : Int)).toNat IntKind.u64.bits)))) (IntKind.i64.wrap (0 - (IntKind.i64.wrap (bitsA .and .u64 a0 (1 : Int)))))))))]) (H' := []) rfl ⟨rfl, [], [], rfl, rfl, ⟨⟨_, rfl, (.refl _)⟩, rfl, trivial⟩,  trivial⟩ (doneA (.inr rfl) rfl ⟨trivial, trivial⟩ (.refl _) hasNil))
/-- (*courant/code.Reader).Zig -/
def C40 (N : Nat → Nat) : AFunc := { n := 6, params := 1, res := [.tmp 2], body :=
 (.seq (.region false [⟨(some 2), .mv (.k (.d (.int .i64 0))), none, []⟩])
  (.seq (.region false [⟨(some 3), .mv (.t 0), none, []⟩,
    ⟨(some 4), .call (.k (.d (.fn (N 39)))) [(.t 3)], none, [0]⟩,
    ⟨(some 5), .call (.k (.d (.fn (N 88)))) [(.t 4)], none, [1]⟩,
    ⟨(some 2), .mv (.t 5), none, [2, 0, 1]⟩])
   .ret)) }
def HC40 (P : Program) (N : Nat → Nat) : Prop := HasF P (N 40) (C40 N) ∧ HC39 P N ∧ HC88 P N
def f40 (k : Nat) (a0 : (List UInt8)) (a1 : Int) (a2 : Int) : Option (Int × Int × Int) := (f39 k a0 a1 a2).bind fun r9 => (f88 k r9.1).bind fun r10 => some ((bitsA .xor .i64 (IntKind.i64.wrap (Int.fdiv r9.1 (2 ^ (min ((1 : Int)).toNat IntKind.u64.bits)))) (IntKind.i64.wrap (0 - (IntKind.i64.wrap (bitsA .and .u64 r9.1 (1 : Int)))))), r9.2.1, r9.2.2)
theorem F40 {P : Program} {N : Nat → Nat} (hmix : P.follows .mixedOrders = true) (hc : HC40 P N) {k : Nat} {a0 : (List UInt8)} {a1 : Int} {a2 : Int} {r : (Int × Int × Int)} (h : f40 k a0 a1 a2 = some r) :
    ACalls P (N 40) [(.ptr 0 0)] [(0, (.cells [(.d (.sl (List.map byteD a0))), (.d (.int .i64 a1)), (.d (.int .i64 a2))]))] (.d (.int .i64 r.1)) [(0, (.cells [(.d (.sl (List.map byteD a0))), (.d (.int .i64 r.2.1)), (.d (.int .i64 r.2.2))]))] := by
  refine acalls_canon (F := C40 N) hc.1 1 1 rfl ?_
  unfold f40 at h
  dsimp only [C40, startL]
  refine AWc.seq ?_
  refine AWc.rg hmix rfl rfl ?_
  refine RegV.p0 rfl rfl rfl ?_
  refine RegV.nil0 ?_
  refine AWc.seq ?_
  refine AWc.rg hmix rfl rfl ?_
  refine RegV.p0 rfl rfl rfl ?_
  obtain ⟨r9, e9, h⟩ := bind_some h
  refine RegV.callS (q := false) (H' := [(0, (.cells [(.d (.sl (List.map byteD a0))), (.d (.int .i64 r9.2.1)), (.d (.int .i64 r9.2.2))]))]) (c' := 1) (show ACalls P (N 39) [(.ptr 0 0)] [(0, (.cells [(.d (.sl (List.map byteD a0))), (.d (.int .i64 a1)), (.d (.int .i64 a2))]))] (.d (.int .u64 r9.1)) [(0, (.cells [(.d (.sl (List.map byteD a0))), (.d (.int .i64 r9.2.1)), (.d (.int .i64 r9.2.2))]))] from ACalls.use (F39 hmix hc.2.1 e9) [(0, 0)] 1 rfl) rfl rfl rfl rfl (.cons (.refl _) .nil) (.refl _) (fun h => by cases h) rfl (hasCons rfl hasNil) rfl rfl rfl rfl ?_
  obtain ⟨r10, e10, h⟩ := bind_some h
  refine RegV.call0 (F88 hmix hc.2.2 e10) rfl rfl rfl rfl (.cons (.refl _) .nil) rfl ?_
  refine RegV.p0 rfl rfl rfl ?_
  refine RegV.nil0 ?_
  have hr := Option.some.inj h
  subst hr
  exact AWc.ret (canQ (N := 6) (k := 1) (l' := [(2, (.d (.int .i64 (bitsA .xor .i64 (IntKind.i64.wrap (Int.fdiv r9.1 (2 ^ (min ((1 : Int)).toNat IntKind.u64.bits)))) (IntKind.i64.wrap (0 - (IntKind.i64.wrap (bitsA .and .u64 r9.1 (1 : Int)))))))))]) (H' := [(0, (.cells [(.d (.sl (List.map byteD a0))), (.d (.int .i64 r9.2.1)), (.d (.int .i64 r9.2.2))]))]) rfl ⟨rfl, [], [], rfl, rfl, ⟨⟨_, rfl, (.refl _)⟩, rfl, trivial⟩, ⟨⟨_, rfl, (.refl _)⟩, rfl, rfl, trivial⟩⟩ (doneA (.inr rfl) rfl ⟨trivial, trivial⟩ (.refl _) (hasCons rfl hasNil)))
/-- (*courant/code.Reader).Left -/
def C32 (N : Nat → Nat) : AFunc := { n := 15, params := 1, res := [.tmp 2], body :=
 (.seq (.region false [⟨(some 2), .mv (.k (.d (.int .i64 0))), none, []⟩])
  (.seq (.seq (.region false [⟨(some 3), .mv (.t 0), none, []⟩,
     ⟨(some 4), .nileq 1 false (.t 3) (.k (.d .nilp)), none, [0]⟩])
    (.cond (.t 4) (.seq (.region false [⟨(some 2), .mv (.k (.d (.int .i64 0))), none, []⟩])
      .ret)
     (.skip)))
   (.seq (.region true [⟨(some 5), .mv (.t 0), none, []⟩,
     ⟨(some 6), .nilchk (.t 5), none, [0]⟩,
     ⟨(some 7), .faddr (.t 6) 0, none, [1]⟩,
     ⟨(some 8), .load (.t 7) 1 false, none, [2]⟩,
     ⟨(some 9), .len (.t 8), none, [3]⟩,
     ⟨(some 10), .mv (.t 0), none, []⟩,
     ⟨(some 11), .nilchk (.t 10), none, [5]⟩,
     ⟨(some 12), .faddr (.t 11) 1, none, [6]⟩,
     ⟨(some 13), .load (.t 12) 1 false, none, [7]⟩,
     ⟨(some 14), .bin .sub (.t 9) (.t 13), none, [4, 8]⟩,
     ⟨(some 2), .mv (.t 14), none, [9, 0, 1, 2, 3, 4, 5, 6, 7, 8]⟩])
    .ret))) }
def HC32 (P : Program) (N : Nat → Nat) : Prop := HasF P (N 32) (C32 N)
def f32 (k : Nat) (a0 : (List UInt8)) (a1 : Int) (a2 : Int) : Option Unit := some ()
theorem F32 {P : Program} {N : Nat → Nat} (hmix : P.follows .mixedOrders = true) (hc : HC32 P N) {k : Nat} {a0 : (List UInt8)} {a1 : Int} {a2 : Int} {r : Unit} (h : f32 k a0 a1 a2 = some r) :
    ACalls P (N 32) [(.ptr 0 0)] [(0, (.cells [(.d (.sl (List.map byteD a0))), (.d (.int .i64 a1)), (.d (.int .i64 a2))]))] (.d (.int .i64 (IntKind.i64.wrap (((a0.length : Nat) : Int) - a1)))) [(0, (.cells [(.d (.sl (List.map byteD a0))), (.d (.int .i64 a1)), (.d (.int .i64 a2))]))] := by
  refine acalls_canon (F := C32 N) hc 1 1 rfl ?_
  unfold f32 at h
  dsimp only [C32, startL]
  refine AWc.seq ?_
  refine AWc.rg hmix rfl rfl ?_
  refine RegV.p0 rfl rfl rfl ?_
  refine RegV.nil0 ?_
  refine AWc.seq ?_
  refine AWc.seq ?_
  refine AWc.rg hmix rfl rfl ?_
  refine RegV.p0 rfl rfl rfl ?_
  refine RegV.p0 (v := (.d (.bool false))) rfl rfl rfl ?_
  refine RegV.nil0 ?_
  refine AWc.cond rfl (fun hc => by cases hc) (fun _ => ?_)
  refine AWc.skip ?_
  refine AWc.seq ?_
  refine AWc.rg hmix rfl rfl ?_
  refine RegV.p0 rfl rfl rfl ?_
  refine RegV.p0 rfl rfl rfl ?_
  refine RegV.p0 (v := (.ptr 0 0)) rfl rfl rfl ?_
  refine RegV.ld (v := (.d (.sl (List.map byteD a0)))) (H' := [(0, (.cells [(.d (.sl (List.map byteD a0))), (.d (.int .i64 a1)), (.d (.int .i64 a2))]))]) rfl rfl trivial rfl rfl rfl rfl rfl ?_
  refine RegV.len (xs := a0) (e := byteD) rfl rfl rfl rfl ?_
  refine RegV.p0 rfl rfl rfl ?_
  refine RegV.p0 rfl rfl rfl ?_
  refine RegV.p0 (v := (.ptr 0 1)) rfl rfl rfl ?_
  refine RegV.ld (v := (.d (.int .i64 a1))) (H' := [(0, (.cells [(.d (.sl (List.map byteD a0))), (.d (.int .i64 a1)), (.d (.int .i64 a2))]))]) rfl rfl trivial rfl rfl rfl rfl rfl ?_
  refine RegV.p0 (v := (.d (.int .i64 (IntKind.i64.wrap (((a0.length : Nat) : Int) - a1))))) rfl rfl rfl ?_
  refine RegV.p0 rfl rfl rfl ?_
  refine RegV.nil1 (by kernel_rfl) ?_
  have hr := Option.some.inj h
  subst hr
  exact AWc.ret (canQ (N := 15) (k := 1) (l' := [(2, (.d (.int .i64 (IntKind.i64.wrap (((a0.length : Nat) : Int) - a1)))))]) (H' := [(0, (.cells [(.d (.sl (List.map byteD a0))), (.d (.int .i64 a1)), (.d (.int .i64 a2))]))]) rfl ⟨rfl, [], [], rfl, rfl, ⟨⟨_, rfl, (.refl _)⟩, rfl, trivial⟩, ⟨⟨_, rfl, (.refl _)⟩, rfl, rfl, trivial⟩⟩ (doneA (.inr rfl) rfl ⟨trivial, trivial⟩ (.refl _) (hasCons rfl hasNil)))
/-- (*courant/code.Reader).Raw -/
def C41 (N : Nat → Nat) : AFunc := { n := 46, params := 2, res := [.tmp 4], body :=
 (.seq (.region false [⟨(some 4), .mv (.k .nils), none, []⟩])
  (.seq (.seq (.region false [⟨(some 5), .mv (.t 0), none, []⟩,
     ⟨(some 6), .call (.k (.d (.fn (N 84)))) [(.t 5)], none, [0]⟩,
     ⟨(some 7), .un .not (.t 6), none, [1]⟩,
     ⟨(some 8), .mv (.t 7), none, [2, 1]⟩,
     ⟨(some 9), .mv (.t 1), (some (8, false)), [3]⟩,
     ⟨(some 10), .bin .leq (.t 9) (.k (.d (.int .i64 0))), (some (8, false)), [4, 3]⟩,
     ⟨(some 11), .pick (.t 8) (.k (.d (.bool true))) (.t 10), none, [3, 5]⟩])
    (.cond (.t 11) (.seq (.region false [⟨(some 4), .mv (.k .nils), none, []⟩])
      .ret)
     (.skip)))
   (.seq (.seq (.region false [⟨(some 12), .mv (.t 1), none, []⟩,
      ⟨(some 13), .mv (.t 0), none, []⟩,
      ⟨(some 14), .call (.k (.d (.fn (N 32)))) [(.t 13)], none, [1]⟩,
      ⟨(some 15), .bin .gtr (.t 12) (.t 14), none, [0, 2]⟩])
     (.cond (.t 15) (.seq (.region false [⟨(some 16), .mv (.t 0), none, []⟩,
        ⟨(some 17), .mv (.t 0), none, []⟩,
        ⟨(some 18), .nilchk (.t 17), none, [1]⟩,
        ⟨(some 19), .faddr (.t 18) 1, none, [2]⟩,
        ⟨(some 20), .load (.t 19) 1 false, none, [3]⟩,
        ⟨(some 21), .call (.k (.d (.fn (N 85)))) [(.t 16), (.t 20), (.k (.d (.int .i64 3)))], none, [0, 4]⟩])
       (.seq (.region false [⟨(some 4), .mv (.k .nils), none, []⟩])
        .ret))
      (.skip)))
    (.seq (.region false [⟨(some 22), .mv (.t 0), none, []⟩,
      ⟨(some 23), .nilchk (.t 22), none, [0]⟩,
      ⟨(some 24), .faddr (.t 23) 1, none, [1]⟩,
      ⟨(some 25), .load (.t 24) 1 false, none, [2]⟩,
      ⟨(some 26), .mv (.t 1), none, []⟩,
      ⟨(some 27), .bin .add (.t 25) (.t 26), none, [3, 4]⟩,
      ⟨(some 28), .nilchk (.t 22), none, [0, 1, 2, 3, 4, 5]⟩,
      ⟨(some 29), .faddr (.t 28) 1, none, [6, 0, 1, 2, 3, 4, 5]⟩,
      ⟨none, .store (.t 29) (.t 27) 1, none, [7, 5, 0, 1, 2, 3, 4]⟩])
     (.seq (.region true [⟨(some 30), .mv (.t 0), none, []⟩,
       ⟨(some 31), .nilchk (.t 30), none, [0]⟩,
       ⟨(some 32), .faddr (.t 31) 0, none, [1]⟩,
       ⟨(some 33), .load (.t 32) 1 false, none, [2]⟩,
       ⟨(some 34), .mv (.t 0), none, []⟩,
       ⟨(some 35), .nilchk (.t 34), none, [4]⟩,
       ⟨(some 36), .faddr (.t 35) 1, none, [5]⟩,
       ⟨(some 37), .load (.t 36) 1 false, none, [6]⟩,
       ⟨(some 38), .mv (.t 1), none, []⟩,
       ⟨(some 39), .bin .sub (.t 37) (.t 38), none, [7, 8]⟩,
       ⟨(some 40), .mv (.t 0), none, []⟩,
       ⟨(some 41), .nilchk (.t 40), none, [10]⟩,
       ⟨(some 42), .faddr (.t 41) 1, none, [11]⟩,
       ⟨(some 43), .load (.t 42) 1 false, none, [12]⟩,
       ⟨(some 44), .slc (.t 33) (some (.t 39)) (some (.t 43)) none 1, none, [3, 9, 13]⟩,
       ⟨(some 45), .app (.k .nils) (.t 44) 1 1 [(.int .u8 0)], none, [14]⟩,
       ⟨(some 4), .mv (.t 45), none, [15, 0, 1, 2, 3, 4, 5, 6, 7, 8, 9, 10, 11, 12, 13, 14]⟩])
      .ret))))) }
def HC41 (P : Program) (N : Nat → Nat) : Prop := HasF P (N 41) (C41 N) ∧ HC84 P N ∧ HC32 P N ∧ HC85 P N
def f41 (k : Nat) (a0 : (List UInt8)) (a1 : Int) (a2 : Int) (a3 : Int) : Option ((List UInt8) × Int × Int) := (f84 k a0 a1 a2).bind fun r10 => cond (!(decide (a2 = (0 : Int)))) (some (([] : List UInt8), a1, a2)) (cond (decide (a3 ≤ (0 : Int))) (some (([] : List UInt8), a1, a2)) ((f32 k a0 a1 a2).bind fun r29 => cond (decide (a3 > (IntKind.i64.wrap (((a0.length : Nat) : Int) - a1)))) ((f85 k a0 a1 a2 a1 (3 : Int)).bind fun r40 => some (([] : List UInt8), a1, (3 : Int))) (gd (0 ≤ (IntKind.i64.wrap ((IntKind.i64.wrap (a1 + a3)) - a3)) ∧ (IntKind.i64.wrap ((IntKind.i64.wrap (a1 + a3)) - a3)) ≤ (IntKind.i64.wrap (a1 + a3)) ∧ (IntKind.i64.wrap (a1 + a3)) ≤ ((a0.length : Nat) : Int)) (gd ((sl a0 (IntKind.i64.wrap ((IntKind.i64.wrap (a1 + a3)) - a3)) (IntKind.i64.wrap (a1 + a3))).length * 1 ≤ 281474976710656) (some ((sl a0 (IntKind.i64.wrap ((IntKind.i64.wrap (a1 + a3)) - a3)) (IntKind.i64.wrap (a1 + a3))), (IntKind.i64.wrap (a1 + a3)), a2))))))
theorem F41 {P : Program} {N : Nat → Nat} (hmix : P.follows .mixedOrders = true) (hc : HC41 P N) {k : Nat} {a0 : (List UInt8)} {a1 : Int} {a2 : Int} {a3 : Int} {r : ((List UInt8) × Int × Int)} (h : f41 k a0 a1 a2 a3 = some r) :
    ACalls P (N 41) [(.ptr 0 0), (.d (.int .i64 a3))] [(0, (.cells [(.d (.sl (List.map byteD a0))), (.d (.int .i64 a1)), (.d (.int .i64 a2))]))] (.ap 1 1 (List.map byteD r.1)) [(1, (.tok ((List.map byteD r.1).length * 1))), (0, (.cells [(.d (.sl (List.map byteD a0))), (.d (.int .i64 r.2.1)), (.d (.int .i64 r.2.2))]))] := by
  refine acalls_canon (F := C41 N) hc.1 1 2 rfl ?_
  unfold f41 at h
  dsimp only [C41, startL]
  refine AWc.seq ?_
  refine AWc.rg hmix rfl rfl ?_
  refine RegV.p0 rfl rfl rfl ?_
  refine RegV.nil0 ?_
  refine AWc.seq ?_
  refine AWc.seq ?_
  refine AWc.rg hmix rfl rfl ?_
  refine RegV.p0 rfl rfl rfl ?_
  obtain ⟨r10, e10, h⟩ := bind_some h
  refine RegV.callS (q := true) (H' := [(0, (.cells [(.d (.sl (List.map byteD a0))), (.d (.int .i64 a1)), (.d (.int .i64 a2))]))]) (c' := 1) (show ACalls P (N 84) [(.ptr 0 0)] [(0, (.cells [(.d (.sl (List.map byteD a0))), (.d (.int .i64 a1)), (.d (.int .i64 a2))]))] (.d (.bool (decide (a2 = (0 : Int))))) [(0, (.cells [(.d (.sl (List.map byteD a0))), (.d (.int .i64 a1)), (.d (.int .i64 a2))]))] from ACalls.use (F84 hmix hc.2.1 e10) [(0, 0)] 1 rfl) rfl rfl rfl rfl (.cons (.refl _) .nil) (.refl _) (fun _ => rfl) rfl (hasCons rfl hasNil) rfl rfl rfl rfl ?_
  refine RegV.p0 (v := (.d (.bool (!(decide (a2 = (0 : Int))))))) rfl rfl rfl ?_
  refine RegV.p0 rfl rfl rfl ?_
  refine RegV.split (fun c12 => ?_) (fun c12 => ?_)
  · have h := cond_pos c12 h
    refine RegV.noS rfl rfl ?_
    refine RegV.noS rfl rfl ?_
    refine RegV.p0 rfl rfl rfl ?_
    refine RegV.nil0 ?_
    refine AWc.cond rfl (fun _ => ?_) (fun hc => by cases hc)
    refine AWc.seq ?_
    refine AWc.rg hmix rfl rfl ?_
    refine RegV.p0 rfl rfl rfl ?_
    refine RegV.nil0 ?_
    have hr := Option.some.inj h
    subst hr
    exact AWc.ret (canQ (N := 46) (k := 2) (l' := [(4, (.ap 1 1 (List.map byteD ([] : List UInt8))))]) (H' := [(1, (.tok ((List.map byteD ([] : List UInt8)).length * 1))), (0, (.cells [(.d (.sl (List.map byteD a0))), (.d (.int .i64 a1)), (.d (.int .i64 a2))]))]) rfl ⟨rfl, [.tok 0], [(1, 1)], rfl, rfl, ⟨⟨_, rfl, .nil⟩, rfl, trivial⟩, ⟨⟨_, rfl, (.refl _)⟩, rfl, rfl, ⟨⟨_, rfl, (.refl _)⟩, rfl, rfl, trivial⟩⟩⟩ (doneA (.inr rfl) rfl ⟨trivial, trivial⟩ (.refl _) (hasCons rfl (hasCons rfl hasNil))))
  · have h := cond_neg c12 h
    refine RegV.p0 rfl rfl rfl ?_
    refine RegV.p0 (v := (.d (.bool (decide (a3 ≤ (0 : Int)))))) rfl rfl rfl ?_
    refine RegV.p0 rfl rfl rfl ?_
    refine RegV.nil0 ?_
    refine AWc.cond rfl (fun c16 => ?_) (fun c16 => ?_)
    · have h := cond_pos c16 h
      refine AWc.seq ?_
      refine AWc.rg hmix rfl rfl ?_
      refine RegV.p0 rfl rfl rfl ?_
      refine RegV.nil0 ?_
      have hr := Option.some.inj h
      subst hr
      exact AWc.ret (canQ (N := 46) (k := 2) (l' := [(4, (.ap 1 1 (List.map byteD ([] : List UInt8))))]) (H' := [(1, (.tok ((List.map byteD ([] : List UInt8)).length * 1))), (0, (.cells [(.d (.sl (List.map byteD a0))), (.d (.int .i64 a1)), (.d (.int .i64 a2))]))]) rfl ⟨rfl, [.tok 0], [(1, 1)], rfl, rfl, ⟨⟨_, rfl, .nil⟩, rfl, trivial⟩, ⟨⟨_, rfl, (.refl _)⟩, rfl, rfl, ⟨⟨_, rfl, (.refl _)⟩, rfl, rfl, trivial⟩⟩⟩ (doneA (.inr rfl) rfl ⟨trivial, trivial⟩ (.refl _) (hasCons rfl (hasCons rfl hasNil))))
    · have h := cond_neg c16 h
      refine AWc.skip ?_
      refine AWc.seq ?_
      refine AWc.seq ?_
      refine AWc.rg hmix rfl rfl ?_
      refine RegV.p0 rfl rfl rfl ?_
      refine RegV.p0 rfl rfl rfl ?_
      obtain ⟨r29, e29, h⟩ := bind_some h
      refine RegV.callS (q := true) (H' := [(0, (.cells [(.d (.sl (List.map byteD a0))), (.d (.int .i64 a1)), (.d (.int .i64 a2))]))]) (c' := 1) (show ACalls P (N 32) [(.ptr 0 0)] [(0, (.cells [(.d (.sl (List.map byteD a0))), (.d (.int .i64 a1)), (.d (.int .i64 a2))]))] (.d (.int .i64 (IntKind.i64.wrap (((a0.length : Nat) : Int) - a1)))) [(0, (.cells [(.d (.sl (List.map byteD a0))), (.d (.int .i64 a1)), (.d (.int .i64 a2))]))] from ACalls.use (F32 hmix hc.2.2.1 e29) [(0, 0)] 1 rfl) rfl rfl rfl rfl (.cons (.refl _) .nil) (.refl _) (fun _ => rfl) rfl (hasCons rfl hasNil) rfl rfl rfl rfl ?_
      refine RegV.p0 (v := (.d (.bool (decide (a3 > (IntKind.i64.wrap (((a0.length : Nat) : Int) - a1))))))) rfl rfl rfl ?_
      refine RegV.nil0 ?_
      refine AWc.cond rfl (fun c31 => ?_) (fun c31 => ?_)
      · have h := cond_pos c31 h
        refine AWc.seq ?_
        refine AWc.rg hmix rfl rfl ?_
        refine RegV.p0 rfl rfl rfl ?_
        refine RegV.p0 rfl rfl rfl ?_
        refine RegV.p0 rfl rfl rfl ?_
        refine RegV.p0 (v := (.ptr 0 1)) rfl rfl rfl ?_
        refine RegV.ld (v := (.d (.int .i64 a1))) (H' := [(0, (.cells [(.d (.sl (List.map byteD a0))), (.d (.int .i64 a1)), (.d (.int .i64 a2))]))]) rfl rfl trivial rfl rfl rfl rfl rfl ?_
        obtain ⟨r40, e40, h⟩ := bind_some h
        refine RegV.callS (q := false) (H' := [(0, (.cells [(.d (.sl (List.map byteD a0))), (.d (.int .i64 a1)), (.d (.int .i64 (3 : Int)))]))]) (c' := 1) (show ACalls P (N 85) [(.ptr 0 0), (.d (.int .i64 a1)), (.d (.int .i64 (3 : Int)))] [(0, (.cells [(.d (.sl (List.map byteD a0))), (.d (.int .i64 a1)), (.d (.int .i64 a2))]))] (.tup []) [(0, (.cells [(.d (.sl (List.map byteD a0))), (.d (.int .i64 a1)), (.d (.int .i64 (3 : Int)))]))] from ACalls.use (F85 hmix hc.2.2.2 e40) [(0, 0)] 1 rfl) rfl rfl rfl rfl (.cons (.refl _) (.cons (.refl _) (.cons (.refl _) .nil))) (.refl _) (fun h => by cases h) rfl (hasCons rfl hasNil) rfl rfl rfl rfl ?_
        refine RegV.nil0 ?_
        refine AWc.seq ?_
        refine AWc.rg hmix rfl rfl ?_
        refine RegV.p0 rfl rfl rfl ?_
        refine RegV.nil0 ?_
        have hr := Option.some.inj h
        subst hr
        exact AWc.ret (canQ (N := 46) (k := 2) (l' := [(4, (.ap 1 1 (List.map byteD ([] : List UInt8))))]) (H' := [(1, (.tok ((List.map byteD ([] : List UInt8)).length * 1))), (0, (.cells [(.d (.sl (List.map byteD a0))), (.d (.int .i64 a1)), (.d (.int .i64 (3 : Int)))]))]) rfl ⟨rfl, [.tok 0], [(1, 1)], rfl, rfl, ⟨⟨_, rfl, .nil⟩, rfl, trivial⟩, ⟨⟨_, rfl, (.refl _)⟩, rfl, rfl, ⟨⟨_, rfl, (.refl _)⟩, rfl, rfl, trivial⟩⟩⟩ (doneA (.inr rfl) rfl ⟨trivial, trivial⟩ (.refl _) (hasCons rfl (hasCons rfl hasNil))))
      · have h := cond_neg c31 h
        refine AWc.skip ?_
        refine AWc.seq ?_
        refine AWc.rg hmix rfl rfl ?_
        refine RegV.p0 rfl rfl rfl ?_
        refine RegV.p0 rfl rfl rfl ?_
        refine RegV.p0 (v := (.ptr 0 1)) rfl rfl rfl ?_
        refine RegV.ld (v := (.d (.int .i64 a1))) (H' := [(0, (.cells [(.d (.sl (List.map byteD a0))), (.d (.int .i64 a1)), (.d (.int .i64 a2))]))]) rfl rfl trivial rfl rfl rfl rfl rfl ?_
        refine RegV.p0 rfl rfl rfl ?_
        refine RegV.p0 (v := (.d (.int .i64 (IntKind.i64.wrap (a1 + a3))))) rfl rfl rfl ?_
        refine RegV.p0 rfl rfl rfl ?_
        refine RegV.p0 (v := (.ptr 0 1)) rfl rfl rfl ?_
        refine RegV.evN (own := false) (H' := [(0, (.cells [(.d (.sl (List.map byteD a0))), (.d (.int .i64 (IntKind.i64.wrap (a1 + a3)))), (.d (.int .i64 a2))]))]) (c' := 1) rfl rfl (by exact ⟨rfl, Nat.le_of_ble_eq_true rfl, rfl⟩) rfl rfl rfl rfl ?_
        refine RegV.nil0 ?_
        refine AWc.seq ?_
        refine AWc.rg hmix rfl rfl ?_
        refine RegV.p0 rfl rfl rfl ?_
        refine RegV.p0 rfl rfl rfl ?_
        refine RegV.p0 (v := (.ptr 0 0)) rfl rfl rfl ?_
        refine RegV.ld (v := (.d (.sl (List.map byteD a0)))) (H' := [(0, (.cells [(.d (.sl (List.map byteD a0))), (.d (.int .i64 (IntKind.i64.wrap (a1 + a3)))), (.d (.int .i64 a2))]))]) rfl rfl trivial rfl rfl rfl rfl rfl ?_
        refine RegV.p0 rfl rfl rfl ?_
        refine RegV.p0 rfl rfl rfl ?_
        refine RegV.p0 (v := (.ptr 0 1)) rfl rfl rfl ?_
        refine RegV.ld (v := (.d (.int .i64 (IntKind.i64.wrap (a1 + a3))))) (H' := [(0, (.cells [(.d (.sl (List.map byteD a0))), (.d (.int .i64 (IntKind.i64.wrap (a1 + a3)))), (.d (.int .i64 a2))]))]) rfl rfl trivial rfl rfl rfl rfl rfl ?_
        refine RegV.p0 rfl rfl rfl ?_
        refine RegV.p0 (v := (.d (.int .i64 (IntKind.i64.wrap ((IntKind.i64.wrap (a1 + a3)) - a3))))) rfl rfl rfl ?_
        refine RegV.p0 rfl rfl rfl ?_
        refine RegV.p0 rfl rfl rfl ?_
        refine RegV.p0 (v := (.ptr 0 1)) rfl rfl rfl ?_
        refine RegV.ld (v := (.d (.int .i64 (IntKind.i64.wrap (a1 + a3))))) (H' := [(0, (.cells [(.d (.sl (List.map byteD a0))), (.d (.int .i64 (IntKind.i64.wrap (a1 + a3)))), (.d (.int .i64 a2))]))]) rfl rfl trivial rfl rfl rfl rfl rfl ?_
        obtain ⟨b76, h⟩ := gd_some h
        refine RegV.slc (xs := a0) (e := byteD) (lo := (IntKind.i64.wrap ((IntKind.i64.wrap (a1 + a3)) - a3))) (hi := (IntKind.i64.wrap (a1 + a3))) rfl rfl rfl b76 (fun _ => rfl) rfl ?_
        obtain ⟨b77, h⟩ := gd_some h
        refine RegV.appN (ys := (sl a0 (IntKind.i64.wrap ((IntKind.i64.wrap (a1 + a3)) - a3)) (IntKind.i64.wrap (a1 + a3)))) (e := byteD) rfl rfl rfl (fun _ => rfl) rfl rfl b77 rfl rfl ?_
        refine RegV.p0 rfl rfl rfl ?_
        refine RegV.nil1 (by kernel_rfl) ?_
        have hr := Option.some.inj h
        subst hr
        exact AWc.ret (canQ (N := 46) (k := 2) (l' := [(4, (.ap 1 1 (List.map byteD (sl a0 (IntKind.i64.wrap ((IntKind.i64.wrap (a1 + a3)) - a3)) (IntKind.i64.wrap (a1 + a3))))))]) (H' := [(1, (.tok ((List.map byteD (sl a0 (IntKind.i64.wrap ((IntKind.i64.wrap (a1 + a3)) - a3)) (IntKind.i64.wrap (a1 + a3)))).length * 1))), (0, (.cells [(.d (.sl (List.map byteD a0))), (.d (.int .i64 (IntKind.i64.wrap (a1 + a3)))), (.d (.int .i64 a2))]))]) rfl ⟨rfl, [], [], rfl, rfl, ⟨⟨_, rfl, (.refl _)⟩, rfl, trivial⟩, ⟨⟨_, rfl, (.refl _)⟩, rfl, rfl, ⟨⟨_, rfl, (.refl _)⟩, rfl, rfl, trivial⟩⟩⟩ (doneA (.inr rfl) rfl ⟨trivial, trivial⟩ (.refl _) (hasCons rfl (hasCons rfl hasNil))))
/-- (*courant/code.Reader).Text -/
def C31 (N : Nat → Nat) : AFunc := { n := 53, params := 2, res := [.tmp 4], body :=
 (.seq (.region false [⟨(some 4), .mv (.k .nils), none, []⟩])
  (.seq (.seq (.region false [⟨(some 8), .mv (.t 0), none, []⟩,
     ⟨(some 9), .call (.k (.d (.fn (N 84)))) [(.t 8)], none, [0]⟩,
     ⟨(some 10), .un .not (.t 9), none, [1]⟩])
    (.cond (.t 10) (.seq (.region false [⟨(some 4), .mv (.k .nils), none, []⟩])
      .ret)
     (.skip)))
   (.seq (.region false [⟨(some 11), .mv (.t 0), none, []⟩,
     ⟨(some 12), .nilchk (.t 11), none, [0]⟩,
     ⟨(some 13), .faddr (.t 12) 1, none, [1]⟩,
     ⟨(some 14), .load (.t 13) 1 false, none, [2]⟩,
     ⟨(some 5), .mv (.t 14), none, [3, 0, 1, 2]⟩])
    (.seq (.region false [⟨(some 15), .mv (.t 0), none, []⟩,
      ⟨(some 16), .call (.k (.d (.fn (N 40)))) [(.t 15)], none, [0]⟩,
      ⟨(some 6), .mv (.t 16), none, [1, 0]⟩])
     (.seq (.block 0 (.seq (.region false [⟨(some 18), .mv (.t 0), none, []⟩,
         ⟨(some 19), .nilchk (.t 18), none, [0]⟩,
         ⟨(some 20), .faddr (.t 19) 2, none, [1]⟩,
         ⟨(some 21), .load (.t 20) 1 false, none, [2]⟩,
         ⟨(some 22), .bin .neq (.t 21) (.k (.d (.int .i64 0))), none, [3]⟩,
         ⟨(some 17), .mv (.t 22), none, [4]⟩])
        (.cond (.t 17) (.seq (.region false [⟨(some 4), .mv (.k .nils), none, []⟩])
          .ret)
         (.seq (.region false [⟨(some 24), .mv (.t 6), none, []⟩,
           ⟨(some 25), .bin .lss (.t 24) (.k (.d (.int .i64 0))), none, [0]⟩,
           ⟨(some 23), .mv (.t 25), none, [1]⟩])
          (.cond (.t 23) (.seq (.region false [⟨(some 26), .mv (.t 0), none, []⟩,
             ⟨(some 27), .mv (.t 5), none, []⟩,
             ⟨(some 28), .call (.k (.d (.fn (N 85)))) [(.t 26), (.t 27), (.k (.d (.int .i64 4)))], none, [0, 1]⟩])
            (.seq (.region false [⟨(some 4), .mv (.k .nils), none, []⟩])
             .ret))
           (.seq (.region false [⟨(some 30), .mv (.t 6), none, []⟩,
             ⟨(some 31), .mv (.t 1), none, []⟩,
             ⟨(some 32), .mm true [(.t 31), (.k (.d (.int .i64 0)))], none, [1]⟩,
             ⟨(some 33), .bin .gtr (.t 30) (.t 32), none, [0, 2]⟩,
             ⟨(some 29), .mv (.t 33), none, [3]⟩])
            (.cond (.t 29) (.seq (.region false [⟨(some 34), .mv (.t 0), none, []⟩,
               ⟨(some 35), .mv (.t 5), none, []⟩,
               ⟨(some 36), .call (.k (.d (.fn (N 85)))) [(.t 34), (.t 35), (.k (.d (.int .i64 5)))], none, [0, 1]⟩])
              (.seq (.region false [⟨(some 4), .mv (.k .nils), none, []⟩])
               .ret))
             (.skip))))))))
      (.seq (.region false [⟨(some 37), .mv (.t 0), none, []⟩,
        ⟨(some 38), .mv (.t 6), none, []⟩,
        ⟨(some 39), .call (.k (.d (.fn (N 41)))) [(.t 37), (.t 38)], none, [0, 1]⟩,
        ⟨(some 7), .mv (.t 39), none, [2, 0, 1]⟩])
       (.seq (.seq (.region false [⟨(some 40), .mv (.t 0), none, []⟩,
          ⟨(some 41), .nilchk (.t 40), none, [0]⟩,
          ⟨(some 42), .faddr (.t 41) 2, none, [1]⟩,
          ⟨(some 43), .load (.t 42) 1 false, none, [2]⟩,
          ⟨(some 44), .bin .neq (.t 43) (.k (.d (.int .i64 0))), none, [3]⟩])
         (.cond (.t 44) (.region false [⟨(some 45), .mv (.t 0), none, []⟩,
           ⟨(some 46), .mv (.t 5), none, []⟩,
           ⟨(some 47), .mv (.t 0), none, []⟩,
           ⟨(some 48), .nilchk (.t 47), none, [2]⟩,
           ⟨(some 49), .faddr (.t 48) 2, none, [3]⟩,
           ⟨(some 50), .load (.t 49) 1 false, none, [4]⟩,
           ⟨(some 51), .call (.k (.d (.fn (N 85)))) [(.t 45), (.t 46), (.t 50)], none, [0, 1, 5]⟩])
          (.skip)))
        (.seq (.region false [⟨(some 52), .mv (.t 7), none, []⟩,
          ⟨(some 4), .mv (.t 52), none, [0]⟩])
         .ret)))))))) }
def HC31 (P : Program) (N : Nat → Nat) : Prop := HasF P (N 31) (C31 N) ∧ HC84 P N ∧ HC40 P N ∧ HC85 P N ∧ HC41 P N
def f31 (k : Nat) (a0 : (List UInt8)) (a1 : Int) (a2 : Int) (a3 : Int) : Option ((List UInt8) × Int × Int) := (f84 k a0 a1 a2).bind fun r10 => cond (!(decide (a2 = (0 : Int)))) (some (([] : List UInt8), a1, a2)) ((f40 k a0 a1 a2).bind fun r31 => cond (decide (r31.2.2 ≠ (0 : Int))) (some (([] : List UInt8), r31.2.1, r31.2.2)) (cond (decide (r31.1 < (0 : Int))) ((f85 k a0 r31.2.1 r31.2.2 a1 (4 : Int)).bind fun r62 => some (([] : List UInt8), a1, (4 : Int))) (cond (decide (r31.1 > (max a3 (0 : Int)))) ((f85 k a0 r31.2.1 r31.2.2 a1 (5 : Int)).bind fun r82 => some (([] : List UInt8), a1, (5 : Int))) ((f41 k a0 r31.2.1 r31.2.2 r31.1).bind fun r94 => cond (decide (r94.2.2 ≠ (0 : Int))) ((f85 k a0 r94.2.1 r94.2.2 a1 r94.2.2).bind fun r114 => some (r94.1, a1, r94.2.2)) (some (r94.1, r94.2.1, r94.2.2))))))
theorem F31 {P : Program} {N : Nat → Nat} (hmix : P.follows .mixedOrders = true) (hc : HC31 P N) {k : Nat} {a0 : (List UInt8)} {a1 : Int} {a2 : Int} {a3 : Int} {r : ((List UInt8) × Int × Int)} (h : f31 k a0 a1 a2 a3 = some r) :
    ACalls P (N 31) [(.ptr 0 0), (.d (.int .i64 a3))] [(0, (.cells [(.d (.sl (List.map byteD a0))), (.d (.int .i64 a1)), (.d (.int .i64 a2))]))] (.ap 1 1 (List.map byteD r.1)) [(1, (.tok ((List.map byteD r.1).length * 1))), (0, (.cells [(.d (.sl (List.map byteD a0))), (.d (.int .i64 r.2.1)), (.d (.int .i64 r.2.2))]))] := by
  refine acalls_canon (F := C31 N) hc.1 1 2 rfl ?_
  unfold f31 at h
  dsimp only [C31, startL]
  refine AWc.seq ?_
  refine AWc.rg hmix rfl rfl ?_
  refine RegV.p0 rfl rfl rfl ?_
  refine RegV.nil0 ?_
  refine AWc.seq ?_
  refine AWc.seq ?_
  refine AWc.rg hmix rfl rfl ?_
  refine RegV.p0 rfl rfl rfl ?_
  obtain ⟨r10, e10, h⟩ := bind_some h
  refine RegV.callS (q := true) (H' := [(0, (.cells [(.d (.sl (List.map byteD a0))), (.d (.int .i64 a1)), (.d (.int .i64 a2))]))]) (c' := 1) (show ACalls P (N 84) [(.ptr 0 0)] [(0, (.cells [(.d (.sl (List.map byteD a0))), (.d (.int .i64 a1)), (.d (.int .i64 a2))]))] (.d (.bool (decide (a2 = (0 : Int))))) [(0, (.cells [(.d (.sl (List.map byteD a0))), (.d (.int .i64 a1)), (.d (.int .i64 a2))]))] from ACalls.use (F84 hmix hc.2.1 e10) [(0, 0)] 1 rfl) rfl rfl rfl rfl (.cons (.refl _) .nil) (.refl _) (fun _ => rfl) rfl (hasCons rfl hasNil) rfl rfl rfl rfl ?_
  refine RegV.p0 (v := (.d (.bool (!(decide (a2 = (0 : Int))))))) rfl rfl rfl ?_
  refine RegV.nil0 ?_
  refine AWc.cond rfl (fun c12 => ?_) (fun c12 => ?_)
  · have h := cond_pos c12 h
    refine AWc.seq ?_
    refine AWc.rg hmix rfl rfl ?_
    refine RegV.p0 rfl rfl rfl ?_
    refine RegV.nil0 ?_
    have hr := Option.some.inj h
    subst hr
    exact AWc.ret (canQ (N := 53) (k := 2) (l' := [(4, (.ap 1 1 (List.map byteD ([] : List UInt8))))]) (H' := [(1, (.tok ((List.map byteD ([] : List UInt8)).length * 1))), (0, (.cells [(.d (.sl (List.map byteD a0))), (.d (.int .i64 a1)), (.d (.int .i64 a2))]))]) rfl ⟨rfl, [.tok 0], [(1, 1)], rfl, rfl, ⟨⟨_, rfl, .nil⟩, rfl, trivial⟩, ⟨⟨_, rfl, (.refl _)⟩, rfl, rfl, ⟨⟨_, rfl, (.refl _)⟩, rfl, rfl, trivial⟩⟩⟩ (doneA (.inr rfl) rfl ⟨trivial, trivial⟩ (.refl _) (hasCons rfl (hasCons rfl hasNil))))
  · have h := cond_neg c12 h
    refine AWc.skip ?_
    refine AWc.seq ?_
    refine AWc.rg hmix rfl rfl ?_
    refine RegV.p0 rfl rfl rfl ?_
    refine RegV.p0 rfl rfl rfl ?_
    refine RegV.p0 (v := (.ptr 0 1)) rfl rfl rfl ?_
    refine RegV.ld (v := (.d (.int .i64 a1))) (H' := [(0, (.cells [(.d (.sl (List.map byteD a0))), (.d (.int .i64 a1)), (.d (.int .i64 a2))]))]) rfl rfl trivial rfl rfl rfl rfl rfl ?_
    refine RegV.p0 rfl rfl rfl ?_
    refine RegV.nil0 ?_
    refine AWc.seq ?_
    refine AWc.rg hmix rfl rfl ?_
    refine RegV.p0 rfl rfl rfl ?_
    obtain ⟨r31, e31, h⟩ := bind_some h
    refine RegV.callS (q := false) (H' := [(0, (.cells [(.d (.sl (List.map byteD a0))), (.d (.int .i64 r31.2.1)), (.d (.int .i64 r31.2.2))]))]) (c' := 1) (show ACalls P (N 40) [(.ptr 0 0)] [(0, (.cells [(.d (.sl (List.map byteD a0))), (.d (.int .i64 a1)), (.d (.int .i64 a2))]))] (.d (.int .i64 r31.1)) [(0, (.cells [(.d (.sl (List.map byteD a0))), (.d (.int .i64 r31.2.1)), (.d (.int .i64 r31.2.2))]))] from ACalls.use (F40 hmix hc.2.2.1 e31) [(0, 0)] 1 rfl) rfl rfl rfl rfl (.cons (.refl _) .nil) (.refl _) (fun h => by cases h) rfl (hasCons rfl hasNil) rfl rfl rfl rfl ?_
    refine RegV.p0 rfl rfl rfl ?_
    refine RegV.nil0 ?_
    refine AWc.seq ?_
    refine AWc.block ?_
    refine AWc.seq ?_
    refine AWc.rg hmix rfl rfl ?_
    refine RegV.p0 rfl rfl rfl ?_
    refine RegV.p0 rfl rfl rfl ?_
    refine RegV.p0 (v := (.ptr 0 2)) rfl rfl rfl ?_
    refine RegV.ld (v := (.d (.int .i64 r31.2.2))) (H' := [(0, (.cells [(.d (.sl (List.map byteD a0))), (.d (.int .i64 r31.2.1)), (.d (.int .i64 r31.2.2))]))]) rfl rfl trivial rfl rfl rfl rfl rfl ?_
    refine RegV.p0 (v := (.d (.bool (decide (r31.2.2 ≠ (0 : Int)))))) rfl rfl rfl ?_
    refine RegV.p0 rfl rfl rfl ?_
    refine RegV.nil0 ?_
    refine AWc.cond rfl (fun c44 => ?_) (fun c44 => ?_)
    · have h := cond_pos c44 h
      refine AWc.seq ?_
      refine AWc.rg hmix rfl rfl ?_
      refine RegV.p0 rfl rfl rfl ?_
      refine RegV.nil0 ?_
      have hr := Option.some.inj h
      subst hr
      exact AWc.ret (canQ (N := 53) (k := 2) (l' := [(4, (.ap 1 1 (List.map byteD ([] : List UInt8))))]) (H' := [(1, (.tok ((List.map byteD ([] : List UInt8)).length * 1))), (0, (.cells [(.d (.sl (List.map byteD a0))), (.d (.int .i64 r31.2.1)), (.d (.int .i64 r31.2.2))]))]) rfl ⟨rfl, [.tok 0], [(1, 1)], rfl, rfl, ⟨⟨_, rfl, .nil⟩, rfl, trivial⟩, ⟨⟨_, rfl, (.refl _)⟩, rfl, rfl, ⟨⟨_, rfl, (.refl _)⟩, rfl, rfl, trivial⟩⟩⟩ (doneA (.inr rfl) rfl ⟨trivial, trivial⟩ (.refl _) (hasCons rfl (hasCons rfl hasNil))))
    · have h := cond_neg c44 h
      refine AWc.seq ?_
      refine AWc.rg hmix rfl rfl ?_
      refine RegV.p0 rfl rfl rfl ?_
      refine RegV.p0 (v := (.d (.bool (decide (r31.1 < (0 : Int)))))) rfl rfl rfl ?_
      refine RegV.p0 rfl rfl rfl ?_
      refine RegV.nil0 ?_
      refine AWc.cond rfl (fun c56 => ?_) (fun c56 => ?_)
      · have h := cond_pos c56 h
        refine AWc.seq ?_
        refine AWc.rg hmix rfl rfl ?_
        refine RegV.p0 rfl rfl rfl ?_
        refine RegV.p0 rfl rfl rfl ?_
        obtain ⟨r62, e62, h⟩ := bind_some h
        refine RegV.callS (q := false) (H' := [(0, (.cells [(.d (.sl (List.map byteD a0))), (.d (.int .i64 a1)), (.d (.int .i64 (4 : Int)))]))]) (c' := 1) (show ACalls P (N 85) [(.ptr 0 0), (.d (.int .i64 a1)), (.d (.int .i64 (4 : Int)))] [(0, (.cells [(.d (.sl (List.map byteD a0))), (.d (.int .i64 r31.2.1)), (.d (.int .i64 r31.2.2))]))] (.tup []) [(0, (.cells [(.d (.sl (List.map byteD a0))), (.d (.int .i64 a1)), (.d (.int .i64 (4 : Int)))]))] from ACalls.use (F85 hmix hc.2.2.2.1 e62) [(0, 0)] 1 rfl) rfl rfl rfl rfl (.cons (.refl _) (.cons (.refl _) (.cons (.refl _) .nil))) (.refl _) (fun h => by cases h) rfl (hasCons rfl hasNil) rfl rfl rfl rfl ?_
        refine RegV.nil0 ?_
        refine AWc.seq ?_
        refine AWc.rg hmix rfl rfl ?_
        refine RegV.p0 rfl rfl rfl ?_
        refine RegV.nil0 ?_
        have hr := Option.some.inj h
        subst hr
        exact AWc.ret (canQ (N := 53) (k := 2) (l' := [(4, (.ap 1 1 (List.map byteD ([] : List UInt8))))]) (H' := [(1, (.tok ((List.map byteD ([] : List UInt8)).length * 1))), (0, (.cells [(.d (.sl (List.map byteD a0))), (.d (.int .i64 a1)), (.d (.int .i64 (4 : Int)))]))]) rfl ⟨rfl, [.tok 0], [(1, 1)], rfl, rfl, ⟨⟨_, rfl, .nil⟩, rfl, trivial⟩, ⟨⟨_, rfl, (.refl _)⟩, rfl, rfl, ⟨⟨_, rfl, (.refl _)⟩, rfl, rfl, trivial⟩⟩⟩ (doneA (.inr rfl) rfl ⟨trivial, trivial⟩ (.refl _) (hasCons rfl (hasCons rfl hasNil))))
      · have h := cond_neg c56 h
        refine AWc.seq ?_
        refine AWc.rg hmix rfl rfl ?_
        refine RegV.p0 rfl rfl rfl ?_
        refine RegV.p0 rfl rfl rfl ?_
        refine RegV.p0 (v := (.d (.int .i64 (max a3 (0 : Int))))) rfl rfl rfl ?_
        refine RegV.p0 (v := (.d (.bool (decide (r31.1 > (max a3 (0 : Int))))))) rfl rfl rfl ?_
        refine RegV.p0 rfl rfl rfl ?_
        refine RegV.nil0 ?_
        refine AWc.cond rfl (fun c76 => ?_) (fun c76 => ?_)
        · have h := cond_pos c76 h
          refine AWc.seq ?_
          refine AWc.rg hmix rfl rfl ?_
          refine RegV.p0 rfl rfl rfl ?_
          refine RegV.p0 rfl rfl rfl ?_
          obtain ⟨r82, e82, h⟩ := bind_some h
          refine RegV.callS (q := false) (H' := [(0, (.cells [(.d (.sl (List.map byteD a0))), (.d (.int .i64 a1)), (.d (.int .i64 (5 : Int)))]))]) (c' := 1) (show ACalls P (N 85) [(.ptr 0 0), (.d (.int .i64 a1)), (.d (.int .i64 (5 : Int)))] [(0, (.cells [(.d (.sl (List.map byteD a0))), (.d (.int .i64 r31.2.1)), (.d (.int .i64 r31.2.2))]))] (.tup []) [(0, (.cells [(.d (.sl (List.map byteD a0))), (.d (.int .i64 a1)), (.d (.int .i64 (5 : Int)))]))] from ACalls.use (F85 hmix hc.2.2.2.1 e82) [(0, 0)] 1 rfl) rfl rfl rfl rfl (.cons (.refl _) (.cons (.refl _) (.cons (.refl _) .nil))) (.refl _) (fun h => by cases h) rfl (hasCons rfl hasNil) rfl rfl rfl rfl ?_
          refine RegV.nil0 ?_
          refine AWc.seq ?_
          refine AWc.rg hmix rfl rfl ?_
          refine RegV.p0 rfl rfl rfl ?_
          refine RegV.nil0 ?_
          have hr := Option.some.inj h
          subst hr
          exact AWc.ret (canQ (N := 53) (k := 2) (l' := [(4, (.ap 1 1 (List.map byteD ([] : List UInt8))))]) (H' := [(1, (.tok ((List.map byteD ([] : List UInt8)).length * 1))), (0, (.cells [(.d (.sl (List.map byteD a0))), (.d (.int .i64 a1)), (.d (.int .i64 (5 : Int)))]))]) rfl ⟨rfl, [.tok 0], [(1, 1)], rfl, rfl, ⟨⟨_, rfl, .nil⟩, rfl, trivial⟩, ⟨⟨_, rfl, (.refl _)⟩, rfl, rfl, ⟨⟨_, rfl, (.refl _)⟩, rfl, rfl, trivial⟩⟩⟩ (doneA (.inr rfl) rfl ⟨trivial, trivial⟩ (.refl _) (hasCons rfl (hasCons rfl hasNil))))
        · have h := cond_neg c76 h
          refine AWc.skip ?_
          refine AWc.seq ?_
          refine AWc.rg hmix rfl rfl ?_
          refine RegV.p0 rfl rfl rfl ?_
          refine RegV.p0 rfl rfl rfl ?_
          obtain ⟨r94, e94, h⟩ := bind_some h
          refine RegV.callS (q := false) (H' := [(1, (.tok ((List.map byteD r94.1).length * 1))), (0, (.cells [(.d (.sl (List.map byteD a0))), (.d (.int .i64 r94.2.1)), (.d (.int .i64 r94.2.2))]))]) (c' := 2) (show ACalls P (N 41) [(.ptr 0 0), (.d (.int .i64 r31.1))] [(0, (.cells [(.d (.sl (List.map byteD a0))), (.d (.int .i64 r31.2.1)), (.d (.int .i64 r31.2.2))]))] (.ap 1 1 (List.map byteD r94.1)) [(1, (.tok ((List.map byteD r94.1).length * 1))), (0, (.cells [(.d (.sl (List.map byteD a0))), (.d (.int .i64 r94.2.1)), (.d (.int .i64 r94.2.2))]))] from ACalls.use (F41 hmix hc.2.2.2.2 e94) [(0, 0), (1, 1)] 2 rfl) rfl rfl rfl rfl (.cons (.refl _) (.cons (.refl _) .nil)) (.refl _) (fun h => by cases h) rfl (hasCons rfl hasNil) rfl rfl rfl rfl ?_
          refine RegV.p0 rfl rfl rfl ?_
          refine RegV.nil0 ?_
          refine AWc.seq ?_
          refine AWc.seq ?_
          refine AWc.rg hmix rfl rfl ?_
          refine RegV.p0 rfl rfl rfl ?_
          refine RegV.p0 rfl rfl rfl ?_
          refine RegV.p0 (v := (.ptr 0 2)) rfl rfl rfl ?_
          refine RegV.ld (v := (.d (.int .i64 r94.2.2))) (H' := [(0, (.cells [(.d (.sl (List.map byteD a0))), (.d (.int .i64 r94.2.1)), (.d (.int .i64 r94.2.2))])), (1, (.tok ((List.map byteD r94.1).length * 1)))]) rfl rfl trivial rfl rfl rfl rfl rfl ?_
          refine RegV.p0 (v := (.d (.bool (decide (r94.2.2 ≠ (0 : Int)))))) rfl rfl rfl ?_
          refine RegV.nil0 ?_
          refine AWc.cond rfl (fun c105 => ?_) (fun c105 => ?_)
          · have h := cond_pos c105 h
            refine AWc.rg hmix rfl rfl ?_
            refine RegV.p0 rfl rfl rfl ?_
            refine RegV.p0 rfl rfl rfl ?_
            refine RegV.p0 rfl rfl rfl ?_
            refine RegV.p0 rfl rfl rfl ?_
            refine RegV.p0 (v := (.ptr 0 2)) rfl rfl rfl ?_
            refine RegV.ld (v := (.d (.int .i64 r94.2.2))) (H' := [(0, (.cells [(.d (.sl (List.map byteD a0))), (.d (.int .i64 r94.2.1)), (.d (.int .i64 r94.2.2))])), (1, (.tok ((List.map byteD r94.1).length * 1)))]) rfl rfl trivial rfl rfl rfl rfl rfl ?_
            obtain ⟨r114, e114, h⟩ := bind_some h
            refine RegV.callS (q := false) (H' := [(0, (.cells [(.d (.sl (List.map byteD a0))), (.d (.int .i64 a1)), (.d (.int .i64 r94.2.2))])), (1, (.tok ((List.map byteD r94.1).length * 1)))]) (c' := 2) (show ACalls P (N 85) [(.ptr 0 0), (.d (.int .i64 a1)), (.d (.int .i64 r94.2.2))] [(0, (.cells [(.d (.sl (List.map byteD a0))), (.d (.int .i64 r94.2.1)), (.d (.int .i64 r94.2.2))]))] (.tup []) [(0, (.cells [(.d (.sl (List.map byteD a0))), (.d (.int .i64 a1)), (.d (.int .i64 r94.2.2))]))] from ACalls.use (F85 hmix hc.2.2.2.1 e114) [(0, 0)] 1 rfl) rfl rfl rfl rfl (.cons (.refl _) (.cons (.refl _) (.cons (.refl _) .nil))) (.refl _) (fun h => by cases h) rfl (hasCons rfl hasNil) rfl rfl rfl rfl ?_
            refine RegV.nil0 ?_
            refine AWc.seq ?_
            refine AWc.rg hmix rfl rfl ?_
            refine RegV.p0 rfl rfl rfl ?_
            refine RegV.p0 rfl rfl rfl ?_
            refine RegV.nil0 ?_
            have hr := Option.some.inj h
            subst hr
            exact AWc.ret (canQ (N := 53) (k := 2) (l' := [(4, (.ap 1 1 (List.map byteD r94.1)))]) (H' := [(1, (.tok ((List.map byteD r94.1).length * 1))), (0, (.cells [(.d (.sl (List.map byteD a0))), (.d (.int .i64 a1)), (.d (.int .i64 r94.2.2))]))]) rfl ⟨rfl, [], [], rfl, rfl, ⟨⟨_, rfl, (.refl _)⟩, rfl, trivial⟩, ⟨⟨_, rfl, (.refl _)⟩, rfl, rfl, ⟨⟨_, rfl, (.refl _)⟩, rfl, rfl, trivial⟩⟩⟩ (doneA (.inr rfl) rfl ⟨trivial, trivial⟩ (.refl _) (hasCons rfl (hasCons rfl hasNil))))
          · have h := cond_neg c105 h
            refine AWc.skip ?_
            refine AWc.seq ?_
            refine AWc.rg hmix rfl rfl ?_
            refine RegV.p0 rfl rfl rfl ?_
            refine RegV.p0 rfl rfl rfl ?_
            refine RegV.nil0 ?_
            have hr := Option.some.inj h
            subst hr
            exact AWc.ret (canQ (N := 53) (k := 2) (l' := [(4, (.ap 1 1 (List.map byteD r94.1)))]) (H' := [(1, (.tok ((List.map byteD r94.1).length * 1))), (0, (.cells [(.d (.sl (List.map byteD a0))), (.d (.int .i64 r94.2.1)), (.d (.int .i64 r94.2.2))]))]) rfl ⟨rfl, [], [], rfl, rfl, ⟨⟨_, rfl, (.refl _)⟩, rfl, trivial⟩, ⟨⟨_, rfl, (.refl _)⟩, rfl, rfl, ⟨⟨_, rfl, (.refl _)⟩, rfl, rfl, trivial⟩⟩⟩ (doneA (.inr rfl) rfl ⟨trivial, trivial⟩ (.refl _) (hasCons rfl (hasCons rfl hasNil))))
/-- courant/courantlaw01.CodeSizes -/
def C4 (N : Nat → Nat) : AFunc := { n := 117, params := 3, res := [.tmp 6], body :=
 (.seq (.region false [⟨(some 6), .mv (.k (.d (.bool false))), none, []⟩])
  (.seq (.region false [⟨(some 15), .mv (.t 0), none, []⟩,
    ⟨(some 16), .bin .shr (.t 15) (.k (.d (.int .u64 7))), none, [0]⟩,
    ⟨(some 7), .mv (.k (.d (.int .i64 1))), none, []⟩,
    ⟨(some 8), .mv (.t 16), none, [1, 2, 0]⟩])
   (.seq (.block 0 (.loop (.seq (.seq (.region false [⟨(some 17), .mv (.t 8), none, []⟩,
         ⟨(some 18), .bin .gtr (.t 17) (.k (.d (.int .u64 0))), none, [0]⟩])
        (.cond (.t 18) (.skip)
         (.exit 0)))
       (.block 1 (.region false [⟨(some 19), .mv (.t 7), none, []⟩,
         ⟨(some 20), .bin .add (.t 19) (.k (.d (.int .i64 1))), none, [0]⟩,
         ⟨(some 21), .mv (.t 8), none, []⟩,
         ⟨(some 22), .bin .shr (.t 21) (.k (.d (.int .u64 7))), none, [2]⟩,
         ⟨(some 7), .mv (.t 20), none, [1, 0]⟩,
         ⟨(some 8), .mv (.t 22), none, [3, 4, 0, 1, 2]⟩])))))
    (.seq (.region false [⟨(some 23), .mv (.t 1), none, []⟩,
      ⟨(some 24), .cvi .u64 (.t 23), none, [0]⟩,
      ⟨(some 25), .bin .shl (.t 24) (.k (.d (.int .u64 1))), none, [1]⟩,
      ⟨(some 9), .mv (.t 25), none, [2, 0, 1]⟩])
     (.seq (.seq (.region false [⟨(some 26), .mv (.t 1), none, []⟩,
        ⟨(some 27), .bin .lss (.t 26) (.k (.d (.int .i64 0))), none, [0]⟩])
       (.cond (.t 27) (.region false [⟨(some 28), .mv (.t 1), none, []⟩,
         ⟨(some 29), .bin .add (.t 28) (.k (.d (.int .i64 1))), none, [0]⟩,
         ⟨(some 30), .un .neg (.t 29), none, [1]⟩,
         ⟨(some 31), .cvi .u64 (.t 30), none, [2]⟩,
         ⟨(some 32), .bin .shl (.t 31) (.k (.d (.int .u64 1))), none, [3]⟩,
         ⟨(some 33), .bin .add (.t 32) (.k (.d (.int .u64 1))), none, [4]⟩,
         ⟨(some 9), .mv (.t 33), none, [5, 0, 1, 2, 3, 4]⟩])
        (.skip)))
      (.seq (.seq (.region false [⟨(some 34), .call (.k (.d (.fn (N 20)))) [], none, []⟩,
         ⟨(some 35), .un .not (.t 34), none, [0]⟩,
         ⟨(some 36), .mv (.t 35), none, [1, 0]⟩,
         ⟨(some 37), .mv (.t 0), (some (36, false)), [2]⟩,
         ⟨(some 38), .call (.k (.d (.fn (N 23)))) [(.t 37)], (some (36, false)), [3, 2]⟩,
         ⟨(some 39), .len (.t 38), (some (36, false)), [4, 2]⟩,
         ⟨(some 40), .mv (.t 7), (some (36, false)), [2]⟩,
         ⟨(some 41), .bin .neq (.t 39) (.t 40), (some (36, false)), [5, 6, 2]⟩,
         ⟨(some 42), .pick (.t 36) (.k (.d (.bool true))) (.t 41), none, [2, 7]⟩,
         ⟨(some 43), .mv (.t 42), none, [8, 4]⟩,
         ⟨(some 44), .mv (.t 1), (some (43, false)), [9]⟩,
         ⟨(some 45), .call (.k (.d (.fn (N 25)))) [(.t 44)], (some (43, false)), [10, 9]⟩,
         ⟨(some 46), .mv (.t 9), (some (43, false)), [9]⟩,
         ⟨(some 47), .call (.k (.d (.fn (N 23)))) [(.t 46)], (some (43, false)), [12, 11, 9]⟩,
         ⟨(some 48), .call (.k (.d (.fn (N 22)))) [(.t 45), (.t 47)], (some (43, false)), [11, 13, 9]⟩,
         ⟨(some 49), .un .not (.t 48), (some (43, false)), [14, 9]⟩,
         ⟨(some 50), .pick (.t 43) (.k (.d (.bool true))) (.t 49), none, [9, 15]⟩,
         ⟨(some 51), .mv (.t 50), none, [16, 14]⟩,
         ⟨(some 52), .mv (.t 2), (some (51, false)), [17]⟩,
         ⟨(some 53), .len (.t 52), (some (51, false)), [18, 17]⟩,
         ⟨(some 54), .bin .gtr (.t 53) (.k (.d (.int .i64 20))), (some (51, false)), [19, 17]⟩,
         ⟨(some 55), .pick (.t 51) (.k (.d (.bool true))) (.t 54), none, [17, 20]⟩])
        (.cond (.t 55) (.seq (.region false [⟨(some 56), .call (.k (.d (.fn (N 20)))) [], none, []⟩,
           ⟨(some 57), .mv (.t 56), none, [0]⟩,
           ⟨(some 58), .mv (.t 2), (some (57, true)), [1]⟩,
           ⟨(some 59), .len (.t 58), (some (57, true)), [2, 1]⟩,
           ⟨(some 60), .bin .gtr (.t 59) (.k (.d (.int .i64 20))), (some (57, true)), [3, 1]⟩,
           ⟨(some 61), .pick (.t 57) (.t 60) (.k (.d (.bool false))), none, [1, 4]⟩,
           ⟨(some 6), .mv (.t 61), none, [5, 1, 0, 2, 3, 4]⟩])
          .ret)
         (.skip)))
       (.seq (.region false [⟨(some 10), .mv (.k .nils), none, []⟩])
        (.seq (.seq (.region false [⟨(some 11), .mv (.k (.d (.int .i64 0))), none, []⟩])
          (.block 2 (.loop (.seq (.seq (.region false [⟨(some 62), .mv (.t 11), none, []⟩,
               ⟨(some 63), .mv (.t 2), none, []⟩,
               ⟨(some 64), .len (.t 63), none, [1]⟩,
               ⟨(some 65), .bin .lss (.t 62) (.t 64), none, [0, 2]⟩])
              (.cond (.t 65) (.skip)
               (.exit 2)))
             (.seq (.block 3 (.seq (.seq (.region false [⟨(some 68), .mv (.t 2), none, []⟩,
                  ⟨(some 69), .mv (.t 11), none, []⟩,
                  ⟨(some 70), .iaddr (.t 68) (.t 69) 1, none, [0, 1]⟩,
                  ⟨(some 71), .load (.t 70) 1 false, none, [2]⟩,
                  ⟨(some 72), .len (.t 71), none, [3]⟩,
                  ⟨(some 73), .bin .gtr (.t 72) (.k (.d (.int .i64 500))), none, [4]⟩])
                 (.cond (.t 73) (.seq (.region false [⟨(some 6), .mv (.k (.d (.bool true))), none, []⟩])
                   .ret)
                  (.skip)))
                (.seq (.region false [⟨(some 74), .mv (.t 2), none, []⟩,
                  ⟨(some 75), .mv (.t 11), none, []⟩,
                  ⟨(some 76), .iaddr (.t 74) (.t 75) 1, none, [0, 1]⟩,
                  ⟨(some 77), .load (.t 76) 1 false, none, [2]⟩,
                  ⟨(some 78), .call (.k (.d (.fn (N 27)))) [(.t 77)], none, [3]⟩,
                  ⟨(some 12), .mv (.t 78), none, [4, 0, 1, 2, 3]⟩])
                 (.seq (.seq (.region true [⟨(some 79), .mv (.t 12), none, []⟩,
                    ⟨(some 80), .len (.t 79), none, [0]⟩,
                    ⟨(some 81), .mv (.t 2), none, []⟩,
                    ⟨(some 82), .mv (.t 11), none, []⟩,
                    ⟨(some 83), .iaddr (.t 81) (.t 82) 1, none, [2, 3]⟩,
                    ⟨(some 84), .load (.t 83) 1 false, none, [4]⟩,
                    ⟨(some 85), .len (.t 84), none, [5]⟩,
                    ⟨(some 86), .call (.k (.d (.fn (N 25)))) [(.t 85)], none, [6]⟩,
                    ⟨(some 87), .len (.t 86), none, [7]⟩,
                    ⟨(some 88), .mv (.t 2), none, []⟩,
                    ⟨(some 89), .mv (.t 11), none, []⟩,
                    ⟨(some 90), .iaddr (.t 88) (.t 89) 1, none, [9, 10]⟩,
                    ⟨(some 91), .load (.t 90) 1 false, none, [11]⟩,
                    ⟨(some 92), .len (.t 91), none, [12]⟩,
                    ⟨(some 93), .bin .add (.t 87) (.t 92), none, [8, 13]⟩,
                    ⟨(some 94), .bin .neq (.t 80) (.t 93), none, [1, 14]⟩])
                   (.cond (.t 94) (.seq (.region false [⟨(some 6), .mv (.k (.d (.bool false))), none, []⟩])
                     .ret)
                    (.skip)))
                  (.region false [⟨(some 95), .mv (.t 10), none, []⟩,
                   ⟨(some 96), .mv (.t 12), none, []⟩,
                   ⟨(some 97), .app (.t 95) (.t 96) 1 1 [(.int .u8 0)], none, [0, 1]⟩,
                   ⟨(some 10), .mv (.t 97), none, [2, 0, 1]⟩])))))
              (.region false [⟨(some 66), .mv (.t 11), none, []⟩,
               ⟨(some 67), .bin .add (.t 66) (.k (.d (.int .i64 1))), none, [0]⟩,
               ⟨(some 11), .mv (.t 67), none, [1, 0]⟩]))))))
         (.seq (.region false [⟨(some 98), .mv (.t 10), none, []⟩,
           ⟨(some 99), .call (.k (.d (.fn (N 30)))) [(.t 98)], none, [0]⟩,
           ⟨(some 13), .mv (.t 99), none, [1, 0]⟩])
          (.seq (.seq (.region false [⟨(some 14), .mv (.k (.d (.int .i64 0))), none, []⟩])
            (.block 4 (.loop (.seq (.seq (.region false [⟨(some 100), .mv (.t 14), none, []⟩,
                 ⟨(some 101), .mv (.t 2), none, []⟩,
                 ⟨(some 102), .len (.t 101), none, [1]⟩,
                 ⟨(some 103), .bin .lss (.t 100) (.t 102), none, [0, 2]⟩])
                (.cond (.t 103) (.skip)
                 (.exit 4)))
               (.seq (.block 5 (.seq (.region true [⟨(some 106), .mv (.t 13), none, []⟩,
                   ⟨(some 107), .call (.k (.d (.fn (N 31)))) [(.t 106), (.k (.d (.int .i64 500)))], none, [0]⟩,
                   ⟨(some 108), .mv (.t 2), none, []⟩,
                   ⟨(some 109), .mv (.t 14), none, []⟩,
                   ⟨(some 110), .iaddr (.t 108) (.t 109) 1, none, [2, 3]⟩,
                   ⟨(some 111), .load (.t 110) 1 false, none, [4]⟩,
                   ⟨(some 112), .call (.k (.d (.fn (N 22)))) [(.t 107), (.t 111)], none, [1, 5]⟩,
                   ⟨(some 113), .un .not (.t 112), none, [6]⟩])
                  (.cond (.t 113) (.seq (.region false [⟨(some 6), .mv (.k (.d (.bool false))), none, []⟩])
                    .ret)
                   (.skip))))
                (.region false [⟨(some 104), .mv (.t 14), none, []⟩,
                 ⟨(some 105), .bin .add (.t 104) (.k (.d (.int .i64 1))), none, [0]⟩,
                 ⟨(some 14), .mv (.t 105), none, [1, 0]⟩]))))))
           (.seq (.region false [⟨(some 114), .mv (.t 13), none, []⟩,
             ⟨(some 115), .call (.k (.d (.fn (N 32)))) [(.t 114)], none, [0]⟩,
             ⟨(some 116), .bin .eql (.t 115) (.k (.d (.int .i64 0))), none, [1]⟩,
             ⟨(some 6), .mv (.t 116), none, [2, 1, 0]⟩])
            .ret))))))))))) }
def HC4 (P : Program) (N : Nat → Nat) : Prop := HasF P (N 4) (C4 N) ∧ HC20 P N ∧ HC23 P N ∧ HC25 P N ∧ HC22 P N ∧ HC27 P N ∧ HC30 P N ∧ HC31 P N ∧ HC32 P N
def f4_l13 : Nat → Int → Int → Option (LR2 Int Unit Bool)
  | 0, _, _ => none
  | k + 1, y13_1, y13_2 => cond (decide (y13_2 > (0 : Int))) (f4_l13 k (IntKind.i64.wrap (y13_1 + (1 : Int))) (Int.fdiv y13_2 (2 ^ (min ((7 : Int)).toNat IntKind.u64.bits)))) (some (.b0 y13_1))
def f4_j233 (k : Nat) (j184_1 : (List UInt8)) (j233_1 : Int) (j233_2 : Int) : Option Bool := (f32 k j184_1 j233_1 j233_2).bind fun r237 => some (decide ((IntKind.i64.wrap (((j184_1.length : Nat) : Int) - j233_1)) = (0 : Int)))
def f4_l195 (a2 : (List (List UInt8))) (j184_1 : (List UInt8)) : Nat → Int → Int → Int → Option (LR2 (Int × Int) Unit Bool)
  | 0, _, _, _ => none
  | k + 1, y195_1, y195_2, y195_3 => cond (decide (y195_1 < ((a2.length : Nat) : Int))) ((f31 k j184_1 y195_2 y195_3 (500 : Int)).bind fun r214 => gd (0 ≤ y195_1 ∧ y195_1 < ((a2.length : Nat) : Int)) ((f22 k r214.1 (rd a2 y195_1)).bind fun r219 => cond (!(decide (r214.1 = (rd a2 y195_1)))) (some (.r false)) (f4_l195 a2 j184_1 k (IntKind.i64.wrap (y195_1 + (1 : Int))) r214.2.1 r214.2.2))) (some (.b0 (y195_2, y195_3)))
def f4_j184 (k : Nat) (a2 : (List (List UInt8))) (j184_1 : (List UInt8)) : Option Bool := (f30 k j184_1).bind fun r188 => (f4_l195 a2 j184_1 k (0 : Int) (0 : Int) (0 : Int)).bind fun o195 => match o195 with | .b0 (x195_1, x195_2) => f4_j233 k j184_1 x195_1 x195_2 | .r x => some x | _ => none
def f4_l105 (a2 : (List (List UInt8))) : Nat → (List UInt8) → Int → Option (LR2 (List UInt8) Unit Bool)
  | 0, _, _ => none
  | k + 1, y105_1, y105_2 => cond (decide (y105_2 < ((a2.length : Nat) : Int))) (gd (0 ≤ y105_2 ∧ y105_2 < ((a2.length : Nat) : Int)) (cond (decide ((((rd a2 y105_2).length : Nat) : Int) > (500 : Int))) (some (.r true)) (gd (0 ≤ y105_2 ∧ y105_2 < ((a2.length : Nat) : Int)) ((f27 k (rd a2 y105_2)).bind fun r144 => gd (0 ≤ y105_2 ∧ y105_2 < ((a2.length : Nat) : Int)) ((f25 k (((rd a2 y105_2).length : Nat) : Int)).bind fun r157 => gd (0 ≤ y105_2 ∧ y105_2 < ((a2.length : Nat) : Int)) (cond (decide (((r144.length : Nat) : Int) ≠ (IntKind.i64.wrap (((r157.length : Nat) : Int) + (((rd a2 y105_2).length : Nat) : Int))))) (some (.r false)) (gd ((y105_1.length + r144.length) * 2 * 1 ≤ 281474976710656) (f4_l105 a2 k (y105_1 ++ r144) (IntKind.i64.wrap (y105_2 + (1 : Int))))))))))) (some (.b0 y105_1))
def f4_j83 (k : Nat) (a2 : (List (List UInt8))) (j83_1 : Bool) : Option Bool := cond j83_1 ((f20 k).bind fun r87 => cond r87 (some (decide (((a2.length : Nat) : Int) > (20 : Int)))) (some false)) ((f4_l105 a2 k ([] : List UInt8) (0 : Int)).bind fun o105 => match o105 with | .b0 x105_1 => f4_j184 k a2 x105_1 | .r x => some x | _ => none)
def f4_j57 (k : Nat) (a2 : (List (List UInt8))) (a0 : Int) (x13_1 : Int) (a1 : Int) (j57_1 : Int) : Option Bool := (f20 k).bind fun r61 => cond (!r61) (f4_j83 k a2 true) ((f23 k a0).bind fun r65 => cond (decide (((r65.length : Nat) : Int) ≠ x13_1)) (f4_j83 k a2 true) ((f25 k a1).bind fun r72 => (f23 k j57_1).bind fun r74 => (f22 k r72 r74).bind fun r75 => cond (!(decide (r72 = r74))) (f4_j83 k a2 true) (f4_j83 k a2 (decide (((a2.length : Nat) : Int) > (20 : Int))))))
def f4 (k : Nat) (a0 : Int) (a1 : Int) (a2 : (List (List UInt8))) : Option Bool := (f4_l13 k (1 : Int) (Int.fdiv a0 (2 ^ (min ((7 : Int)).toNat IntKind.u64.bits)))).bind fun o13 => match o13 with | .b0 x13_1 => cond (decide (a1 < (0 : Int))) (f4_j57 k a2 a0 x13_1 a1 (IntKind.u64.wrap ((IntKind.u64.wrap ((IntKind.u64.wrap (IntKind.i64.wrap (0 - (IntKind.i64.wrap (a1 + (1 : Int)))))) * 2 ^ (min ((1 : Int)).toNat IntKind.u64.bits))) + (1 : Int)))) (f4_j57 k a2 a0 x13_1 a1 (IntKind.u64.wrap ((IntKind.u64.wrap a1) * 2 ^ (min ((1 : Int)).toNat IntKind.u64.bits)))) | _ => none
theorem F4 {P : Program} {N : Nat → Nat} (hmix : P.follows .mixedOrders = true) (hc : HC4 P N) {k : Nat} {a0 : Int} {a1 : Int} {a2 : (List (List UInt8))} {r : Bool} (h : f4 k a0 a1 a2 = some r) :
    ACalls P (N 4) [(.d (.int .u64 a0)), (.d (.int .i64 a1)), (.d (.sl (List.map (slE byteD) a2)))] [] (.d (.bool r)) [] := by
  refine acalls_canon (F := C4 N) hc.1 0 0 rfl ?_
  unfold f4 at h
  dsimp only [C4, startL]
  refine AWc.seq ?_
  refine AWc.rg hmix rfl rfl ?_
  refine RegV.p0 rfl rfl rfl ?_
  refine RegV.nil0 ?_
  refine AWc.seq ?_
  refine AWc.rg hmix rfl rfl ?_
  refine RegV.p0 rfl rfl rfl ?_
  refine RegV.p1 (v := (.d (.int .u64 (Int.fdiv a0 (2 ^ (min ((7 : Int)).toNat IntKind.u64.bits)))))) rfl rfl (by decide) rfl rfl ?_
  refine RegV.p0 rfl rfl rfl ?_
  refine RegV.p0 rfl rfl rfl ?_
  refine RegV.nil0 ?_
  obtain ⟨o13, h13, h⟩ := bind_some h
  refine AWc.seqS (N := 117) 0 (fun (z : Int) => [(0, (.d (.int .u64 a0))), (1, (.d (.int .i64 a1))), (2, (.d (.sl (List.map (slE byteD) a2)))), (7, (.d (.int .i64 z)))]) (fun z => []) (fun z => o13 = .b0 z) rfl_le ?_ ?_
  · refine AWc.block ?_
    refine AWc.loopK (N := 117) 0 (fun (x : (Int × Int)) => [(0, (.d (.int .u64 a0))), (1, (.d (.int .i64 a1))), (2, (.d (.sl (List.map (slE byteD) a2)))), (7, (.d (.int .i64 x.1))), (8, (.d (.int .u64 x.2)))]) (fun x => []) (fun k x => f4_l13 k x.1 x.2 = some o13) k ((1 : Int), (Int.fdiv a0 (2 ^ (min ((7 : Int)).toNat IntKind.u64.bits)))) rfl_le (fun x hx => by cases hx) h13 ⟨rfl, [], [], rfl, rfl, ⟨⟨_, rfl, (.refl _)⟩, rfl, ⟨⟨_, rfl, (.refl _)⟩, rfl, ⟨⟨_, rfl, (.refl _)⟩, rfl, ⟨⟨_, rfl, (.refl _)⟩, rfl, ⟨⟨_, rfl, (.refl _)⟩, rfl, trivial⟩⟩⟩⟩⟩,  trivial⟩ ?_
    clear h13
    intro k
    rintro ⟨y13_1, y13_2⟩ h13
    dsimp only at h13 ⊢
    rw [f4_l13] at h13
    refine AWc.seq ?_
    refine AWc.seq ?_
    refine AWc.rg hmix rfl rfl ?_
    refine RegV.p0 rfl rfl rfl ?_
    refine RegV.p0 (v := (.d (.bool (decide (y13_2 > (0 : Int)))))) rfl rfl rfl ?_
    refine RegV.nil0 ?_
    refine AWc.cond rfl (fun c21 => ?_) (fun c21 => ?_)
    · have h13 := cond_pos c21 h13
      refine AWc.skip ?_
      refine AWc.block ?_
      refine AWc.rg hmix rfl rfl ?_
      refine RegV.p0 rfl rfl rfl ?_
      refine RegV.p0 (v := (.d (.int .i64 (IntKind.i64.wrap (y13_1 + (1 : Int)))))) rfl rfl rfl ?_
      refine RegV.p0 rfl rfl rfl ?_
      refine RegV.p1 (v := (.d (.int .u64 (Int.fdiv y13_2 (2 ^ (min ((7 : Int)).toNat IntKind.u64.bits)))))) rfl rfl (by decide) rfl rfl ?_
      refine RegV.p0 rfl rfl rfl ?_
      refine RegV.p0 rfl rfl rfl ?_
      refine RegV.nil0 ?_
      exact ⟨((IntKind.i64.wrap (y13_1 + (1 : Int))), (Int.fdiv y13_2 (2 ^ (min ((7 : Int)).toNat IntKind.u64.bits)))), h13, ⟨rfl, [], [], rfl, rfl, ⟨⟨_, rfl, (.refl _)⟩, rfl, ⟨⟨_, rfl, (.refl _)⟩, rfl, ⟨⟨_, rfl, (.refl _)⟩, rfl, ⟨⟨_, rfl, (.refl _)⟩, rfl, ⟨⟨_, rfl, (.refl _)⟩, rfl, trivial⟩⟩⟩⟩⟩,  trivial⟩⟩
    · have h13 := cond_neg c21 h13
      cases h13
      dsimp only at h
      refine AWc.exit ?_
      refine inBlk_eq ?_
      exact ⟨y13_1, rfl, ⟨rfl, [], [], rfl, rfl, ⟨⟨_, rfl, (.refl _)⟩, rfl, ⟨⟨_, rfl, (.refl _)⟩, rfl, ⟨⟨_, rfl, (.refl _)⟩, rfl, ⟨⟨_, rfl, (.refl _)⟩, rfl, trivial⟩⟩⟩⟩,  trivial⟩⟩
  · intro x13_1 ho
    subst ho
    dsimp only at h
    refine AWc.seq ?_
    refine AWc.rg hmix rfl rfl ?_
    refine RegV.p0 rfl rfl rfl ?_
    refine RegV.p0 (v := (.d (.int .u64 (IntKind.u64.wrap a1)))) rfl rfl rfl ?_
    refine RegV.p1 (v := (.d (.int .u64 (IntKind.u64.wrap ((IntKind.u64.wrap a1) * 2 ^ (min ((1 : Int)).toNat IntKind.u64.bits)))))) rfl rfl (by decide) rfl rfl ?_
    refine RegV.p0 rfl rfl rfl ?_
    refine RegV.nil0 ?_
    refine AWc.seqS (N := 117) 0 (fun (z : Int) => [(0, (.d (.int .u64 a0))), (1, (.d (.int .i64 a1))), (2, (.d (.sl (List.map (slE byteD) a2)))), (7, (.d (.int .i64 x13_1))), (9, (.d (.int .u64 z)))]) (fun z => []) (fun z => f4_j57 k a2 a0 x13_1 a1 z = some r) rfl_le ?_ ?_
    · refine AWc.seq ?_
      refine AWc.rg hmix rfl rfl ?_
      refine RegV.p0 rfl rfl rfl ?_
      refine RegV.p0 (v := (.d (.bool (decide (a1 < (0 : Int)))))) rfl rfl rfl ?_
      refine RegV.nil0 ?_
      refine AWc.cond rfl (fun c46 => ?_) (fun c46 => ?_)
      · have h := cond_pos c46 h
        refine AWc.rg hmix rfl rfl ?_
        refine RegV.p0 rfl rfl rfl ?_
        refine RegV.p0 (v := (.d (.int .i64 (IntKind.i64.wrap (a1 + (1 : Int)))))) rfl rfl rfl ?_
        refine RegV.p0 (v := (.d (.int .i64 (IntKind.i64.wrap (0 - (IntKind.i64.wrap (a1 + (1 : Int)))))))) rfl rfl rfl ?_
        refine RegV.p0 (v := (.d (.int .u64 (IntKind.u64.wrap (IntKind.i64.wrap (0 - (IntKind.i64.wrap (a1 + (1 : Int))))))))) rfl rfl rfl ?_
        refine RegV.p1 (v := (.d (.int .u64 (IntKind.u64.wrap ((IntKind.u64.wrap (IntKind.i64.wrap (0 - (IntKind.i64.wrap (a1 + (1 : Int)))))) * 2 ^ (min ((1 : Int)).toNat IntKind.u64.bits)))))) rfl rfl (by decide) rfl rfl ?_
        refine RegV.p0 (v := (.d (.int .u64 (IntKind.u64.wrap ((IntKind.u64.wrap ((IntKind.u64.wrap (IntKind.i64.wrap (0 - (IntKind.i64.wrap (a1 + (1 : Int)))))) * 2 ^ (min ((1 : Int)).toNat IntKind.u64.bits))) + (1 : Int)))))) rfl rfl rfl ?_
        refine RegV.p0 rfl rfl rfl ?_
        refine RegV.nil0 ?_
        exact ⟨(IntKind.u64.wrap ((IntKind.u64.wrap ((IntKind.u64.wrap (IntKind.i64.wrap (0 - (IntKind.i64.wrap (a1 + (1 : Int)))))) * 2 ^ (min ((1 : Int)).toNat IntKind.u64.bits))) + (1 : Int))), h, ⟨rfl, [], [], rfl, rfl, ⟨⟨_, rfl, (.refl _)⟩, rfl, ⟨⟨_, rfl, (.refl _)⟩, rfl, ⟨⟨_, rfl, (.refl _)⟩, rfl, ⟨⟨_, rfl, (.refl _)⟩, rfl, ⟨⟨_, rfl, (.refl _)⟩, rfl, trivial⟩⟩⟩⟩⟩,  trivial⟩⟩
      · have h := cond_neg c46 h
        refine AWc.skip ?_
        exact ⟨(IntKind.u64.wrap ((IntKind.u64.wrap a1) * 2 ^ (min ((1 : Int)).toNat IntKind.u64.bits))), h, ⟨rfl, [], [], rfl, rfl, ⟨⟨_, rfl, (.refl _)⟩, rfl, ⟨⟨_, rfl, (.refl _)⟩, rfl, ⟨⟨_, rfl, (.refl _)⟩, rfl, ⟨⟨_, rfl, (.refl _)⟩, rfl, ⟨⟨_, rfl, (.refl _)⟩, rfl, trivial⟩⟩⟩⟩⟩,  trivial⟩⟩
    · intro j57_1 h
      unfold f4_j57 at h
      refine AWc.seq ?_
      refine AWc.seqS (N := 117) 0 (fun (z : Bool) => [(2, (.d (.sl (List.map (slE byteD) a2)))), (55, (.d (.bool z)))]) (fun z => []) (fun z => f4_j83 k a2 z = some r) rfl_le ?_ ?_
      · refine AWc.rg hmix rfl rfl ?_
        obtain ⟨r61, e61, h⟩ := bind_some h
        refine RegV.call0 (F20 hmix hc.2.1 e61) rfl rfl rfl rfl .nil rfl ?_
        refine RegV.p0 (v := (.d (.bool (!r61)))) rfl rfl rfl ?_
        refine RegV.p0 rfl rfl rfl ?_
        refine RegV.split (fun c63 => ?_) (fun c63 => ?_)
        · have h := cond_pos c63 h
          refine RegV.noS rfl rfl ?_
          refine RegV.noS rfl rfl ?_
          refine RegV.noS rfl rfl ?_
          refine RegV.noS rfl rfl ?_
          refine RegV.noS rfl rfl ?_
          refine RegV.p0 rfl rfl rfl ?_
          refine RegV.p0 rfl rfl rfl ?_
          refine RegV.noS rfl rfl ?_
          refine RegV.noS rfl rfl ?_
          refine RegV.noS rfl rfl ?_
          refine RegV.noS rfl rfl ?_
          refine RegV.noS rfl rfl ?_
          refine RegV.noS rfl rfl ?_
          refine RegV.p0 rfl rfl rfl ?_
          refine RegV.p0 rfl rfl rfl ?_
          refine RegV.noS rfl rfl ?_
          refine RegV.noS rfl rfl ?_
          refine RegV.noS rfl rfl ?_
          refine RegV.p0 rfl rfl rfl ?_
          refine RegV.nil0 ?_
          exact ⟨true, h, ⟨rfl, [], [], rfl, rfl, ⟨⟨_, rfl, (.refl _)⟩, rfl, ⟨⟨_, rfl, (.refl _)⟩, rfl, trivial⟩⟩,  trivial⟩⟩
        · have h := cond_neg c63 h
          refine RegV.p0 rfl rfl rfl ?_
          obtain ⟨r65, e65, h⟩ := bind_some h
          refine RegV.callS (q := false) (H' := [(0, (.tok ((List.map byteD r65).length * 1)))]) (c' := 1) (show ACalls P (N 23) [(.d (.int .u64 a0))] [] (.ap 0 1 (List.map byteD r65)) [(0, (.tok ((List.map byteD r65).length * 1)))] from ACalls.use (F23 hmix hc.2.2.1 e65) [(0, 0)] 1 rfl) rfl rfl rfl rfl (.cons (.refl _) .nil) (.refl _) (fun h => by cases h) rfl hasNil rfl rfl rfl rfl ?_
          refine RegV.len (xs := r65) (e := byteD) rfl rfl rfl rfl ?_
          refine RegV.p0 rfl rfl rfl ?_
          refine RegV.p0 (v := (.d (.bool (decide (((r65.length : Nat) : Int) ≠ x13_1))))) rfl rfl rfl ?_
          refine RegV.p0 rfl rfl rfl ?_
          refine RegV.p0 rfl rfl rfl ?_
          refine RegV.split (fun c70 => ?_) (fun c70 => ?_)
          · have h := cond_pos c70 h
            refine RegV.noS rfl rfl ?_
            refine RegV.noS rfl rfl ?_
            refine RegV.noS rfl rfl ?_
            refine RegV.noS rfl rfl ?_
            refine RegV.noS rfl rfl ?_
            refine RegV.noS rfl rfl ?_
            refine RegV.p0 rfl rfl rfl ?_
            refine RegV.p0 rfl rfl rfl ?_
            refine RegV.noS rfl rfl ?_
            refine RegV.noS rfl rfl ?_
            refine RegV.noS rfl rfl ?_
            refine RegV.p0 rfl rfl rfl ?_
            refine RegV.nil0 ?_
            exact ⟨true, h, ⟨rfl, [], [], rfl, rfl, ⟨⟨_, rfl, (.refl _)⟩, rfl, ⟨⟨_, rfl, (.refl _)⟩, rfl, trivial⟩⟩,  trivial⟩⟩
          · have h := cond_neg c70 h
            refine RegV.p0 rfl rfl rfl ?_
            obtain ⟨r72, e72, h⟩ := bind_some h
            refine RegV.callS (q := false) (H' := [(1, (.tok ((List.map byteD r72).length * 1))), (0, (.tok ((List.map byteD r65).length * 1)))]) (c' := 2) (show ACalls P (N 25) [(.d (.int .i64 a1))] [] (.ap 1 1 (List.map byteD r72)) [(1, (.tok ((List.map byteD r72).length * 1)))] from ACalls.use (F25 hmix hc.2.2.2.1 e72) [(0, 1)] 1 rfl) rfl rfl rfl rfl (.cons (.refl _) .nil) (.refl _) (fun h => by cases h) rfl hasNil rfl rfl rfl rfl ?_
            refine RegV.p0 rfl rfl rfl ?_
            obtain ⟨r74, e74, h⟩ := bind_some h
            refine RegV.callS (q := false) (H' := [(2, (.tok ((List.map byteD r74).length * 1))), (1, (.tok ((List.map byteD r72).length * 1))), (0, (.tok ((List.map byteD r65).length * 1)))]) (c' := 3) (show ACalls P (N 23) [(.d (.int .u64 j57_1))] [] (.ap 2 1 (List.map byteD r74)) [(2, (.tok ((List.map byteD r74).length * 1)))] from ACalls.use (F23 hmix hc.2.2.1 e74) [(0, 2)] 1 rfl) rfl rfl rfl rfl (.cons (.refl _) .nil) (.refl _) (fun h => by cases h) rfl hasNil rfl rfl rfl rfl ?_
            obtain ⟨r75, e75, h⟩ := bind_some h
            refine RegV.call0 (F22 hmix hc.2.2.2.2.1 e75) rfl rfl rfl rfl (.cons (.sl rfl) (.cons (.sl rfl) .nil)) rfl ?_
            refine RegV.p0 (v := (.d (.bool (!(decide (r72 = r74)))))) rfl rfl rfl ?_
            refine RegV.p0 rfl rfl rfl ?_
            refine RegV.p0 rfl rfl rfl ?_
            refine RegV.split (fun c78 => ?_) (fun c78 => ?_)
            · have h := cond_pos c78 h
              refine RegV.noS rfl rfl ?_
              refine RegV.noS rfl rfl ?_
              refine RegV.noS rfl rfl ?_
              refine RegV.p0 rfl rfl rfl ?_
              refine RegV.nil0 ?_
              exact ⟨true, h, ⟨rfl, [], [], rfl, rfl, ⟨⟨_, rfl, (.refl _)⟩, rfl, ⟨⟨_, rfl, (.refl _)⟩, rfl, trivial⟩⟩,  trivial⟩⟩
            · have h := cond_neg c78 h
              refine RegV.p0 rfl rfl rfl ?_
              refine RegV.len (xs := a2) (e := (slE byteD)) rfl rfl rfl rfl ?_
              refine RegV.p0 (v := (.d (.bool (decide (((a2.length : Nat) : Int) > (20 : Int)))))) rfl rfl rfl ?_
              refine RegV.p0 rfl rfl rfl ?_
              refine RegV.nil0 ?_
              exact ⟨(decide (((a2.length : Nat) : Int) > (20 : Int))), h, ⟨rfl, [], [], rfl, rfl, ⟨⟨_, rfl, (.refl _)⟩, rfl, ⟨⟨_, rfl, (.refl _)⟩, rfl, trivial⟩⟩,  trivial⟩⟩
      · intro j83_1 h
        unfold f4_j83 at h
        refine AWc.cond rfl (fun c83 => ?_) (fun c83 => ?_)
        · have h := cond_pos c83 h
          refine AWc.seq ?_
          refine AWc.rg hmix rfl rfl ?_
          obtain ⟨r87, e87, h⟩ := bind_some h
          refine RegV.call0 (F20 hmix hc.2.1 e87) rfl rfl rfl rfl .nil rfl ?_
          refine RegV.p0 rfl rfl rfl ?_
          refine RegV.split (fun c88 => ?_) (fun c88 => ?_)
          · have h := cond_pos c88 h
            refine RegV.p0 rfl rfl rfl ?_
            refine RegV.len (xs := a2) (e := (slE byteD)) rfl rfl rfl rfl ?_
            refine RegV.p0 (v := (.d (.bool (decide (((a2.length : Nat) : Int) > (20 : Int)))))) rfl rfl rfl ?_
            refine RegV.p0 rfl rfl rfl ?_
            refine RegV.p0 rfl rfl rfl ?_
            refine RegV.nil0 ?_
            have hr := Option.some.inj h
            subst hr
            exact AWc.ret (canQ (N := 117) (k := 0) (l' := [(6, (.d (.bool (decide (((a2.length : Nat) : Int) > (20 : Int))))))]) (H' := []) rfl ⟨rfl, [], [], rfl, rfl, ⟨⟨_, rfl, (.refl _)⟩, rfl, trivial⟩,  trivial⟩ (doneA (.inr rfl) rfl ⟨trivial, trivial⟩ (.refl _) hasNil))
          · have h := cond_neg c88 h
            refine RegV.noS rfl rfl ?_
            refine RegV.noS rfl rfl ?_
            refine RegV.noS rfl rfl ?_
            refine RegV.p0 rfl rfl rfl ?_
            refine RegV.p0 rfl rfl rfl ?_
            refine RegV.nil0 ?_
            have hr := Option.some.inj h
            subst hr
            exact AWc.ret (canQ (N := 117) (k := 0) (l' := [(6, (.d (.bool false)))]) (H' := []) rfl ⟨rfl, [], [], rfl, rfl, ⟨⟨_, rfl, (.refl _)⟩, rfl, trivial⟩,  trivial⟩ (doneA (.inr rfl) rfl ⟨trivial, trivial⟩ (.refl _) hasNil))
        · have h := cond_neg c83 h
          refine AWc.skip ?_
          refine AWc.seq ?_
          refine AWc.rg hmix rfl rfl ?_
          refine RegV.p0 rfl rfl rfl ?_
          refine RegV.nil0 ?_
          refine AWc.seqS (N := 117) 1 (fun (z : (List UInt8)) => [(2, (.d (.sl (List.map (slE byteD) a2)))), (10, (.ap 0 1 (List.map byteD z)))]) (fun z => [(0, (.tok ((List.map byteD z).length * 1)))]) (fun z => f4_j184 k a2 z = some r) rfl_le ?_ ?_
          · refine AWc.seq ?_
            refine AWc.rg hmix rfl rfl ?_
            refine RegV.p0 rfl rfl rfl ?_
            refine RegV.nil0 ?_
            obtain ⟨o105, h105, h⟩ := bind_some h
            refine AWc.block ?_
            refine AWc.loopK (N := 117) 1 (fun (x : ((List UInt8) × Int)) => [(2, (.d (.sl (List.map (slE byteD) a2)))), (10, (.ap 0 1 (List.map byteD x.1))), (11, (.d (.int .i64 x.2)))]) (fun x => [(0, (.tok ((List.map byteD x.1).length * 1)))]) (fun k x => f4_l105 a2 k x.1 x.2 = some o105) k (([] : List UInt8), (0 : Int)) rfl_le (fun x hx => by cases hx) h105 ⟨rfl, [.tok 0], [(0, 0)], rfl, rfl, ⟨⟨_, rfl, (.refl _)⟩, rfl, ⟨⟨_, rfl, .nil⟩, rfl, ⟨⟨_, rfl, (.refl _)⟩, rfl, trivial⟩⟩⟩, ⟨⟨_, rfl, (.refl _)⟩, rfl, rfl, trivial⟩⟩ ?_
            clear h105
            intro k
            rintro ⟨y105_1, y105_2⟩ h105
            dsimp only at h105 ⊢
            rw [f4_l105] at h105
            refine AWc.seq ?_
            refine AWc.seq ?_
            refine AWc.rg hmix rfl rfl ?_
            refine RegV.p0 rfl rfl rfl ?_
            refine RegV.p0 rfl rfl rfl ?_
            refine RegV.len (xs := a2) (e := (slE byteD)) rfl rfl rfl rfl ?_
            refine RegV.p0 (v := (.d (.bool (decide (y105_2 < ((a2.length : Nat) : Int)))))) rfl rfl rfl ?_
            refine RegV.nil0 ?_
            refine AWc.cond rfl (fun c115 => ?_) (fun c115 => ?_)
            · have h105 := cond_pos c115 h105
              refine AWc.skip ?_
              refine AWc.seq ?_
              refine AWc.block ?_
              refine AWc.seq ?_
              refine AWc.seq ?_
              refine AWc.rg hmix rfl rfl ?_
              refine RegV.p0 rfl rfl rfl ?_
              refine RegV.p0 rfl rfl rfl ?_
              obtain ⟨b126, h105⟩ := gd_some h105
              refine RegV.iad (xs := a2) (e := (slE byteD)) rfl rfl rfl rfl (fun _ => rfl) b126 rfl ?_
              refine RegV.p0 (v := (.d (.sl (List.map byteD (rd a2 y105_2))))) rfl rfl rfl ?_
              refine RegV.len (xs := (rd a2 y105_2)) (e := byteD) rfl rfl rfl rfl ?_
              refine RegV.p0 (v := (.d (.bool (decide ((((rd a2 y105_2).length : Nat) : Int) > (500 : Int)))))) rfl rfl rfl ?_
              refine RegV.nil0 ?_
              refine AWc.cond rfl (fun c130 => ?_) (fun c130 => ?_)
              · have h105 := cond_pos c130 h105
                refine AWc.seq ?_
                refine AWc.rg hmix rfl rfl ?_
                refine RegV.p0 rfl rfl rfl ?_
                refine RegV.nil0 ?_
                cases h105
                dsimp only at h
                have hr := Option.some.inj h
                subst hr
                exact AWc.ret (canQ (N := 117) (k := 0) (l' := [(6, (.d (.bool true)))]) (H' := []) rfl ⟨rfl, [], [], rfl, rfl, ⟨⟨_, rfl, (.refl _)⟩, rfl, trivial⟩,  trivial⟩ (doneA (.inr rfl) rfl ⟨trivial, trivial⟩ (.refl _) hasNil))
              · have h105 := cond_neg c130 h105
                refine AWc.skip ?_
                refine AWc.seq ?_
                refine AWc.rg hmix rfl rfl ?_
                refine RegV.p0 rfl rfl rfl ?_
                refine RegV.p0 rfl rfl rfl ?_
                obtain ⟨b142, h105⟩ := gd_some h105
                refine RegV.iad (xs := a2) (e := (slE byteD)) rfl rfl rfl rfl (fun _ => rfl) b142 rfl ?_
                refine RegV.p0 (v := (.d (.sl (List.map byteD (rd a2 y105_2))))) rfl rfl rfl ?_
                obtain ⟨r144, e144, h105⟩ := bind_some h105
                refine RegV.callS (q := false) (H' := [(1, (.tok ((List.map byteD r144).length * 1))), (0, (.tok ((List.map byteD y105_1).length * 1)))]) (c' := 2) (show ACalls P (N 27) [(.d (.sl (List.map byteD (rd a2 y105_2))))] [] (.ap 1 1 (List.map byteD r144)) [(1, (.tok ((List.map byteD r144).length * 1)))] from ACalls.use (F27 hmix hc.2.2.2.2.2.1 e144) [(0, 1)] 1 rfl) rfl rfl rfl rfl (.cons (.refl _) .nil) (.refl _) (fun h => by cases h) rfl hasNil rfl rfl rfl rfl ?_
                refine RegV.p0 rfl rfl rfl ?_
                refine RegV.nil0 ?_
                refine AWc.seq ?_
                refine AWc.seq ?_
                refine AWc.rg hmix rfl rfl ?_
                refine RegV.p0 rfl rfl rfl ?_
                refine RegV.len (xs := r144) (e := byteD) rfl rfl rfl rfl ?_
                refine RegV.p0 rfl rfl rfl ?_
                refine RegV.p0 rfl rfl rfl ?_
                obtain ⟨b154, h105⟩ := gd_some h105
                refine RegV.iad (xs := a2) (e := (slE byteD)) rfl rfl rfl rfl (fun _ => rfl) b154 rfl ?_
                refine RegV.p0 (v := (.d (.sl (List.map byteD (rd a2 y105_2))))) rfl rfl rfl ?_
                refine RegV.len (xs := (rd a2 y105_2)) (e := byteD) rfl rfl rfl rfl ?_
                obtain ⟨r157, e157, h105⟩ := bind_some h105
                refine RegV.callS (q := false) (H' := [(2, (.tok ((List.map byteD r157).length * 1))), (1, (.tok ((List.map byteD r144).length * 1))), (0, (.tok ((List.map byteD y105_1).length * 1)))]) (c' := 3) (show ACalls P (N 25) [(.d (.int .i64 (((rd a2 y105_2).length : Nat) : Int)))] [] (.ap 2 1 (List.map byteD r157)) [(2, (.tok ((List.map byteD r157).length * 1)))] from ACalls.use (F25 hmix hc.2.2.2.1 e157) [(0, 2)] 1 rfl) rfl rfl rfl rfl (.cons (.refl _) .nil) (.refl _) (fun h => by cases h) rfl hasNil rfl rfl rfl rfl ?_
                refine RegV.len (xs := r157) (e := byteD) rfl rfl rfl rfl ?_
                refine RegV.p0 rfl rfl rfl ?_
                refine RegV.p0 rfl rfl rfl ?_
                obtain ⟨b161, h105⟩ := gd_some h105
                refine RegV.iad (xs := a2) (e := (slE byteD)) rfl rfl rfl rfl (fun _ => rfl) b161 rfl ?_
                refine RegV.p0 (v := (.d (.sl (List.map byteD (rd a2 y105_2))))) rfl rfl rfl ?_
                refine RegV.len (xs := (rd a2 y105_2)) (e := byteD) rfl rfl rfl rfl ?_
                refine RegV.p0 (v := (.d (.int .i64 (IntKind.i64.wrap (((r157.length : Nat) : Int) + (((rd a2 y105_2).length : Nat) : Int)))))) rfl rfl rfl ?_
                refine RegV.p0 (v := (.d (.bool (decide (((r144.length : Nat) : Int) ≠ (IntKind.i64.wrap (((r157.length : Nat) : Int) + (((rd a2 y105_2).length : Nat) : Int)))))))) rfl rfl rfl ?_
                refine RegV.nil1 (by kernel_rfl) ?_
                refine AWc.cond rfl (fun c166 => ?_) (fun c166 => ?_)
                · have h105 := cond_pos c166 h105
                  refine AWc.seq ?_
                  refine AWc.rg hmix rfl rfl ?_
                  refine RegV.p0 rfl rfl rfl ?_
                  refine RegV.nil0 ?_
                  cases h105
                  dsimp only at h
                  have hr := Option.some.inj h
                  subst hr
                  exact AWc.ret (canQ (N := 117) (k := 0) (l' := [(6, (.d (.bool false)))]) (H' := []) rfl ⟨rfl, [], [], rfl, rfl, ⟨⟨_, rfl, (.refl _)⟩, rfl, trivial⟩,  trivial⟩ (doneA (.inr rfl) rfl ⟨trivial, trivial⟩ (.refl _) hasNil))
                · have h105 := cond_neg c166 h105
                  refine AWc.skip ?_
                  refine AWc.rg hmix rfl rfl ?_
                  refine RegV.p0 rfl rfl rfl ?_
                  refine RegV.p0 rfl rfl rfl ?_
                  obtain ⟨b177, h105⟩ := gd_some h105
                  refine RegV.appA (xs := y105_1) (ys := r144) (e := byteD) (H1 := [(2, (.tok ((List.map byteD r157).length * 1))), (1, (.tok ((List.map byteD r144).length * 1)))]) rfl rfl rfl rfl (fun _ => rfl) rfl rfl b177 rfl rfl rfl ?_
                  refine RegV.p0 rfl rfl rfl ?_
                  refine RegV.nil0 ?_
                  refine AWc.rg hmix rfl rfl ?_
                  refine RegV.p0 rfl rfl rfl ?_
                  refine RegV.p0 (v := (.d (.int .i64 (IntKind.i64.wrap (y105_2 + (1 : Int)))))) rfl rfl rfl ?_
                  refine RegV.p0 rfl rfl rfl ?_
                  refine RegV.nil0 ?_
                  exact ⟨((y105_1 ++ r144), (IntKind.i64.wrap (y105_2 + (1 : Int)))), h105, ⟨rfl, [], [(0, 3)], rfl, rfl, ⟨⟨_, rfl, (.refl _)⟩, rfl, ⟨⟨_, rfl, (.refl _)⟩, rfl, ⟨⟨_, rfl, (.refl _)⟩, rfl, trivial⟩⟩⟩, ⟨⟨_, rfl, (.refl _)⟩, rfl, rfl, trivial⟩⟩⟩
            · have h105 := cond_neg c115 h105
              cases h105
              dsimp only at h
              refine AWc.exit ?_
              refine inBlk_eq ?_
              exact ⟨y105_1, h, ⟨rfl, [], [], rfl, rfl, ⟨⟨_, rfl, (.refl _)⟩, rfl, ⟨⟨_, rfl, (.refl _)⟩, rfl, trivial⟩⟩, ⟨⟨_, rfl, (.refl _)⟩, rfl, rfl, trivial⟩⟩⟩
          · intro j184_1 h
            unfold f4_j184 at h
            refine AWc.seq ?_
            refine AWc.rg hmix rfl rfl ?_
            refine RegV.p0 rfl rfl rfl ?_
            obtain ⟨r188, e188, h⟩ := bind_some h
            refine RegV.callS (q := false) (H' := [(1, (.cells [(.d (.sl (List.map byteD j184_1))), (.d (.int .i64 (0 : Int))), (.d (.int .i64 (0 : Int)))])), (0, (.tok ((List.map byteD j184_1).length * 1)))]) (c' := 2) (show ACalls P (N 30) [(.d (.sl (List.map byteD j184_1)))] [] (.ptr 1 0) [(1, (.cells [(.d (.sl (List.map byteD j184_1))), (.d (.int .i64 (0 : Int))), (.d (.int .i64 (0 : Int)))]))] from ACalls.use (F30 hmix hc.2.2.2.2.2.2.1 e188) [(0, 1)] 1 rfl) rfl rfl rfl rfl (.cons (.sl rfl) .nil) (.refl _) (fun h => by cases h) rfl hasNil rfl rfl rfl rfl ?_
            refine RegV.p0 rfl rfl rfl ?_
            refine RegV.nil0 ?_
            refine AWc.seqS (N := 117) 1 (fun (z : (Int × Int)) => [(13, (.ptr 0 0))]) (fun z => [(0, (.cells [(.d (.sl (List.map byteD j184_1))), (.d (.int .i64 z.1)), (.d (.int .i64 z.2))]))]) (fun z => f4_j233 k j184_1 z.1 z.2 = some r) rfl_le ?_ ?_
            · refine AWc.seq ?_
              refine AWc.rg hmix rfl rfl ?_
              refine RegV.p0 rfl rfl rfl ?_
              refine RegV.nil0 ?_
              obtain ⟨o195, h195, h⟩ := bind_some h
              refine AWc.block ?_
              refine AWc.loopK (N := 117) 1 (fun (x : (Int × Int × Int)) => [(2, (.d (.sl (List.map (slE byteD) a2)))), (13, (.ptr 0 0)), (14, (.d (.int .i64 x.1)))]) (fun x => [(0, (.cells [(.d (.sl (List.map byteD j184_1))), (.d (.int .i64 x.2.1)), (.d (.int .i64 x.2.2))]))]) (fun k x => f4_l195 a2 j184_1 k x.1 x.2.1 x.2.2 = some o195) k ((0 : Int), (0 : Int), (0 : Int)) rfl_le (fun x hx => by cases hx) h195 ⟨rfl, [], [(0, 1)], rfl, rfl, ⟨⟨_, rfl, (.refl _)⟩, rfl, ⟨⟨_, rfl, (.refl _)⟩, rfl, ⟨⟨_, rfl, (.refl _)⟩, rfl, trivial⟩⟩⟩, ⟨⟨_, rfl, (.refl _)⟩, rfl, rfl, trivial⟩⟩ ?_
              clear h195
              intro k
              rintro ⟨y195_1, y195_2, y195_3⟩ h195
              dsimp only at h195 ⊢
              rw [f4_l195] at h195
              refine AWc.seq ?_
              refine AWc.seq ?_
              refine AWc.rg hmix rfl rfl ?_
              refine RegV.p0 rfl rfl rfl ?_
              refine RegV.p0 rfl rfl rfl ?_
              refine RegV.len (xs := a2) (e := (slE byteD)) rfl rfl rfl rfl ?_
              refine RegV.p0 (v := (.d (.bool (decide (y195_1 < ((a2.length : Nat) : Int)))))) rfl rfl rfl ?_
              refine RegV.nil0 ?_
              refine AWc.cond rfl (fun c205 => ?_) (fun c205 => ?_)
              · have h195 := cond_pos c205 h195
                refine AWc.skip ?_
                refine AWc.seq ?_
                refine AWc.block ?_
                refine AWc.seq ?_
                refine AWc.rg hmix rfl rfl ?_
                refine RegV.p0 rfl rfl rfl ?_
                obtain ⟨r214, e214, h195⟩ := bind_some h195
                refine RegV.callS (q := false) (H' := [(1, (.tok ((List.map byteD r214.1).length * 1))), (0, (.cells [(.d (.sl (List.map byteD j184_1))), (.d (.int .i64 r214.2.1)), (.d (.int .i64 r214.2.2))]))]) (c' := 2) (show ACalls P (N 31) [(.ptr 0 0), (.d (.int .i64 (500 : Int)))] [(0, (.cells [(.d (.sl (List.map byteD j184_1))), (.d (.int .i64 y195_2)), (.d (.int .i64 y195_3))]))] (.ap 1 1 (List.map byteD r214.1)) [(1, (.tok ((List.map byteD r214.1).length * 1))), (0, (.cells [(.d (.sl (List.map byteD j184_1))), (.d (.int .i64 r214.2.1)), (.d (.int .i64 r214.2.2))]))] from ACalls.use (F31 hmix hc.2.2.2.2.2.2.2.1 e214) [(0, 0), (1, 1)] 2 rfl) rfl rfl rfl rfl (.cons (.refl _) (.cons (.refl _) .nil)) (.refl _) (fun h => by cases h) rfl (hasCons rfl hasNil) rfl rfl rfl rfl ?_
                refine RegV.p0 rfl rfl rfl ?_
                refine RegV.p0 rfl rfl rfl ?_
                obtain ⟨b217, h195⟩ := gd_some h195
                refine RegV.iad (xs := a2) (e := (slE byteD)) rfl rfl rfl rfl (fun _ => rfl) b217 rfl ?_
                refine RegV.p0 (v := (.d (.sl (List.map byteD (rd a2 y195_1))))) rfl rfl rfl ?_
                obtain ⟨r219, e219, h195⟩ := bind_some h195
                refine RegV.call0 (F22 hmix hc.2.2.2.2.1 e219) rfl rfl rfl rfl (.cons (.sl rfl) (.cons (.refl _) .nil)) rfl ?_
                refine RegV.p0 (v := (.d (.bool (!(decide (r214.1 = (rd a2 y195_1))))))) rfl rfl rfl ?_
                refine RegV.nil1 (by kernel_rfl) ?_
                refine AWc.cond rfl (fun c221 => ?_) (fun c221 => ?_)
                · have h195 := cond_pos c221 h195
                  refine AWc.seq ?_
                  refine AWc.rg hmix rfl rfl ?_
                  refine RegV.p0 rfl rfl rfl ?_
                  refine RegV.nil0 ?_
                  cases h195
                  dsimp only at h
                  have hr := Option.some.inj h
                  subst hr
                  exact AWc.ret (canQ (N := 117) (k := 0) (l' := [(6, (.d (.bool false)))]) (H' := []) rfl ⟨rfl, [], [], rfl, rfl, ⟨⟨_, rfl, (.refl _)⟩, rfl, trivial⟩,  trivial⟩ (doneA (.inr rfl) rfl ⟨trivial, trivial⟩ (.refl _) hasNil))
                · have h195 := cond_neg c221 h195
                  refine AWc.skip ?_
                  refine AWc.rg hmix rfl rfl ?_
                  refine RegV.p0 rfl rfl rfl ?_
                  refine RegV.p0 (v := (.d (.int .i64 (IntKind.i64.wrap (y195_1 + (1 : Int)))))) rfl rfl rfl ?_
                  refine RegV.p0 rfl rfl rfl ?_
                  refine RegV.nil0 ?_
                  exact ⟨((IntKind.i64.wrap (y195_1 + (1 : Int))), r214.2.1, r214.2.2), h195, ⟨rfl, [], [], rfl, rfl, ⟨⟨_, rfl, (.refl _)⟩, rfl, ⟨⟨_, rfl, (.refl _)⟩, rfl, ⟨⟨_, rfl, (.refl _)⟩, rfl, trivial⟩⟩⟩, ⟨⟨_, rfl, (.refl _)⟩, rfl, rfl, trivial⟩⟩⟩
              · have h195 := cond_neg c205 h195
                cases h195
                dsimp only at h
                refine AWc.exit ?_
                refine inBlk_eq ?_
                exact ⟨(y195_2, y195_3), h, ⟨rfl, [], [], rfl, rfl, ⟨⟨_, rfl, (.refl _)⟩, rfl, trivial⟩, ⟨⟨_, rfl, (.refl _)⟩, rfl, rfl, trivial⟩⟩⟩
            · rintro ⟨j233_1, j233_2⟩ h
              dsimp only at h ⊢
              unfold f4_j233 at h
              refine AWc.seq ?_
              refine AWc.rg hmix rfl rfl ?_
              refine RegV.p0 rfl rfl rfl ?_
              obtain ⟨r237, e237, h⟩ := bind_some h
              refine RegV.callS (q := true) (H' := [(0, (.cells [(.d (.sl (List.map byteD j184_1))), (.d (.int .i64 j233_1)), (.d (.int .i64 j233_2))]))]) (c' := 1) (show ACalls P (N 32) [(.ptr 0 0)] [(0, (.cells [(.d (.sl (List.map byteD j184_1))), (.d (.int .i64 j233_1)), (.d (.int .i64 j233_2))]))] (.d (.int .i64 (IntKind.i64.wrap (((j184_1.length : Nat) : Int) - j233_1)))) [(0, (.cells [(.d (.sl (List.map byteD j184_1))), (.d (.int .i64 j233_1)), (.d (.int .i64 j233_2))]))] from ACalls.use (F32 hmix hc.2.2.2.2.2.2.2.2 e237) [(0, 0)] 1 rfl) rfl rfl rfl rfl (.cons (.refl _) .nil) (.refl _) (fun _ => rfl) rfl (hasCons rfl hasNil) rfl rfl rfl rfl ?_
              refine RegV.p0 (v := (.d (.bool (decide ((IntKind.i64.wrap (((j184_1.length : Nat) : Int) - j233_1)) = (0 : Int)))))) rfl rfl rfl ?_
              refine RegV.p0 rfl rfl rfl ?_
              refine RegV.nil0 ?_
              have hr := Option.some.inj h
              subst hr
              exact AWc.ret (canQ (N := 117) (k := 0) (l' := [(6, (.d (.bool (decide ((IntKind.i64.wrap (((j184_1.length : Nat) : Int) - j233_1)) = (0 : Int))))))]) (H' := []) rfl ⟨rfl, [], [], rfl, rfl, ⟨⟨_, rfl, (.refl _)⟩, rfl, trivial⟩,  trivial⟩ (doneA (.inr rfl) rfl ⟨trivial, trivial⟩ (.refl _) hasNil))
/-- (*courant/code.Reader).Err -/
def C42 (N : Nat → Nat) : AFunc := { n := 9, params := 1, res := [.tmp 2], body :=
 (.seq (.region false [⟨(some 2), .mv (.k (.d (.int .i64 0))), none, []⟩])
  (.seq (.seq (.region false [⟨(some 3), .mv (.t 0), none, []⟩,
     ⟨(some 4), .nileq 1 false (.t 3) (.k (.d .nilp)), none, [0]⟩])
    (.cond (.t 4) (.seq (.region false [⟨(some 2), .mv (.k (.d (.int .i64 2))), none, []⟩])
      .ret)
     (.skip)))
   (.seq (.region false [⟨(some 5), .mv (.t 0), none, []⟩,
     ⟨(some 6), .nilchk (.t 5), none, [0]⟩,
     ⟨(some 7), .faddr (.t 6) 2, none, [1]⟩,
     ⟨(some 8), .load (.t 7) 1 false, none, [2]⟩,
     ⟨(some 2), .mv (.t 8), none, [3, 0, 1, 2]⟩])
    .ret))) }
def HC42 (P : Program) (N : Nat → Nat) : Prop := HasF P (N 42) (C42 N)
def f42 (k : Nat) (a0 : (List UInt8)) (a1 : Int) (a2 : Int) : Option Unit := some ()
theorem F42 {P : Program} {N : Nat → Nat} (hmix : P.follows .mixedOrders = true) (hc : HC42 P N) {k : Nat} {a0 : (List UInt8)} {a1 : Int} {a2 : Int} {r : Unit} (h : f42 k a0 a1 a2 = some r) :
    ACalls P (N 42) [(.ptr 0 0)] [(0, (.cells [(.d (.sl (List.map byteD a0))), (.d (.int .i64 a1)), (.d (.int .i64 a2))]))] (.d (.int .i64 a2)) [(0, (.cells [(.d (.sl (List.map byteD a0))), (.d (.int .i64 a1)), (.d (.int .i64 a2))]))] := by
  refine acalls_canon (F := C42 N) hc 1 1 rfl ?_
  unfold f42 at h
  dsimp only [C42, startL]
  refine AWc.seq ?_
  refine AWc.rg hmix rfl rfl ?_
  refine RegV.p0 rfl rfl rfl ?_
  refine RegV.nil0 ?_
  refine AWc.seq ?_
  refine AWc.seq ?_
  refine AWc.rg hmix rfl rfl ?_
  refine RegV.p0 rfl rfl rfl ?_
  refine RegV.p0 (v := (.d (.bool false))) rfl rfl rfl ?_
  refine RegV.nil0 ?_
  refine AWc.cond rfl (fun hc => by cases hc) (fun _ => ?_)
  refine AWc.skip ?_
  refine AWc.seq ?_
  refine AWc.rg hmix rfl rfl ?_
  refine RegV.p0 rfl rfl rfl ?_
  refine RegV.p0 rfl rfl rfl ?_
  refine RegV.p0 (v := (.ptr 0 2)) rfl rfl rfl ?_
  refine RegV.ld (v := (.d (.int .i64 a2))) (H' := [(0, (.cells [(.d (.sl (List.map byteD a0))), (.d (.int .i64 a1)), (.d (.int .i64 a2))]))]) rfl rfl trivial rfl rfl rfl rfl rfl ?_
  refine RegV.p0 rfl rfl rfl ?_
  refine RegV.nil0 ?_
  have hr := Option.some.inj h
  subst hr
  exact AWc.ret (canQ (N := 9) (k := 1) (l' := [(2, (.d (.int .i64 a2)))]) (H' := [(0, (.cells [(.d (.sl (List.map byteD a0))), (.d (.int .i64 a1)), (.d (.int .i64 a2))]))]) rfl ⟨rfl, [], [], rfl, rfl, ⟨⟨_, rfl, (.refl _)⟩, rfl, trivial⟩, ⟨⟨_, rfl, (.refl _)⟩, rfl, rfl, trivial⟩⟩ (doneA (.inr rfl) rfl ⟨trivial, trivial⟩ (.refl _) (hasCons rfl hasNil)))
/-- (*courant/code.Reader).End -/
def C43 (N : Nat → Nat) : AFunc := { n := 12, params := 1, res := [.tmp 2], body :=
 (.seq (.region false [⟨(some 2), .mv (.k (.d (.int .i64 0))), none, []⟩])
  (.seq (.seq (.region false [⟨(some 4), .mv (.t 0), none, []⟩,
     ⟨(some 5), .call (.k (.d (.fn (N 42)))) [(.t 4)], none, [0]⟩,
     ⟨(some 3), .mv (.t 5), none, [1, 0]⟩])
    (.seq (.region false [⟨(some 6), .mv (.t 3), none, []⟩,
      ⟨(some 7), .bin .neq (.t 6) (.k (.d (.int .i64 0))), none, [0]⟩])
     (.cond (.t 7) (.seq (.region false [⟨(some 8), .mv (.t 3), none, []⟩,
        ⟨(some 2), .mv (.t 8), none, [0]⟩])
       .ret)
      (.skip))))
   (.seq (.seq (.region false [⟨(some 9), .mv (.t 0), none, []⟩,
      ⟨(some 10), .call (.k (.d (.fn (N 32)))) [(.t 9)], none, [0]⟩,
      ⟨(some 11), .bin .gtr (.t 10) (.k (.d (.int .i64 0))), none, [1]⟩])
     (.cond (.t 11) (.seq (.region false [⟨(some 2), .mv (.k (.d (.int .i64 4))), none, []⟩])
       .ret)
      (.skip)))
    (.seq (.region false [⟨(some 2), .mv (.k (.d (.int .i64 0))), none, []⟩])
     .ret)))) }
def HC43 (P : Program) (N : Nat → Nat) : Prop := HasF P (N 43) (C43 N) ∧ HC42 P N ∧ HC32 P N
def f43 (k : Nat) (a0 : (List UInt8)) (a1 : Int) (a2 : Int) : Option Int := (f42 k a0 a1 a2).bind fun r10 => cond (decide (a2 ≠ (0 : Int))) (some a2) ((f32 k a0 a1 a2).bind fun r30 => cond (decide ((IntKind.i64.wrap (((a0.length : Nat) : Int) - a1)) > (0 : Int))) (some (4 : Int)) (some (0 : Int)))
theorem F43 {P : Program} {N : Nat → Nat} (hmix : P.follows .mixedOrders = true) (hc : HC43 P N) {k : Nat} {a0 : (List UInt8)} {a1 : Int} {a2 : Int} {r : Int} (h : f43 k a0 a1 a2 = some r) :
    ACalls P (N 43) [(.ptr 0 0)] [(0, (.cells [(.d (.sl (List.map byteD a0))), (.d (.int .i64 a1)), (.d (.int .i64 a2))]))] (.d (.int .i64 r)) [(0, (.cells [(.d (.sl (List.map byteD a0))), (.d (.int .i64 a1)), (.d (.int .i64 a2))]))] := by
  refine acalls_canon (F := C43 N) hc.1 1 1 rfl ?_
  unfold f43 at h
  dsimp only [C43, startL]
  refine AWc.seq ?_
  refine AWc.rg hmix rfl rfl ?_
  refine RegV.p0 rfl rfl rfl ?_
  refine RegV.nil0 ?_
  refine AWc.seq ?_
  refine AWc.seq ?_
  refine AWc.rg hmix rfl rfl ?_
  refine RegV.p0 rfl rfl rfl ?_
  obtain ⟨r10, e10, h⟩ := bind_some h
  refine RegV.callS (q := true) (H' := [(0, (.cells [(.d (.sl (List.map byteD a0))), (.d (.int .i64 a1)), (.d (.int .i64 a2))]))]) (c' := 1) (show ACalls P (N 42) [(.ptr 0 0)] [(0, (.cells [(.d (.sl (List.map byteD a0))), (.d (.int .i64 a1)), (.d (.int .i64 a2))]))] (.d (.int .i64 a2)) [(0, (.cells [(.d (.sl (List.map byteD a0))), (.d (.int .i64 a1)), (.d (.int .i64 a2))]))] from ACalls.use (F42 hmix hc.2.1 e10) [(0, 0)] 1 rfl) rfl rfl rfl rfl (.cons (.refl _) .nil) (.refl _) (fun _ => rfl) rfl (hasCons rfl hasNil) rfl rfl rfl rfl ?_
  refine RegV.p0 rfl rfl rfl ?_
  refine RegV.nil0 ?_
  refine AWc.seq ?_
  refine AWc.rg hmix rfl rfl ?_
  refine RegV.p0 rfl rfl rfl ?_
  refine RegV.p0 (v := (.d (.bool (decide (a2 ≠ (0 : Int)))))) rfl rfl rfl ?_
  refine RegV.nil0 ?_
  refine AWc.cond rfl (fun c17 => ?_) (fun c17 => ?_)
  · have h := cond_pos c17 h
    refine AWc.seq ?_
    refine AWc.rg hmix rfl rfl ?_
    refine RegV.p0 rfl rfl rfl ?_
    refine RegV.p0 rfl rfl rfl ?_
    refine RegV.nil0 ?_
    have hr := Option.some.inj h
    subst hr
    exact AWc.ret (canQ (N := 12) (k := 1) (l' := [(2, (.d (.int .i64 a2)))]) (H' := [(0, (.cells [(.d (.sl (List.map byteD a0))), (.d (.int .i64 a1)), (.d (.int .i64 a2))]))]) rfl ⟨rfl, [], [], rfl, rfl, ⟨⟨_, rfl, (.refl _)⟩, rfl, trivial⟩, ⟨⟨_, rfl, (.refl _)⟩, rfl, rfl, trivial⟩⟩ (doneA (.inr rfl) rfl ⟨trivial, trivial⟩ (.refl _) (hasCons rfl hasNil)))
  · have h := cond_neg c17 h
    refine AWc.skip ?_
    refine AWc.seq ?_
    refine AWc.seq ?_
    refine AWc.rg hmix rfl rfl ?_
    refine RegV.p0 rfl rfl rfl ?_
    obtain ⟨r30, e30, h⟩ := bind_some h
    refine RegV.callS (q := true) (H' := [(0, (.cells [(.d (.sl (List.map byteD a0))), (.d (.int .i64 a1)), (.d (.int .i64 a2))]))]) (c' := 1) (show ACalls P (N 32) [(.ptr 0 0)] [(0, (.cells [(.d (.sl (List.map byteD a0))), (.d (.int .i64 a1)), (.d (.int .i64 a2))]))] (.d (.int .i64 (IntKind.i64.wrap (((a0.length : Nat) : Int) - a1)))) [(0, (.cells [(.d (.sl (List.map byteD a0))), (.d (.int .i64 a1)), (.d (.int .i64 a2))]))] from ACalls.use (F32 hmix hc.2.2 e30) [(0, 0)] 1 rfl) rfl rfl rfl rfl (.cons (.refl _) .nil) (.refl _) (fun _ => rfl) rfl (hasCons rfl hasNil) rfl rfl rfl rfl ?_
    refine RegV.p0 (v := (.d (.bool (decide ((IntKind.i64.wrap (((a0.length : Nat) : Int) - a1)) > (0 : Int)))))) rfl rfl rfl ?_
    refine RegV.nil0 ?_
    refine AWc.cond rfl (fun c32 => ?_) (fun c32 => ?_)
    · have h := cond_pos c32 h
      refine AWc.seq ?_
      refine AWc.rg hmix rfl rfl ?_
      refine RegV.p0 rfl rfl rfl ?_
      refine RegV.nil0 ?_
      have hr := Option.some.inj h
      subst hr
      exact AWc.ret (canQ (N := 12) (k := 1) (l' := [(2, (.d (.int .i64 (4 : Int))))]) (H' := [(0, (.cells [(.d (.sl (List.map byteD a0))), (.d (.int .i64 a1)), (.d (.int .i64 a2))]))]) rfl ⟨rfl, [], [], rfl, rfl, ⟨⟨_, rfl, (.refl _)⟩, rfl, trivial⟩, ⟨⟨_, rfl, (.refl _)⟩, rfl, rfl, trivial⟩⟩ (doneA (.inr rfl) rfl ⟨trivial, trivial⟩ (.refl _) (hasCons rfl hasNil)))
    · have h := cond_neg c32 h
      refine AWc.skip ?_
      refine AWc.seq ?_
      refine AWc.rg hmix rfl rfl ?_
      refine RegV.p0 rfl rfl rfl ?_
      refine RegV.nil0 ?_
      have hr := Option.some.inj h
      subst hr
      exact AWc.ret (canQ (N := 12) (k := 1) (l' := [(2, (.d (.int .i64 (0 : Int))))]) (H' := [(0, (.cells [(.d (.sl (List.map byteD a0))), (.d (.int .i64 a1)), (.d (.int .i64 a2))]))]) rfl ⟨rfl, [], [], rfl, rfl, ⟨⟨_, rfl, (.refl _)⟩, rfl, trivial⟩, ⟨⟨_, rfl, (.refl _)⟩, rfl, rfl, trivial⟩⟩ (doneA (.inr rfl) rfl ⟨trivial, trivial⟩ (.refl _) (hasCons rfl hasNil)))
end Go.Proofs.Abs
