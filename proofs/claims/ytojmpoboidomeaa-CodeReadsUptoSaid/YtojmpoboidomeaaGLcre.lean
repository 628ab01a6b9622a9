/- Written by gen.py: functions of the program as Lean functions, and that the code comes to them. -/
import Derived.Test.YtojmpoboidomeaaAbsxd
set_option linter.unusedVariables false
set_option linter.unusedSimpArgs false
set_option maxRecDepth 100000
set_option maxHeartbeats 4000000
namespace Go.Proofs.Abs
open Go
structure Tcourantlaw01_Op where
  fKind : Int
  fN : Int
instance : Inhabited Tcourantlaw01_Op := ⟨⟨default, default⟩⟩
instance : DecidableEq Tcourantlaw01_Op := fun a b => decidable_of_iff (a.fKind = b.fKind ∧ a.fN = b.fN ∧ True) ⟨fun h => by cases a; cases b; simp_all, fun h => by subst h; simp⟩
def Tcourantlaw01_Op.enc (x : Tcourantlaw01_Op) : D := .agg [.int .i64 x.fKind, .int .i64 x.fN]
theorem Tcourantlaw01_Op.ok : EncOK Tcourantlaw01_Op.enc 2 true := ⟨fun _ => rfl, fun _ c hc => by simp only [Tcourantlaw01_Op.enc, D.cells, List.mem_cons, List.not_mem_nil, or_false] at hc; rcases hc with rfl | rfl <;> rfl, fun _ => rfl⟩
def Tcourantlaw01_Op.wf (x : Tcourantlaw01_Op) : Prop := (-9223372036854775808 ≤ x.fKind ∧ x.fKind ≤ 9223372036854775807) ∧ (-9223372036854775808 ≤ x.fN ∧ x.fN ≤ 9223372036854775807) ∧ True
def Tcourantlaw01_Op.sz (x : Tcourantlaw01_Op) : Nat := (1 + (1 + 0)) + 1
/-- courant/code.fold -/
def C82 (N : Nat → Nat) : AFunc := { n := 10, params := 1, res := [.tmp 2], body :=
 (.seq (.region false [⟨(some 2), .mv (.k (.d (.int .u64 0))), none, []⟩])
  (.seq (.region false [⟨(some 3), .mv (.t 0), none, []⟩,
    ⟨(some 4), .cvi .u64 (.t 3), none, [0]⟩,
    ⟨(some 5), .bin .shl (.t 4) (.k (.d (.int .u64 1))), none, [1]⟩,
    ⟨(some 6), .mv (.t 0), none, []⟩,
    ⟨(some 7), .bin .shr (.t 6) (.k (.d (.int .u64 63))), none, [3]⟩,
    ⟨(some 8), .cvi .u64 (.t 7), none, [4]⟩,
    ⟨(some 9), .bin .xor (.t 5) (.t 8), none, [2, 5]⟩,
    ⟨(some 2), .mv (.t 9), none, [6, 0, 1, 2, 3, 4, 5]⟩])
   .ret)) }
def HC82 (P : Program) (N : Nat → Nat) : Prop := HasF P (N 82) (C82 N)
def f82 (k : Nat) (a0 : Int) : Option Unit := some ()
theorem F82 {P : Program} {N : Nat → Nat} (hmix : P.follows .mixedOrders = true) (hc : HC82 P N) {k : Nat} {a0 : Int} {r : Unit} (h : f82 k a0 = some r) :
    ACalls P (N 82) [(.d (.int .i64 a0))] [] (.d (.int .u64 (bitsA .xor .u64 (IntKind.u64.wrap ((IntKind.u64.wrap a0) * 2 ^ (min ((1 : Int)).toNat IntKind.u64.bits))) (IntKind.u64.wrap (Int.fdiv a0 (2 ^ (min ((63 : Int)).toNat IntKind.i64.bits))))))) [] := by
  refine acalls_canon (F := C82 N) hc 0 0 rfl ?_
  unfold f82 at h
  dsimp only [C82, startL]
  refine AWc.seq ?_
  refine AWc.rg hmix rfl rfl ?_
  refine RegV.p0 rfl rfl rfl ?_
  refine RegV.nil0 ?_
  refine AWc.seq ?_
  refine AWc.rg hmix rfl rfl ?_
  refine RegV.p0 rfl rfl rfl ?_
  refine RegV.p0 (v := (.d (.int .u64 (IntKind.u64.wrap a0)))) rfl rfl rfl ?_
  refine RegV.p1 (v := (.d (.int .u64 (IntKind.u64.wrap ((IntKind.u64.wrap a0) * 2 ^ (min ((1 : Int)).toNat IntKind.u64.bits)))))) rfl rfl (by decide) rfl rfl ?_
  refine RegV.p0 rfl rfl rfl ?_
  refine RegV.p1 (v := (.d (.int .i64 (Int.fdiv a0 (2 ^ (min ((63 : Int)).toNat IntKind.i64.bits)))))) rfl rfl (by decide) rfl rfl ?_
  refine RegV.p0 (v := (.d (.int .u64 (IntKind.u64.wrap (Int.fdiv a0 (2 ^ (min ((63 : Int)).toNat IntKind.i64.bits))))))) rfl rfl rfl ?_
  refine RegV.p0 (v := (.d (.int .u64 (bitsA .xor .u64 (IntKind.u64.wrap ((IntKind.u64.wrap a0) * 2 ^ (min ((1 : Int)).toNat IntKind.u64.bits))) (IntKind.u64.wrap (Int.fdiv a0 (2 ^ (min ((63 : Int)).toNat IntKind.i64.bits)))))))) rfl rfl rfl ?_
  refine RegV.p0 rfl rfl rfl ?_
  refine RegV.nil0 ?_
  have hr := Option.some.inj h
  subst hr
  exact AWc.ret (canQ (N := 10) (k := 0) (l' := [(2, (.d (.int .u64 (bitsA .xor .u64 (IntKind.u64.wrap ((IntKind.u64.wrap a0) * 2 ^ (min ((1 : Int)).toNat IntKind.u64.bits))) (IntKind.u64.wrap (Int.fdiv a0 (2 ^ (min ((63 : Int)).toNat IntKind.i64.bits))))))))]) (H' := []) rfl ⟨rfl, [], [], rfl, rfl, ⟨⟨_, rfl, (.refl _)⟩, rfl, trivial⟩,  trivial⟩ (doneA (.inr rfl) rfl ⟨trivial, trivial⟩ (.refl _) hasNil))
/-- courant/code.Num -/
def C23 (N : Nat → Nat) : AFunc := { n := 19, params := 1, res := [.tmp 2], body :=
 (.seq (.region false [⟨(some 2), .mv (.k .nils), none, []⟩])
  (.seq (.region false [⟨(some 3), .mv (.k .nils), none, []⟩])
   (.seq (.block 0 (.loop (.seq (.seq (.region false [⟨(some 4), .mv (.t 0), none, []⟩,
         ⟨(some 5), .bin .geq (.t 4) (.k (.d (.int .u64 128))), none, [0]⟩])
        (.cond (.t 5) (.skip)
         (.exit 0)))
       (.seq (.block 1 (.region false [⟨(some 8), .mv (.t 3), none, []⟩,
          ⟨(some 9), .mv (.t 0), none, []⟩,
          ⟨(some 10), .cvi .u8 (.t 9), none, [1]⟩,
          ⟨(some 11), .bin .or (.t 10) (.k (.d (.int .u8 128))), none, [2]⟩,
          ⟨(some 12), .bslice 1 1 [(.int .u8 0)] [(0, (.t 11))], none, [3]⟩,
          ⟨(some 13), .app (.t 8) (.t 12) 1 1 [(.int .u8 0)], none, [0, 4]⟩,
          ⟨(some 3), .mv (.t 13), none, [5, 0, 1, 2, 3, 4]⟩]))
        (.region false [⟨(some 6), .mv (.t 0), none, []⟩,
         ⟨(some 7), .bin .shr (.t 6) (.k (.d (.int .u64 7))), none, [0]⟩,
         ⟨(some 0), .mv (.t 7), none, [1, 0]⟩])))))
    (.seq (.region false [⟨(some 14), .mv (.t 3), none, []⟩,
      ⟨(some 15), .mv (.t 0), none, []⟩,
      ⟨(some 16), .cvi .u8 (.t 15), none, [1]⟩,
      ⟨(some 17), .bslice 1 1 [(.int .u8 0)] [(0, (.t 16))], none, [2]⟩,
      ⟨(some 18), .app (.t 14) (.t 17) 1 1 [(.int .u8 0)], none, [0, 3]⟩,
      ⟨(some 2), .mv (.t 18), none, [4, 0, 1, 2, 3]⟩])
     .ret)))) }
def HC23 (P : Program) (N : Nat → Nat) : Prop := HasF P (N 23) (C23 N)
def f23_l10 : Nat → Int → (List UInt8) → Option (LR2 (Int × (List UInt8)) Unit (List UInt8))
  | 0, _, _ => none
  | k + 1, y10_1, y10_2 => cond (decide (y10_1 ≥ (128 : Int))) (gd ((y10_2.length + ([(u8 (bitsA .or .u8 (IntKind.u8.wrap y10_1) (128 : Int)))] : List UInt8).length) * 2 * 1 ≤ 281474976710656) (f23_l10 k (Int.fdiv y10_1 (2 ^ (min ((7 : Int)).toNat IntKind.u64.bits))) (y10_2 ++ ([(u8 (bitsA .or .u8 (IntKind.u8.wrap y10_1) (128 : Int)))] : List UInt8)))) (some (.b0 (y10_1, y10_2)))
def f23 (k : Nat) (a0 : Int) : Option (List UInt8) := (f23_l10 k a0 ([] : List UInt8)).bind fun o10 => match o10 with | .b0 (x10_1, x10_2) => gd ((x10_2.length + ([(u8 (IntKind.u8.wrap x10_1))] : List UInt8).length) * 2 * 1 ≤ 281474976710656) (some (x10_2 ++ ([(u8 (IntKind.u8.wrap x10_1))] : List UInt8))) | _ => none
theorem F23 {P : Program} {N : Nat → Nat} (hmix : P.follows .mixedOrders = true) (hc : HC23 P N) {k : Nat} {a0 : Int} {r : (List UInt8)} (h : f23 k a0 = some r) :
    ACalls P (N 23) [(.d (.int .u64 a0))] [] (.ap 0 1 (List.map byteD r)) [(0, (.tok ((List.map byteD r).length * 1)))] := by
  refine acalls_canon (F := C23 N) hc 0 1 rfl ?_
  unfold f23 at h
  dsimp only [C23, startL]
  refine AWc.seq ?_
  refine AWc.rg hmix rfl rfl ?_
  refine RegV.p0 rfl rfl rfl ?_
  refine RegV.nil0 ?_
  refine AWc.seq ?_
  refine AWc.rg hmix rfl rfl ?_
  refine RegV.p0 rfl rfl rfl ?_
  refine RegV.nil0 ?_
  obtain ⟨o10, h10, h⟩ := bind_some h
  refine AWc.seqS (N := 19) 1 (fun (z : (Int × (List UInt8))) => [(0, (.d (.int .u64 z.1))), (3, (.ap 0 1 (List.map byteD z.2)))]) (fun z => [(0, (.tok ((List.map byteD z.2).length * 1)))]) (fun z => o10 = .b0 z) rfl_le ?_ ?_
  · refine AWc.block ?_
    refine AWc.loopK (N := 19) 1 (fun (x : (Int × (List UInt8))) => [(0, (.d (.int .u64 x.1))), (3, (.ap 0 1 (List.map byteD x.2)))]) (fun x => [(0, (.tok ((List.map byteD x.2).length * 1)))]) (fun k x => f23_l10 k x.1 x.2 = some o10) k (a0, ([] : List UInt8)) rfl_le (fun x hx => by cases hx) h10 ⟨rfl, [.tok 0], [(0, 0)], rfl, rfl, ⟨⟨_, rfl, (.refl _)⟩, rfl, ⟨⟨_, rfl, .nil⟩, rfl, trivial⟩⟩, ⟨⟨_, rfl, (.refl _)⟩, rfl, rfl, trivial⟩⟩ ?_
    clear h10
    intro k
    rintro ⟨y10_1, y10_2⟩ h10
    dsimp only at h10 ⊢
    rw [f23_l10] at h10
    refine AWc.seq ?_
    refine AWc.seq ?_
    refine AWc.rg hmix rfl rfl ?_
    refine RegV.p0 rfl rfl rfl ?_
    refine RegV.p0 (v := (.d (.bool (decide (y10_1 ≥ (128 : Int)))))) rfl rfl rfl ?_
    refine RegV.nil0 ?_
    refine AWc.cond rfl (fun c18 => ?_) (fun c18 => ?_)
    · have h10 := cond_pos c18 h10
      refine AWc.skip ?_
      refine AWc.seq ?_
      refine AWc.block ?_
      refine AWc.rg hmix rfl rfl ?_
      refine RegV.p0 rfl rfl rfl ?_
      refine RegV.p0 rfl rfl rfl ?_
      refine RegV.p0 (v := (.d (.int .u8 (IntKind.u8.wrap y10_1)))) rfl rfl rfl ?_
      refine RegV.p0 (v := (.d (.int .u8 (bitsA .or .u8 (IntKind.u8.wrap y10_1) (128 : Int))))) rfl rfl rfl ?_
      refine RegV.p1 (v := .d (.sl [(.int .u8 (bitsA .or .u8 (IntKind.u8.wrap y10_1) (128 : Int)))])) (v' := (.d (.sl (List.map byteD ([(u8 (bitsA .or .u8 (IntKind.u8.wrap y10_1) (128 : Int)))] : List UInt8))))) (s := ([(.int .u8 0)] : List D).length = 1 ∧ 1 * 1 ≤ 16777216 ∧ ∀ d ∈ ([(.int .u8 (bitsA .or .u8 (IntKind.u8.wrap y10_1) (128 : Int)))] : List D), d.cells.length = 1) rfl rfl ⟨rfl, Nat.le_of_ble_eq_true rfl, by simp [D.cells]⟩ rfl (by simp only [List.map_cons, List.map_nil, byteD, ← u8_eq (u8_wrap _), ← u8_eq (u8_bits _ _ _)]) ?_
      obtain ⟨b30, h10⟩ := gd_some h10
      refine RegV.appA (xs := y10_2) (ys := ([(u8 (bitsA .or .u8 (IntKind.u8.wrap y10_1) (128 : Int)))] : List UInt8)) (e := byteD) (H1 := []) rfl rfl rfl rfl (fun _ => rfl) rfl rfl b30 rfl rfl rfl ?_
      refine RegV.p0 rfl rfl rfl ?_
      refine RegV.nil0 ?_
      refine AWc.rg hmix rfl rfl ?_
      refine RegV.p0 rfl rfl rfl ?_
      refine RegV.p1 (v := (.d (.int .u64 (Int.fdiv y10_1 (2 ^ (min ((7 : Int)).toNat IntKind.u64.bits)))))) rfl rfl (by decide) rfl rfl ?_
      refine RegV.p0 rfl rfl rfl ?_
      refine RegV.nil0 ?_
      exact ⟨((Int.fdiv y10_1 (2 ^ (min ((7 : Int)).toNat IntKind.u64.bits))), (y10_2 ++ ([(u8 (bitsA .or .u8 (IntKind.u8.wrap y10_1) (128 : Int)))] : List UInt8))), h10, ⟨rfl, [], [(0, 1)], rfl, rfl, ⟨⟨_, rfl, (.refl _)⟩, rfl, ⟨⟨_, rfl, (.refl _)⟩, rfl, trivial⟩⟩, ⟨⟨_, rfl, (.refl _)⟩, rfl, rfl, trivial⟩⟩⟩
    · have h10 := cond_neg c18 h10
      cases h10
      dsimp only at h
      refine AWc.exit ?_
      refine inBlk_eq ?_
      exact ⟨(y10_1, y10_2), rfl, ⟨rfl, [], [], rfl, rfl, ⟨⟨_, rfl, (.refl _)⟩, rfl, ⟨⟨_, rfl, (.refl _)⟩, rfl, trivial⟩⟩, ⟨⟨_, rfl, (.refl _)⟩, rfl, rfl, trivial⟩⟩⟩
  · rintro ⟨x10_1, x10_2⟩ ho
    subst ho
    dsimp only at h ⊢
    refine AWc.seq ?_
    refine AWc.rg hmix rfl rfl ?_
    refine RegV.p0 rfl rfl rfl ?_
    refine RegV.p0 rfl rfl rfl ?_
    refine RegV.p0 (v := (.d (.int .u8 (IntKind.u8.wrap x10_1)))) rfl rfl rfl ?_
    refine RegV.p1 (v := .d (.sl [(.int .u8 (IntKind.u8.wrap x10_1))])) (v' := (.d (.sl (List.map byteD ([(u8 (IntKind.u8.wrap x10_1))] : List UInt8))))) (s := ([(.int .u8 0)] : List D).length = 1 ∧ 1 * 1 ≤ 16777216 ∧ ∀ d ∈ ([(.int .u8 (IntKind.u8.wrap x10_1))] : List D), d.cells.length = 1) rfl rfl ⟨rfl, Nat.le_of_ble_eq_true rfl, by simp [D.cells]⟩ rfl (by simp only [List.map_cons, List.map_nil, byteD, ← u8_eq (u8_wrap _), ← u8_eq (u8_bits _ _ _)]) ?_
    obtain ⟨b44, h⟩ := gd_some h
    refine RegV.appA (xs := x10_2) (ys := ([(u8 (IntKind.u8.wrap x10_1))] : List UInt8)) (e := byteD) (H1 := []) rfl rfl rfl rfl (fun _ => rfl) rfl rfl b44 rfl rfl rfl ?_
    refine RegV.p0 rfl rfl rfl ?_
    refine RegV.nil0 ?_
    have hr := Option.some.inj h
    subst hr
    exact AWc.ret (canQ (N := 19) (k := 1) (l' := [(2, (.ap 0 1 (List.map byteD (x10_2 ++ ([(u8 (IntKind.u8.wrap x10_1))] : List UInt8)))))]) (H' := [(0, (.tok ((List.map byteD (x10_2 ++ ([(u8 (IntKind.u8.wrap x10_1))] : List UInt8))).length * 1)))]) rfl ⟨rfl, [], [(0, 1)], rfl, rfl, ⟨⟨_, rfl, (.refl _)⟩, rfl, trivial⟩, ⟨⟨_, rfl, (.refl _)⟩, rfl, rfl, trivial⟩⟩ (doneA (.inr rfl) rfl ⟨trivial, trivial⟩ (.refl _) (hasCons rfl hasNil)))
/-- courant/code.Zig -/
def C25 (N : Nat → Nat) : AFunc := { n := 6, params := 1, res := [.tmp 2], body :=
 (.seq (.region false [⟨(some 2), .mv (.k .nils), none, []⟩])
  (.seq (.region false [⟨(some 3), .mv (.t 0), none, []⟩,
    ⟨(some 4), .call (.k (.d (.fn (N 82)))) [(.t 3)], none, [0]⟩,
    ⟨(some 5), .call (.k (.d (.fn (N 23)))) [(.t 4)], none, [1]⟩,
    ⟨(some 2), .mv (.t 5), none, [2, 0, 1]⟩])
   .ret)) }
def HC25 (P : Program) (N : Nat → Nat) : Prop := HasF P (N 25) (C25 N) ∧ HC82 P N ∧ HC23 P N
def f25 (k : Nat) (a0 : Int) : Option (List UInt8) := (f82 k a0).bind fun r9 => (f23 k (bitsA .xor .u64 (IntKind.u64.wrap ((IntKind.u64.wrap a0) * 2 ^ (min ((1 : Int)).toNat IntKind.u64.bits))) (IntKind.u64.wrap (Int.fdiv a0 (2 ^ (min ((63 : Int)).toNat IntKind.i64.bits)))))).bind fun r10 => some r10
theorem F25 {P : Program} {N : Nat → Nat} (hmix : P.follows .mixedOrders = true) (hc : HC25 P N) {k : Nat} {a0 : Int} {r : (List UInt8)} (h : f25 k a0 = some r) :
    ACalls P (N 25) [(.d (.int .i64 a0))] [] (.ap 0 1 (List.map byteD r)) [(0, (.tok ((List.map byteD r).length * 1)))] := by
  refine acalls_canon (F := C25 N) hc.1 0 1 rfl ?_
  unfold f25 at h
  dsimp only [C25, startL]
  refine AWc.seq ?_
  refine AWc.rg hmix rfl rfl ?_
  refine RegV.p0 rfl rfl rfl ?_
  refine RegV.nil0 ?_
  refine AWc.seq ?_
  refine AWc.rg hmix rfl rfl ?_
  refine RegV.p0 rfl rfl rfl ?_
  obtain ⟨r9, e9, h⟩ := bind_some h
  refine RegV.call0 (F82 hmix hc.2.1 e9) rfl rfl rfl rfl (.cons (.refl _) .nil) rfl ?_
  obtain ⟨r10, e10, h⟩ := bind_some h
  refine RegV.callS (q := false) (H' := [(0, (.tok ((List.map byteD r10).length * 1)))]) (c' := 1) (show ACalls P (N 23) [(.d (.int .u64 (bitsA .xor .u64 (IntKind.u64.wrap ((IntKind.u64.wrap a0) * 2 ^ (min ((1 : Int)).toNat IntKind.u64.bits))) (IntKind.u64.wrap (Int.fdiv a0 (2 ^ (min ((63 : Int)).toNat IntKind.i64.bits)))))))] [] (.ap 0 1 (List.map byteD r10)) [(0, (.tok ((List.map byteD r10).length * 1)))] from ACalls.use (F23 hmix hc.2.2 e10) [(0, 0)] 1 rfl) rfl rfl rfl rfl (.cons (.refl _) .nil) (.refl _) (fun h => by cases h) rfl hasNil rfl rfl rfl rfl ?_
  refine RegV.p0 rfl rfl rfl ?_
  refine RegV.nil0 ?_
  have hr := Option.some.inj h
  subst hr
  exact AWc.ret (canQ (N := 6) (k := 1) (l' := [(2, (.ap 0 1 (List.map byteD r10)))]) (H' := [(0, (.tok ((List.map byteD r10).length * 1)))]) rfl ⟨rfl, [], [], rfl, rfl, ⟨⟨_, rfl, (.refl _)⟩, rfl, trivial⟩, ⟨⟨_, rfl, (.refl _)⟩, rfl, rfl, trivial⟩⟩ (doneA (.inr rfl) rfl ⟨trivial, trivial⟩ (.refl _) (hasCons rfl hasNil)))
/-- courant/code.Text -/
def C27 (N : Nat → Nat) : AFunc := { n := 8, params := 1, res := [.tmp 2], body :=
 (.seq (.region false [⟨(some 2), .mv (.k .nils), none, []⟩])
  (.seq (.region false [⟨(some 3), .mv (.t 0), none, []⟩,
    ⟨(some 4), .len (.t 3), none, [0]⟩,
    ⟨(some 5), .call (.k (.d (.fn (N 25)))) [(.t 4)], none, [1]⟩,
    ⟨(some 6), .mv (.t 0), none, []⟩,
    ⟨(some 7), .app (.t 5) (.t 6) 1 1 [(.int .u8 0)], none, [2, 3]⟩,
    ⟨(some 2), .mv (.t 7), none, [4, 0, 1, 2, 3]⟩])
   .ret)) }
def HC27 (P : Program) (N : Nat → Nat) : Prop := HasF P (N 27) (C27 N) ∧ HC25 P N
def f27 (k : Nat) (a0 : (List UInt8)) : Option (List UInt8) := (f25 k ((a0.length : Nat) : Int)).bind fun r10 => gd ((r10.length + a0.length) * 2 * 1 ≤ 281474976710656) (some (r10 ++ a0))
theorem F27 {P : Program} {N : Nat → Nat} (hmix : P.follows .mixedOrders = true) (hc : HC27 P N) {k : Nat} {a0 : (List UInt8)} {r : (List UInt8)} (h : f27 k a0 = some r) :
    ACalls P (N 27) [(.d (.sl (List.map byteD a0)))] [] (.ap 0 1 (List.map byteD r)) [(0, (.tok ((List.map byteD r).length * 1)))] := by
  refine acalls_canon (F := C27 N) hc.1 0 1 rfl ?_
  unfold f27 at h
  dsimp only [C27, startL]
  refine AWc.seq ?_
  refine AWc.rg hmix rfl rfl ?_
  refine RegV.p0 rfl rfl rfl ?_
  refine RegV.nil0 ?_
  refine AWc.seq ?_
  refine AWc.rg hmix rfl rfl ?_
  refine RegV.p0 rfl rfl rfl ?_
  refine RegV.len (xs := a0) (e := byteD) rfl rfl rfl rfl ?_
  obtain ⟨r10, e10, h⟩ := bind_some h
  refine RegV.callS (q := false) (H' := [(0, (.tok ((List.map byteD r10).length * 1)))]) (c' := 1) (show ACalls P (N 25) [(.d (.int .i64 ((a0.length : Nat) : Int)))] [] (.ap 0 1 (List.map byteD r10)) [(0, (.tok ((List.map byteD r10).length * 1)))] from ACalls.use (F25 hmix hc.2 e10) [(0, 0)] 1 rfl) rfl rfl rfl rfl (.cons (.refl _) .nil) (.refl _) (fun h => by cases h) rfl hasNil rfl rfl rfl rfl ?_
  refine RegV.p0 rfl rfl rfl ?_
  obtain ⟨b12, h⟩ := gd_some h
  refine RegV.appA (xs := r10) (ys := a0) (e := byteD) (H1 := []) rfl rfl rfl rfl (fun _ => rfl) rfl rfl b12 rfl rfl rfl ?_
  refine RegV.p0 rfl rfl rfl ?_
  refine RegV.nil0 ?_
  have hr := Option.some.inj h
  subst hr
  exact AWc.ret (canQ (N := 8) (k := 1) (l' := [(2, (.ap 0 1 (List.map byteD (r10 ++ a0))))]) (H' := [(0, (.tok ((List.map byteD (r10 ++ a0)).length * 1)))]) rfl ⟨rfl, [], [(0, 1)], rfl, rfl, ⟨⟨_, rfl, (.refl _)⟩, rfl, trivial⟩, ⟨⟨_, rfl, (.refl _)⟩, rfl, rfl, trivial⟩⟩ (doneA (.inr rfl) rfl ⟨trivial, trivial⟩ (.refl _) (hasCons rfl hasNil)))
/-- courant/courantlaw01.awake -/
def C20 (N : Nat → Nat) : AFunc := { n := 20, params := 0, res := [.tmp 0], body :=
 (.seq (.region false [⟨(some 0), .mv (.k (.d (.bool false))), none, []⟩])
  (.seq (.region false [⟨(some 2), .bslice 1 1 [(.int .u8 0)] [(0, (.k (.d (.int .u8 97))))], none, []⟩,
    ⟨(some 3), .bs2bs (.t 2), none, [0]⟩,
    ⟨(some 4), .call (.k (.d (.fn (N 27)))) [(.t 3)], none, [1]⟩,
    ⟨(some 1), .mv (.t 4), none, [2, 0, 1]⟩])
   (.seq (.region false [⟨(some 5), .mv (.t 1), none, []⟩,
     ⟨(some 6), .len (.t 5), none, [0]⟩,
     ⟨(some 7), .bin .eql (.t 6) (.k (.d (.int .i64 2))), none, [1]⟩,
     ⟨(some 8), .mv (.t 7), none, [2]⟩,
     ⟨(some 9), .mv (.t 1), (some (8, true)), [3]⟩,
     ⟨(some 10), .iaddr (.t 9) (.k (.d (.int .i64 0))) 1, (some (8, true)), [4, 3]⟩,
     ⟨(some 11), .load (.t 10) 1 false, (some (8, true)), [5, 3]⟩,
     ⟨(some 12), .bin .eql (.t 11) (.k (.d (.int .u8 2))), (some (8, true)), [6, 3]⟩,
     ⟨(some 13), .pick (.t 8) (.t 12) (.k (.d (.bool false))), none, [3, 7]⟩,
     ⟨(some 14), .mv (.t 13), none, [8, 3]⟩,
     ⟨(some 15), .mv (.t 1), (some (14, true)), [9]⟩,
     ⟨(some 16), .iaddr (.t 15) (.k (.d (.int .i64 1))) 1, (some (14, true)), [10, 9]⟩,
     ⟨(some 17), .load (.t 16) 1 false, (some (14, true)), [11, 9]⟩,
     ⟨(some 18), .bin .eql (.t 17) (.k (.d (.int .u8 97))), (some (14, true)), [12, 9]⟩,
     ⟨(some 19), .pick (.t 14) (.t 18) (.k (.d (.bool false))), none, [9, 13]⟩,
     ⟨(some 0), .mv (.t 19), none, [14, 9, 0, 1, 2, 3, 4, 5, 6, 7, 8, 10, 11, 12, 13]⟩])
    .ret))) }
def HC20 (P : Program) (N : Nat → Nat) : Prop := HasF P (N 20) (C20 N) ∧ HC27 P N
def f20 (k : Nat) : Option Bool := (f27 k ([(97 : UInt8)] : List UInt8)).bind fun r10 => cond (decide (((r10.length : Nat) : Int) = (2 : Int))) (gd (0 ≤ (0 : Int) ∧ (0 : Int) < ((r10.length : Nat) : Int)) (cond (decide ((((rd r10 (0 : Int)).toNat : Nat) : Int) = (2 : Int))) (gd (0 ≤ (1 : Int) ∧ (1 : Int) < ((r10.length : Nat) : Int)) (some (decide ((((rd r10 (1 : Int)).toNat : Nat) : Int) = (97 : Int))))) (some false))) (some false)
theorem F20 {P : Program} {N : Nat → Nat} (hmix : P.follows .mixedOrders = true) (hc : HC20 P N) {k : Nat} {r : Bool} (h : f20 k = some r) :
    ACalls P (N 20) [] [] (.d (.bool r)) [] := by
  refine acalls_canon (F := C20 N) hc.1 0 0 rfl ?_
  unfold f20 at h
  dsimp only [C20, startL]
  refine AWc.seq ?_
  refine AWc.rg hmix rfl rfl ?_
  refine RegV.p0 rfl rfl rfl ?_
  refine RegV.nil0 ?_
  refine AWc.seq ?_
  refine AWc.rg hmix rfl rfl ?_
  refine RegV.evS (own := true) (v := (.sl 0 0 (1) (1) 1)) (H' := [(0, (.cells [(.d (.int .u8 (97 : Int)))]))]) (c' := 1) rfl rfl (by exact ⟨rfl, Nat.le_of_ble_eq_true rfl, by simp [cellsAV, D.cells]⟩) rfl rfl rfl rfl rfl rfl ?_
  refine RegV.evS (own := false) (v := .d (.sl [.int .u8 (97 : Int)])) (v' := (.d (.sl (List.map byteD ([(97 : UInt8)] : List UInt8))))) (H' := []) (c' := 1) rfl rfl (by exact ⟨rfl, Nat.le_refl _⟩) rfl rfl rfl rfl rfl rfl ?_
  obtain ⟨r10, e10, h⟩ := bind_some h
  refine RegV.callS (q := false) (H' := [(1, (.tok ((List.map byteD r10).length * 1)))]) (c' := 2) (show ACalls P (N 27) [(.d (.sl (List.map byteD ([(97 : UInt8)] : List UInt8))))] [] (.ap 1 1 (List.map byteD r10)) [(1, (.tok ((List.map byteD r10).length * 1)))] from ACalls.use (F27 hmix hc.2 e10) [(0, 1)] 1 rfl) rfl rfl rfl rfl (.cons (.refl _) .nil) (.refl _) (fun h => by cases h) rfl hasNil rfl rfl rfl rfl ?_
  refine RegV.p0 rfl rfl rfl ?_
  refine RegV.nil0 ?_
  refine AWc.seq ?_
  refine AWc.rg hmix rfl rfl ?_
  refine RegV.p0 rfl rfl rfl ?_
  refine RegV.len (xs := r10) (e := byteD) rfl rfl rfl rfl ?_
  refine RegV.p0 (v := (.d (.bool (decide (((r10.length : Nat) : Int) = (2 : Int)))))) rfl rfl rfl ?_
  refine RegV.p0 rfl rfl rfl ?_
  refine RegV.split (fun c18 => ?_) (fun c18 => ?_)
  · have h := cond_pos c18 h
    refine RegV.p0 rfl rfl rfl ?_
    obtain ⟨b20, h⟩ := gd_some h
    refine RegV.iad (xs := r10) (e := byteD) rfl rfl rfl rfl (fun _ => rfl) b20 rfl ?_
    refine RegV.p0 (v := (.d (.int .u8 (((rd r10 (0 : Int)).toNat : Nat) : Int)))) rfl rfl rfl ?_
    refine RegV.p0 (v := (.d (.bool (decide ((((rd r10 (0 : Int)).toNat : Nat) : Int) = (2 : Int)))))) rfl rfl rfl ?_
    refine RegV.p0 rfl rfl rfl ?_
    refine RegV.p0 rfl rfl rfl ?_
    refine RegV.split (fun c24 => ?_) (fun c24 => ?_)
    · have h := cond_pos c24 h
      refine RegV.p0 rfl rfl rfl ?_
      obtain ⟨b26, h⟩ := gd_some h
      refine RegV.iad (xs := r10) (e := byteD) rfl rfl rfl rfl (fun _ => rfl) b26 rfl ?_
      refine RegV.p0 (v := (.d (.int .u8 (((rd r10 (1 : Int)).toNat : Nat) : Int)))) rfl rfl rfl ?_
      refine RegV.p0 (v := (.d (.bool (decide ((((rd r10 (1 : Int)).toNat : Nat) : Int) = (97 : Int)))))) rfl rfl rfl ?_
      refine RegV.p0 rfl rfl rfl ?_
      refine RegV.p0 rfl rfl rfl ?_
      refine RegV.nil0 ?_
      have hr := Option.some.inj h
      subst hr
      exact AWc.ret (canQ (N := 20) (k := 0) (l' := [(0, (.d (.bool (decide ((((rd r10 (1 : Int)).toNat : Nat) : Int) = (97 : Int))))))]) (H' := []) rfl ⟨rfl, [], [], rfl, rfl, ⟨⟨_, rfl, (.refl _)⟩, rfl, trivial⟩,  trivial⟩ (doneA (.inr rfl) rfl ⟨trivial, trivial⟩ (.refl _) hasNil))
    · have h := cond_neg c24 h
      refine RegV.noS rfl rfl ?_
      refine RegV.noS rfl rfl ?_
      refine RegV.noS rfl rfl ?_
      refine RegV.noS rfl rfl ?_
      refine RegV.p0 rfl rfl rfl ?_
      refine RegV.p0 rfl rfl rfl ?_
      refine RegV.nil0 ?_
      have hr := Option.some.inj h
      subst hr
      exact AWc.ret (canQ (N := 20) (k := 0) (l' := [(0, (.d (.bool false)))]) (H' := []) rfl ⟨rfl, [], [], rfl, rfl, ⟨⟨_, rfl, (.refl _)⟩, rfl, trivial⟩,  trivial⟩ (doneA (.inr rfl) rfl ⟨trivial, trivial⟩ (.refl _) hasNil))
  · have h := cond_neg c18 h
    refine RegV.noS rfl rfl ?_
    refine RegV.noS rfl rfl ?_
    refine RegV.noS rfl rfl ?_
    refine RegV.noS rfl rfl ?_
    refine RegV.p0 rfl rfl rfl ?_
    refine RegV.p0 rfl rfl rfl ?_
    refine RegV.noS rfl rfl ?_
    refine RegV.noS rfl rfl ?_
    refine RegV.noS rfl rfl ?_
    refine RegV.noS rfl rfl ?_
    refine RegV.p0 rfl rfl rfl ?_
    refine RegV.p0 rfl rfl rfl ?_
    refine RegV.nil0 ?_
    have hr := Option.some.inj h
    subst hr
    exact AWc.ret (canQ (N := 20) (k := 0) (l' := [(0, (.d (.bool false)))]) (H' := []) rfl ⟨rfl, [], [], rfl, rfl, ⟨⟨_, rfl, (.refl _)⟩, rfl, trivial⟩,  trivial⟩ (doneA (.inr rfl) rfl ⟨trivial, trivial⟩ (.refl _) hasNil))
/-- courant/couranthelp.Own[byte] -/
def C21 (N : Nat → Nat) : AFunc := { n := 33, params := 2, res := [.tmp 4], body :=
 (.seq (.region false [⟨(some 4), .mv (.k .nils), none, []⟩])
  (.seq (.region false [⟨(some 8), .mv (.t 0), none, []⟩,
    ⟨(some 9), .len (.t 8), none, [0]⟩,
    ⟨(some 10), .bin .add (.t 9) (.k (.d (.int .i64 3))), none, [1]⟩,
    ⟨(some 11), .mksl (.k (.d (.int .i64 0))) (.t 10) 1 1 [(.int .u8 0)], none, [2]⟩,
    ⟨(some 5), .mv (.t 11), none, [3, 0, 1, 2]⟩])
   (.seq (.region false [⟨(some 12), .mv (.t 5), none, []⟩,
     ⟨(some 13), .mv (.t 0), none, []⟩,
     ⟨(some 14), .app (.t 12) (.t 13) 1 1 [(.int .u8 0)], none, [0, 1]⟩,
     ⟨(some 5), .mv (.t 14), none, [2, 0, 1]⟩])
    (.seq (.region false [⟨(some 15), .mv (.t 5), none, []⟩,
      ⟨(some 16), .mv (.t 0), none, []⟩,
      ⟨(some 17), .len (.t 16), none, [1]⟩,
      ⟨(some 18), .bin .add (.t 17) (.k (.d (.int .i64 3))), none, [2]⟩,
      ⟨(some 19), .slc (.t 15) none (some (.t 18)) none 1, none, [0, 3]⟩,
      ⟨(some 6), .mv (.t 19), none, [4, 0, 1, 2, 3]⟩])
     (.seq (.seq (.region false [⟨(some 20), .mv (.t 0), none, []⟩,
        ⟨(some 21), .len (.t 20), none, [0]⟩,
        ⟨(some 7), .mv (.t 21), none, [1, 0]⟩])
       (.block 0 (.loop (.seq (.seq (.region false [⟨(some 22), .mv (.t 7), none, []⟩,
            ⟨(some 23), .mv (.t 6), none, []⟩,
            ⟨(some 24), .len (.t 23), none, [1]⟩,
            ⟨(some 25), .bin .lss (.t 22) (.t 24), none, [0, 2]⟩])
           (.cond (.t 25) (.skip)
            (.exit 0)))
          (.seq (.block 1 (.region false [⟨(some 28), .mv (.t 6), none, []⟩,
             ⟨(some 29), .mv (.t 7), none, []⟩,
             ⟨(some 30), .mv (.t 1), none, []⟩,
             ⟨(some 31), .iaddr (.t 28) (.t 29) 1, none, [0, 1, 2]⟩,
             ⟨none, .store (.t 31) (.t 30) 1, none, [3, 2, 0, 1]⟩]))
           (.region false [⟨(some 26), .mv (.t 7), none, []⟩,
            ⟨(some 27), .bin .add (.t 26) (.k (.d (.int .i64 1))), none, [0]⟩,
            ⟨(some 7), .mv (.t 27), none, [1, 0]⟩]))))))
      (.seq (.region false [⟨(some 32), .mv (.t 5), none, []⟩,
        ⟨(some 4), .mv (.t 32), none, [0]⟩])
       .ret)))))) }
def HC21 (P : Program) (N : Nat → Nat) : Prop := HasF P (N 21) (C21 N)
def f21_l36 (a0 : (List UInt8)) (a1 : UInt8) : Nat → Int → (List UInt8) → Option (LR2 (List UInt8) Unit (List UInt8))
  | 0, _, _ => none
  | k + 1, y36_1, y36_2 => cond (decide (y36_1 < ((((IntKind.i64.wrap (((a0.length : Nat) : Int) + (3 : Int)))).toNat : Nat) : Int))) (gd (0 ≤ y36_1 ∧ y36_1 < ((((IntKind.i64.wrap (((a0.length : Nat) : Int) + (3 : Int)))).toNat : Nat) : Int)) (gd ((y36_1).toNat < y36_2.length) (f21_l36 a0 a1 k (IntKind.i64.wrap (y36_1 + (1 : Int))) (List.set y36_2 (y36_1).toNat a1)))) (some (.b0 y36_2))
def f21 (k : Nat) (a0 : (List UInt8)) (a1 : UInt8) : Option (List UInt8) := gd (0 ≤ (0 : Int) ∧ (0 : Int) ≤ (IntKind.i64.wrap (((a0.length : Nat) : Int) + (3 : Int))) ∧ (IntKind.i64.wrap (((a0.length : Nat) : Int) + (3 : Int))) * 1 ≤ 281474976710656) (gd (((0 : Int)).toNat + a0.length ≤ ((IntKind.i64.wrap (((a0.length : Nat) : Int) + (3 : Int)))).toNat ∧ ((IntKind.i64.wrap (((a0.length : Nat) : Int) + (3 : Int)))).toNat ≤ (List.replicate ((IntKind.i64.wrap (((a0.length : Nat) : Int) + (3 : Int)))).toNat (default : UInt8)).length) (gd (0 ≤ (IntKind.i64.wrap (((a0.length : Nat) : Int) + (3 : Int))) ∧ (IntKind.i64.wrap (((a0.length : Nat) : Int) + (3 : Int))) ≤ ((((IntKind.i64.wrap (((a0.length : Nat) : Int) + (3 : Int)))).toNat : Nat) : Int)) ((f21_l36 a0 a1 k ((a0.length : Nat) : Int) (List.take (((0 : Int)).toNat) (List.replicate ((IntKind.i64.wrap (((a0.length : Nat) : Int) + (3 : Int)))).toNat (default : UInt8)) ++ a0 ++ List.drop (((0 : Int)).toNat + a0.length) (List.replicate ((IntKind.i64.wrap (((a0.length : Nat) : Int) + (3 : Int)))).toNat (default : UInt8)))).bind fun o36 => match o36 with | .b0 x36_1 => some x36_1 | _ => none)))
theorem F21 {P : Program} {N : Nat → Nat} (hmix : P.follows .mixedOrders = true) (hc : HC21 P N) {k : Nat} {a0 : (List UInt8)} {a1 : UInt8} {r : (List UInt8)} (h : f21 k a0 a1 = some r) :
    ACalls P (N 21) [(.d (.sl (List.map byteD a0))), (.d (.int .u8 ((a1.toNat : Nat) : Int)))] [] (.sl 0 0 (((0 : Int)).toNat + a0.length) (((IntKind.i64.wrap (((a0.length : Nat) : Int) + (3 : Int)))).toNat) 1) [(0, (cellsO byteD r))] := by
  refine acalls_canon (F := C21 N) hc 0 1 rfl ?_
  unfold f21 at h
  dsimp only [C21, startL]
  refine AWc.seq ?_
  refine AWc.rg hmix rfl rfl ?_
  refine RegV.p0 rfl rfl rfl ?_
  refine RegV.nil0 ?_
  refine AWc.seq ?_
  refine AWc.rg hmix rfl rfl ?_
  refine RegV.p0 rfl rfl rfl ?_
  refine RegV.len (xs := a0) (e := byteD) rfl rfl rfl rfl ?_
  refine RegV.p0 (v := (.d (.int .i64 (IntKind.i64.wrap (((a0.length : Nat) : Int) + (3 : Int)))))) rfl rfl rfl ?_
  obtain ⟨b11, h⟩ := gd_some h
  refine RegV.mkS (e := byteD) (a0 := default) rfl rfl rfl byteD_ok rfl rfl b11 rfl rfl ?_
  refine RegV.p0 rfl rfl rfl ?_
  refine RegV.nil0 ?_
  refine AWc.seq ?_
  refine AWc.rg hmix rfl rfl ?_
  refine RegV.p0 rfl rfl rfl ?_
  refine RegV.p0 rfl rfl rfl ?_
  obtain ⟨b18, h⟩ := gd_some h
  refine RegV.apS (xs := (List.replicate ((IntKind.i64.wrap (((a0.length : Nat) : Int) + (3 : Int)))).toNat (default : UInt8))) (ys := a0) (e := byteD) (H' := [(0, (cellsO byteD (List.take (((0 : Int)).toNat) (List.replicate ((IntKind.i64.wrap (((a0.length : Nat) : Int) + (3 : Int)))).toNat (default : UInt8)) ++ a0 ++ List.drop (((0 : Int)).toNat + a0.length) (List.replicate ((IntKind.i64.wrap (((a0.length : Nat) : Int) + (3 : Int)))).toNat (default : UInt8)))))]) rfl rfl rfl rfl byteD_ok rfl rfl b18 rfl rfl rfl rfl ?_
  refine RegV.p0 rfl rfl rfl ?_
  refine RegV.nil0 ?_
  refine AWc.seq ?_
  refine AWc.rg hmix rfl rfl ?_
  refine RegV.p0 rfl rfl rfl ?_
  refine RegV.p0 rfl rfl rfl ?_
  refine RegV.len (xs := a0) (e := byteD) rfl rfl rfl rfl ?_
  refine RegV.p0 (v := (.d (.int .i64 (IntKind.i64.wrap (((a0.length : Nat) : Int) + (3 : Int)))))) rfl rfl rfl ?_
  obtain ⟨b27, h⟩ := gd_some h
  refine RegV.slH (hi := (IntKind.i64.wrap (((a0.length : Nat) : Int) + (3 : Int)))) rfl rfl rfl b27 rfl ?_
  refine RegV.p0 rfl rfl rfl ?_
  refine RegV.nil0 ?_
  refine AWc.seq ?_
  refine AWc.seq ?_
  refine AWc.rg hmix rfl rfl ?_
  refine RegV.p0 rfl rfl rfl ?_
  refine RegV.len (xs := a0) (e := byteD) rfl rfl rfl rfl ?_
  refine RegV.p0 rfl rfl rfl ?_
  refine RegV.nil0 ?_
  obtain ⟨o36, h36, h⟩ := bind_some h
  refine AWc.block ?_
  refine AWc.loopK (N := 33) 1 (fun (x : (Int × (List UInt8))) => [(1, (.d (.int .u8 ((a1.toNat : Nat) : Int)))), (5, (.sl 0 0 (((0 : Int)).toNat + a0.length) (((IntKind.i64.wrap (((a0.length : Nat) : Int) + (3 : Int)))).toNat) 1)), (6, (.sl 0 0 (((IntKind.i64.wrap (((a0.length : Nat) : Int) + (3 : Int)))).toNat) (((IntKind.i64.wrap (((a0.length : Nat) : Int) + (3 : Int)))).toNat) 1)), (7, (.d (.int .i64 x.1)))]) (fun x => [(0, (cellsO byteD x.2))]) (fun k x => f21_l36 a0 a1 k x.1 x.2 = some o36) k (((a0.length : Nat) : Int), (List.take (((0 : Int)).toNat) (List.replicate ((IntKind.i64.wrap (((a0.length : Nat) : Int) + (3 : Int)))).toNat (default : UInt8)) ++ a0 ++ List.drop (((0 : Int)).toNat + a0.length) (List.replicate ((IntKind.i64.wrap (((a0.length : Nat) : Int) + (3 : Int)))).toNat (default : UInt8)))) rfl_le (fun x hx => by cases hx) h36 ⟨rfl, [], [], rfl, rfl, ⟨⟨_, rfl, (.refl _)⟩, rfl, ⟨⟨_, rfl, (.refl _)⟩, rfl, ⟨⟨_, rfl, (.refl _)⟩, rfl, ⟨⟨_, rfl, (.refl _)⟩, rfl, trivial⟩⟩⟩⟩, ⟨⟨_, rfl, (.refl _)⟩, rfl, rfl, trivial⟩⟩ ?_
  clear h36
  intro k
  rintro ⟨y36_1, y36_2⟩ h36
  dsimp only at h36 ⊢
  rw [f21_l36] at h36
  refine AWc.seq ?_
  refine AWc.seq ?_
  refine AWc.rg hmix rfl rfl ?_
  refine RegV.p0 rfl rfl rfl ?_
  refine RegV.p0 rfl rfl rfl ?_
  refine RegV.p0 (v := (.d (.int .i64 ((((IntKind.i64.wrap (((a0.length : Nat) : Int) + (3 : Int)))).toNat : Nat) : Int)))) rfl rfl rfl ?_
  refine RegV.p0 (v := (.d (.bool (decide (y36_1 < ((((IntKind.i64.wrap (((a0.length : Nat) : Int) + (3 : Int)))).toNat : Nat) : Int)))))) rfl rfl rfl ?_
  refine RegV.nil0 ?_
  refine AWc.cond rfl (fun c46 => ?_) (fun c46 => ?_)
  · have h36 := cond_pos c46 h36
    refine AWc.skip ?_
    refine AWc.seq ?_
    refine AWc.block ?_
    refine AWc.rg hmix rfl rfl ?_
    refine RegV.p0 rfl rfl rfl ?_
    refine RegV.p0 rfl rfl rfl ?_
    refine RegV.p0 rfl rfl rfl ?_
    obtain ⟨b56, h36⟩ := gd_some h36
    refine RegV.iaS0 (z := 1) rfl rfl rfl b56 rfl ?_
    obtain ⟨b57, h36⟩ := gd_some h36
    refine RegV.stS (e := byteD) (xs := y36_2) (i := (y36_1).toNat) (v := a1) (H' := [(0, (cellsO byteD (List.set y36_2 (y36_1).toNat a1)))]) rfl rfl rfl rfl byteD_ok rfl b57 rfl rfl rfl ?_
    refine RegV.nil0 ?_
    refine AWc.rg hmix rfl rfl ?_
    refine RegV.p0 rfl rfl rfl ?_
    refine RegV.p0 (v := (.d (.int .i64 (IntKind.i64.wrap (y36_1 + (1 : Int)))))) rfl rfl rfl ?_
    refine RegV.p0 rfl rfl rfl ?_
    refine RegV.nil0 ?_
    exact ⟨((IntKind.i64.wrap (y36_1 + (1 : Int))), (List.set y36_2 (y36_1).toNat a1)), h36, ⟨rfl, [], [], rfl, rfl, ⟨⟨_, rfl, (.refl _)⟩, rfl, ⟨⟨_, rfl, (.refl _)⟩, rfl, ⟨⟨_, rfl, (.refl _)⟩, rfl, ⟨⟨_, rfl, (.refl _)⟩, rfl, trivial⟩⟩⟩⟩, ⟨⟨_, rfl, (.refl _)⟩, rfl, rfl, trivial⟩⟩⟩
  · have h36 := cond_neg c46 h36
    cases h36
    dsimp only at h
    refine AWc.exit ?_
    refine inBlk_eq ?_
    refine AWc.seq ?_
    refine AWc.rg hmix rfl rfl ?_
    refine RegV.p0 rfl rfl rfl ?_
    refine RegV.p0 rfl rfl rfl ?_
    refine RegV.nil0 ?_
    have hr := Option.some.inj h
    subst hr
    exact AWc.ret (canQ (N := 33) (k := 1) (l' := [(4, (.sl 0 0 (((0 : Int)).toNat + a0.length) (((IntKind.i64.wrap (((a0.length : Nat) : Int) + (3 : Int)))).toNat) 1))]) (H' := [(0, (cellsO byteD y36_2))]) rfl ⟨rfl, [], [], rfl, rfl, ⟨⟨_, rfl, (.refl _)⟩, rfl, trivial⟩, ⟨⟨_, rfl, (.refl _)⟩, rfl, rfl, trivial⟩⟩ (doneA (.inr rfl) rfl ⟨trivial, trivial⟩ (.refl _) (hasCons rfl hasNil)))
/-- courant/code.New -/
def C30 (N : Nat → Nat) : AFunc := { n := 7, params := 1, res := [.tmp 2], body :=
 (.seq (.region false [⟨(some 2), .mv (.k (.d .nilp)), none, []⟩])
  (.seq (.region false [⟨(some 3), .mv (.t 0), none, []⟩,
    ⟨(some 4), .app (.k .nils) (.t 3) 1 1 [(.int .u8 0)], none, [0]⟩,
    ⟨(some 5), .build [(.sl []), (.int .i64 0), (.int .i64 0)] [(0, 1, (.t 4))], none, [1]⟩,
    ⟨(some 6), .box (.t 5), none, [2]⟩,
    ⟨(some 2), .mv (.t 6), none, [3, 1, 0, 2]⟩])
   .ret)) }
def HC30 (P : Program) (N : Nat → Nat) : Prop := HasF P (N 30) (C30 N)
def f30 (k : Nat) (a0 : (List UInt8)) (a1 : Nat) (a2 : Nat) : Option Unit := gd (a1 ≤ a0.length ∧ a1 ≤ a2) (gd ((List.take a1 a0).length * 1 ≤ 281474976710656) (some ()))
theorem F30 {P : Program} {N : Nat → Nat} (hmix : P.follows .mixedOrders = true) (hc : HC30 P N) {k : Nat} {a0 : (List UInt8)} {a1 : Nat} {a2 : Nat} {r : Unit} (h : f30 k a0 a1 a2 = some r) :
    ACalls P (N 30) [(.sl 0 0 a1 a2 1)] [(0, (cellsO byteD a0))] (.ptr 1 0) [(1, (.cells [(.d (.sl (List.map byteD (List.take a1 a0)))), (.d (.int .i64 (0 : Int))), (.d (.int .i64 (0 : Int)))])), (0, (cellsO byteD a0))] := by
  refine acalls_canon (F := C30 N) hc 1 2 rfl ?_
  unfold f30 at h
  dsimp only [C30, startL]
  refine AWc.seq ?_
  refine AWc.rg hmix rfl rfl ?_
  refine RegV.p0 rfl rfl rfl ?_
  refine RegV.nil0 ?_
  refine AWc.seq ?_
  refine AWc.rg hmix rfl rfl ?_
  refine RegV.p0 rfl rfl rfl ?_
  obtain ⟨bs9, h⟩ := gd_some h
  obtain ⟨b9, h⟩ := gd_some h
  refine RegV.appF (xs := a0) (ys := (List.take a1 a0)) (e := byteD) (H' := [(1, (.tok ((List.map byteD (List.take a1 a0)).length * 1))), (0, (cellsO byteD a0))]) rfl rfl rfl (.sl0 bs9) byteD_ok rfl (.inl rfl) rfl rfl b9 rfl rfl rfl rfl rfl rfl ?_
  refine RegV.p1 (v := (.d (.agg [(.sl (List.map byteD (List.take a1 a0))), (.int .i64 (0 : Int)), (.int .i64 (0 : Int))]))) rfl rfl (by exact ⟨⟨rfl, Nat.le_of_ble_eq_true rfl⟩, trivial⟩) rfl rfl ?_
  refine RegV.evS (own := false) (v := (.ptr 2 0)) (H' := [(2, (.cells [(.d (.sl (List.map byteD (List.take a1 a0)))), (.d (.int .i64 (0 : Int))), (.d (.int .i64 (0 : Int)))])), (1, (.tok ((List.map byteD (List.take a1 a0)).length * 1))), (0, (cellsO byteD a0))]) (c' := 3) rfl rfl trivial rfl rfl rfl rfl rfl rfl ?_
  refine RegV.p0 rfl rfl rfl ?_
  refine RegV.nil0 ?_
  have hr := Option.some.inj h
  subst hr
  exact AWc.ret (canQ (N := 7) (k := 2) (l' := [(2, (.ptr 1 0))]) (H' := [(1, (.cells [(.d (.sl (List.map byteD (List.take a1 a0)))), (.d (.int .i64 (0 : Int))), (.d (.int .i64 (0 : Int)))])), (0, (cellsO byteD a0))]) rfl ⟨rfl, [], [(1, 2)], rfl, rfl, ⟨⟨_, rfl, (.refl _)⟩, rfl, trivial⟩, ⟨⟨_, rfl, (.refl _)⟩, rfl, rfl, ⟨⟨_, rfl, (.refl _)⟩, rfl, rfl, trivial⟩⟩⟩ (doneA (.inr rfl) rfl ⟨trivial, trivial⟩ (.refl _) (hasCons rfl (hasCons rfl hasNil))))
/-- courant/courantref01.New -/
def C44 (N : Nat → Nat) : AFunc := { n := 7, params := 1, res := [.tmp 2], body :=
 (.seq (.region false [⟨(some 2), .mv (.k (.d .nilp)), none, []⟩])
  (.seq (.region false [⟨(some 3), .mv (.t 0), none, []⟩,
    ⟨(some 4), .app (.k .nils) (.t 3) 1 1 [(.int .u8 0)], none, [0]⟩,
    ⟨(some 5), .build [(.sl []), (.int .i64 0), (.int .i64 0)] [(0, 1, (.t 4))], none, [1]⟩,
    ⟨(some 6), .box (.t 5), none, [2]⟩,
    ⟨(some 2), .mv (.t 6), none, [3, 1, 0, 2]⟩])
   .ret)) }
def HC44 (P : Program) (N : Nat → Nat) : Prop := HasF P (N 44) (C44 N)
def f44 (k : Nat) (a0 : (List UInt8)) : Option Unit := gd (a0.length * 1 ≤ 281474976710656) (some ())
theorem F44 {P : Program} {N : Nat → Nat} (hmix : P.follows .mixedOrders = true) (hc : HC44 P N) {k : Nat} {a0 : (List UInt8)} {r : Unit} (h : f44 k a0 = some r) :
    ACalls P (N 44) [(.d (.sl (List.map byteD a0)))] [] (.ptr 0 0) [(0, (.cells [(.d (.sl (List.map byteD a0))), (.d (.int .i64 (0 : Int))), (.d (.int .i64 (0 : Int)))]))] := by
  refine acalls_canon (F := C44 N) hc 0 1 rfl ?_
  unfold f44 at h
  dsimp only [C44, startL]
  refine AWc.seq ?_
  refine AWc.rg hmix rfl rfl ?_
  refine RegV.p0 rfl rfl rfl ?_
  refine RegV.nil0 ?_
  refine AWc.seq ?_
  refine AWc.rg hmix rfl rfl ?_
  refine RegV.p0 rfl rfl rfl ?_
  obtain ⟨b9, h⟩ := gd_some h
  refine RegV.appN (ys := a0) (e := byteD) rfl rfl rfl (fun _ => rfl) rfl rfl b9 rfl rfl ?_
  refine RegV.p1 (v := (.d (.agg [(.sl (List.map byteD a0)), (.int .i64 (0 : Int)), (.int .i64 (0 : Int))]))) rfl rfl (by exact ⟨⟨rfl, Nat.le_of_ble_eq_true rfl⟩, trivial⟩) rfl rfl ?_
  refine RegV.evS (own := false) (v := (.ptr 1 0)) (H' := [(1, (.cells [(.d (.sl (List.map byteD a0))), (.d (.int .i64 (0 : Int))), (.d (.int .i64 (0 : Int)))])), (0, (.tok ((List.map byteD a0).length * 1)))]) (c' := 2) rfl rfl trivial rfl rfl rfl rfl rfl rfl ?_
  refine RegV.p0 rfl rfl rfl ?_
  refine RegV.nil0 ?_
  have hr := Option.some.inj h
  subst hr
  exact AWc.ret (canQ (N := 7) (k := 1) (l' := [(2, (.ptr 0 0))]) (H' := [(0, (.cells [(.d (.sl (List.map byteD a0))), (.d (.int .i64 (0 : Int))), (.d (.int .i64 (0 : Int)))]))]) rfl ⟨rfl, [], [(0, 1)], rfl, rfl, ⟨⟨_, rfl, (.refl _)⟩, rfl, trivial⟩, ⟨⟨_, rfl, (.refl _)⟩, rfl, rfl, trivial⟩⟩ (doneA (.inr rfl) rfl ⟨trivial, trivial⟩ (.refl _) (hasCons rfl hasNil)))
/-- courant/couranthelp.Plain[byte]$1 -/
def C109 (N : Nat → Nat) : AFunc := { n := 8, params := 2, res := [.tmp 4], body :=
 (.seq (.region false [⟨(some 4), .mv (.k (.d (.bool false))), none, []⟩])
  (.seq (.region false [⟨(some 5), .mv (.t 0), none, []⟩,
    ⟨(some 6), .mv (.t 1), none, []⟩,
    ⟨(some 7), .bin .eql (.t 5) (.t 6), none, [0, 1]⟩,
    ⟨(some 4), .mv (.t 7), none, [2, 0, 1]⟩])
   .ret)) }
def HC109 (P : Program) (N : Nat → Nat) : Prop := HasF P (N 109) (C109 N)
def f109 (k : Nat) (a0 : UInt8) (a1 : UInt8) : Option Unit := some ()
theorem F109 {P : Program} {N : Nat → Nat} (hmix : P.follows .mixedOrders = true) (hc : HC109 P N) {k : Nat} {a0 : UInt8} {a1 : UInt8} {r : Unit} (h : f109 k a0 a1 = some r) :
    ACalls P (N 109) [(.d (.int .u8 ((a0.toNat : Nat) : Int))), (.d (.int .u8 ((a1.toNat : Nat) : Int)))] [] (.d (.bool (decide (((a0.toNat : Nat) : Int) = ((a1.toNat : Nat) : Int))))) [] := by
  refine acalls_canon (F := C109 N) hc 0 0 rfl ?_
  unfold f109 at h
  dsimp only [C109, startL]
  refine AWc.seq ?_
  refine AWc.rg hmix rfl rfl ?_
  refine RegV.p0 rfl rfl rfl ?_
  refine RegV.nil0 ?_
  refine AWc.seq ?_
  refine AWc.rg hmix rfl rfl ?_
  refine RegV.p0 rfl rfl rfl ?_
  refine RegV.p0 rfl rfl rfl ?_
  refine RegV.p0 (v := (.d (.bool (decide (((a0.toNat : Nat) : Int) = ((a1.toNat : Nat) : Int)))))) rfl rfl rfl ?_
  refine RegV.p0 rfl rfl rfl ?_
  refine RegV.nil0 ?_
  have hr := Option.some.inj h
  subst hr
  exact AWc.ret (canQ (N := 8) (k := 0) (l' := [(4, (.d (.bool (decide (((a0.toNat : Nat) : Int) = ((a1.toNat : Nat) : Int))))))]) (H' := []) rfl ⟨rfl, [], [], rfl, rfl, ⟨⟨_, rfl, (.refl _)⟩, rfl, trivial⟩,  trivial⟩ (doneA (.inr rfl) rfl ⟨trivial, trivial⟩ (.refl _) hasNil))
/-- courant/couranthelp.Same[byte] -/
def C108 (N : Nat → Nat) : AFunc := { n := 30, params := 3, res := [.tmp 6], body :=
 (.seq (.region false [⟨(some 6), .mv (.k (.d (.bool false))), none, []⟩])
  (.seq (.seq (.region false [⟨(some 8), .mv (.t 0), none, []⟩,
     ⟨(some 9), .len (.t 8), none, [0]⟩,
     ⟨(some 10), .mv (.t 1), none, []⟩,
     ⟨(some 11), .len (.t 10), none, [2]⟩,
     ⟨(some 12), .bin .neq (.t 9) (.t 11), none, [1, 3]⟩])
    (.cond (.t 12) (.seq (.region false [⟨(some 6), .mv (.k (.d (.bool false))), none, []⟩])
      .ret)
     (.skip)))
   (.seq (.seq (.region false [⟨(some 7), .mv (.k (.d (.int .i64 0))), none, []⟩])
     (.block 0 (.loop (.seq (.seq (.region false [⟨(some 13), .mv (.t 7), none, []⟩,
          ⟨(some 14), .mv (.t 0), none, []⟩,
          ⟨(some 15), .len (.t 14), none, [1]⟩,
          ⟨(some 16), .bin .lss (.t 13) (.t 15), none, [0, 2]⟩])
         (.cond (.t 16) (.skip)
          (.exit 0)))
        (.seq (.block 1 (.seq (.region true [⟨(some 19), .mv (.t 2), none, []⟩,
            ⟨(some 20), .mv (.t 0), none, []⟩,
            ⟨(some 21), .mv (.t 7), none, []⟩,
            ⟨(some 22), .iaddr (.t 20) (.t 21) 1, none, [1, 2]⟩,
            ⟨(some 23), .load (.t 22) 1 false, none, [3]⟩,
            ⟨(some 24), .mv (.t 1), none, []⟩,
            ⟨(some 25), .mv (.t 7), none, []⟩,
            ⟨(some 26), .iaddr (.t 24) (.t 25) 1, none, [5, 6]⟩,
            ⟨(some 27), .load (.t 26) 1 false, none, [7]⟩,
            ⟨(some 28), .call (.t 19) [(.t 23), (.t 27)], none, [0, 4, 8]⟩,
            ⟨(some 29), .un .not (.t 28), none, [9]⟩])
           (.cond (.t 29) (.seq (.region false [⟨(some 6), .mv (.k (.d (.bool false))), none, []⟩])
             .ret)
            (.skip))))
         (.region false [⟨(some 17), .mv (.t 7), none, []⟩,
          ⟨(some 18), .bin .add (.t 17) (.k (.d (.int .i64 1))), none, [0]⟩,
          ⟨(some 7), .mv (.t 18), none, [1, 0]⟩]))))))
    (.seq (.region false [⟨(some 6), .mv (.k (.d (.bool true))), none, []⟩])
     .ret)))) }
def HC108 (P : Program) (N : Nat → Nat) : Prop := HasF P (N 108) (C108 N) ∧ HC109 P N
def f108_l26 (a0 : (List UInt8)) (a1 : (List UInt8)) : Nat → Int → Option (LR2 Unit Unit Bool)
  | 0, _ => none
  | k + 1, y26_1 => cond (decide (y26_1 < ((a0.length : Nat) : Int))) (gd (0 ≤ y26_1 ∧ y26_1 < ((a0.length : Nat) : Int)) (gd (0 ≤ y26_1 ∧ y26_1 < ((a1.length : Nat) : Int)) ((f109 k (rd a0 y26_1) (rd a1 y26_1)).bind fun r53 => cond (!(decide ((((rd a0 y26_1).toNat : Nat) : Int) = (((rd a1 y26_1).toNat : Nat) : Int)))) (some (.r false)) (f108_l26 a0 a1 k (IntKind.i64.wrap (y26_1 + (1 : Int))))))) (some (.b0 ()))
def f108 (k : Nat) (a0 : (List UInt8)) (a1 : (List UInt8)) : Option Bool := cond (decide (((a0.length : Nat) : Int) ≠ ((a1.length : Nat) : Int))) (some false) ((f108_l26 a0 a1 k (0 : Int)).bind fun o26 => match o26 with | .b0 () => some true | .r x => some x | _ => none)
theorem F108 {P : Program} {N : Nat → Nat} (hmix : P.follows .mixedOrders = true) (hc : HC108 P N) {k : Nat} {a0 : (List UInt8)} {a1 : (List UInt8)} {r : Bool} (h : f108 k a0 a1 = some r) :
    ACalls P (N 108) [(.d (.sl (List.map byteD a0))), (.d (.sl (List.map byteD a1))), (.d (.fn (N 109)))] [] (.d (.bool r)) [] := by
  refine acalls_canon (F := C108 N) hc.1 0 0 rfl ?_
  unfold f108 at h
  dsimp only [C108, startL]
  refine AWc.seq ?_
  refine AWc.rg hmix rfl rfl ?_
  refine RegV.p0 rfl rfl rfl ?_
  refine RegV.nil0 ?_
  refine AWc.seq ?_
  refine AWc.seq ?_
  refine AWc.rg hmix rfl rfl ?_
  refine RegV.p0 rfl rfl rfl ?_
  refine RegV.len (xs := a0) (e := byteD) rfl rfl rfl rfl ?_
  refine RegV.p0 rfl rfl rfl ?_
  refine RegV.len (xs := a1) (e := byteD) rfl rfl rfl rfl ?_
  refine RegV.p0 (v := (.d (.bool (decide (((a0.length : Nat) : Int) ≠ ((a1.length : Nat) : Int)))))) rfl rfl rfl ?_
  refine RegV.nil0 ?_
  refine AWc.cond rfl (fun c14 => ?_) (fun c14 => ?_)
  · have h := cond_pos c14 h
    refine AWc.seq ?_
    refine AWc.rg hmix rfl rfl ?_
    refine RegV.p0 rfl rfl rfl ?_
    refine RegV.nil0 ?_
    have hr := Option.some.inj h
    subst hr
    exact AWc.ret (canQ (N := 30) (k := 0) (l' := [(6, (.d (.bool false)))]) (H' := []) rfl ⟨rfl, [], [], rfl, rfl, ⟨⟨_, rfl, (.refl _)⟩, rfl, trivial⟩,  trivial⟩ (doneA (.inr rfl) rfl ⟨trivial, trivial⟩ (.refl _) hasNil))
  · have h := cond_neg c14 h
    refine AWc.skip ?_
    refine AWc.seq ?_
    refine AWc.seq ?_
    refine AWc.rg hmix rfl rfl ?_
    refine RegV.p0 rfl rfl rfl ?_
    refine RegV.nil0 ?_
    obtain ⟨o26, h26, h⟩ := bind_some h
    refine AWc.block ?_
    refine AWc.loopK (N := 30) 0 (fun (x : Int) => [(0, (.d (.sl (List.map byteD a0)))), (1, (.d (.sl (List.map byteD a1)))), (2, (.d (.fn (N 109)))), (7, (.d (.int .i64 x)))]) (fun x => []) (fun k x => f108_l26 a0 a1 k x = some o26) k (0 : Int) rfl_le (fun x hx => by cases hx) h26 ⟨rfl, [], [], rfl, rfl, ⟨⟨_, rfl, (.refl _)⟩, rfl, ⟨⟨_, rfl, (.refl _)⟩, rfl, ⟨⟨_, rfl, (.refl _)⟩, rfl, ⟨⟨_, rfl, (.refl _)⟩, rfl, trivial⟩⟩⟩⟩,  trivial⟩ ?_
    clear h26
    intro k
    intro y26_1 h26
    rw [f108_l26] at h26
    refine AWc.seq ?_
    refine AWc.seq ?_
    refine AWc.rg hmix rfl rfl ?_
    refine RegV.p0 rfl rfl rfl ?_
    refine RegV.p0 rfl rfl rfl ?_
    refine RegV.len (xs := a0) (e := byteD) rfl rfl rfl rfl ?_
    refine RegV.p0 (v := (.d (.bool (decide (y26_1 < ((a0.length : Nat) : Int)))))) rfl rfl rfl ?_
    refine RegV.nil0 ?_
    refine AWc.cond rfl (fun c36 => ?_) (fun c36 => ?_)
    · have h26 := cond_pos c36 h26
      refine AWc.skip ?_
      refine AWc.seq ?_
      refine AWc.block ?_
      refine AWc.seq ?_
      refine AWc.rg hmix rfl rfl ?_
      refine RegV.p0 rfl rfl rfl ?_
      refine RegV.p0 rfl rfl rfl ?_
      refine RegV.p0 rfl rfl rfl ?_
      obtain ⟨b47, h26⟩ := gd_some h26
      refine RegV.iad (xs := a0) (e := byteD) rfl rfl rfl rfl (fun _ => rfl) b47 rfl ?_
      refine RegV.p0 (v := (.d (.int .u8 (((rd a0 y26_1).toNat : Nat) : Int)))) rfl rfl rfl ?_
      refine RegV.p0 rfl rfl rfl ?_
      refine RegV.p0 rfl rfl rfl ?_
      obtain ⟨b51, h26⟩ := gd_some h26
      refine RegV.iad (xs := a1) (e := byteD) rfl rfl rfl rfl (fun _ => rfl) b51 rfl ?_
      refine RegV.p0 (v := (.d (.int .u8 (((rd a1 y26_1).toNat : Nat) : Int)))) rfl rfl rfl ?_
      obtain ⟨r53, e53, h26⟩ := bind_some h26
      refine RegV.call0 (F109 hmix hc.2 e53) rfl rfl rfl rfl (.cons (.refl _) (.cons (.refl _) .nil)) rfl ?_
      refine RegV.p0 (v := (.d (.bool (!(decide ((((rd a0 y26_1).toNat : Nat) : Int) = (((rd a1 y26_1).toNat : Nat) : Int))))))) rfl rfl rfl ?_
      refine RegV.nil1 (by kernel_rfl) ?_
      refine AWc.cond rfl (fun c55 => ?_) (fun c55 => ?_)
      · have h26 := cond_pos c55 h26
        refine AWc.seq ?_
        refine AWc.rg hmix rfl rfl ?_
        refine RegV.p0 rfl rfl rfl ?_
        refine RegV.nil0 ?_
        cases h26
        dsimp only at h
        have hr := Option.some.inj h
        subst hr
        exact AWc.ret (canQ (N := 30) (k := 0) (l' := [(6, (.d (.bool false)))]) (H' := []) rfl ⟨rfl, [], [], rfl, rfl, ⟨⟨_, rfl, (.refl _)⟩, rfl, trivial⟩,  trivial⟩ (doneA (.inr rfl) rfl ⟨trivial, trivial⟩ (.refl _) hasNil))
      · have h26 := cond_neg c55 h26
        refine AWc.skip ?_
        refine AWc.rg hmix rfl rfl ?_
        refine RegV.p0 rfl rfl rfl ?_
        refine RegV.p0 (v := (.d (.int .i64 (IntKind.i64.wrap (y26_1 + (1 : Int)))))) rfl rfl rfl ?_
        refine RegV.p0 rfl rfl rfl ?_
        refine RegV.nil0 ?_
        exact ⟨(IntKind.i64.wrap (y26_1 + (1 : Int))), h26, ⟨rfl, [], [], rfl, rfl, ⟨⟨_, rfl, (.refl _)⟩, rfl, ⟨⟨_, rfl, (.refl _)⟩, rfl, ⟨⟨_, rfl, (.refl _)⟩, rfl, ⟨⟨_, rfl, (.refl _)⟩, rfl, trivial⟩⟩⟩⟩,  trivial⟩⟩
    · have h26 := cond_neg c36 h26
      cases h26
      dsimp only at h
      refine AWc.exit ?_
      refine inBlk_eq ?_
      refine AWc.seq ?_
      refine AWc.rg hmix rfl rfl ?_
      refine RegV.p0 rfl rfl rfl ?_
      refine RegV.nil0 ?_
      have hr := Option.some.inj h
      subst hr
      exact AWc.ret (canQ (N := 30) (k := 0) (l' := [(6, (.d (.bool true)))]) (H' := []) rfl ⟨rfl, [], [], rfl, rfl, ⟨⟨_, rfl, (.refl _)⟩, rfl, trivial⟩,  trivial⟩ (doneA (.inr rfl) rfl ⟨trivial, trivial⟩ (.refl _) hasNil))
/-- courant/couranthelp.Plain[byte] -/
def C83 (N : Nat → Nat) : AFunc := { n := 8, params := 2, res := [.tmp 4], body :=
 (.seq (.region false [⟨(some 4), .mv (.k (.d (.bool false))), none, []⟩])
  (.seq (.region false [⟨(some 5), .mv (.t 0), none, []⟩,
    ⟨(some 6), .mv (.t 1), none, []⟩,
    ⟨(some 7), .call (.k (.d (.fn (N 108)))) [(.t 5), (.t 6), (.k (.d (.fn (N 109))))], none, [0, 1]⟩,
    ⟨(some 4), .mv (.t 7), none, [2, 0, 1]⟩])
   .ret)) }
def HC83 (P : Program) (N : Nat → Nat) : Prop := HasF P (N 83) (C83 N) ∧ HC108 P N
def f83 (k : Nat) (a0 : (List UInt8)) (a1 : (List UInt8)) : Option Bool := (f108 k a0 a1).bind fun r10 => some r10
theorem F83 {P : Program} {N : Nat → Nat} (hmix : P.follows .mixedOrders = true) (hc : HC83 P N) {k : Nat} {a0 : (List UInt8)} {a1 : (List UInt8)} {r : Bool} (h : f83 k a0 a1 = some r) :
    ACalls P (N 83) [(.d (.sl (List.map byteD a0))), (.d (.sl (List.map byteD a1)))] [] (.d (.bool r)) [] := by
  refine acalls_canon (F := C83 N) hc.1 0 0 rfl ?_
  unfold f83 at h
  dsimp only [C83, startL]
  refine AWc.seq ?_
  refine AWc.rg hmix rfl rfl ?_
  refine RegV.p0 rfl rfl rfl ?_
  refine RegV.nil0 ?_
  refine AWc.seq ?_
  refine AWc.rg hmix rfl rfl ?_
  refine RegV.p0 rfl rfl rfl ?_
  refine RegV.p0 rfl rfl rfl ?_
  obtain ⟨r10, e10, h⟩ := bind_some h
  refine RegV.call0 (F108 hmix hc.2 e10) rfl rfl rfl rfl (.cons (.refl _) (.cons (.refl _) (.cons (.refl _) .nil))) rfl ?_
  refine RegV.p0 rfl rfl rfl ?_
  refine RegV.nil0 ?_
  have hr := Option.some.inj h
  subst hr
  exact AWc.ret (canQ (N := 8) (k := 0) (l' := [(4, (.d (.bool r10)))]) (H' := []) rfl ⟨rfl, [], [], rfl, rfl, ⟨⟨_, rfl, (.refl _)⟩, rfl, trivial⟩,  trivial⟩ (doneA (.inr rfl) rfl ⟨trivial, trivial⟩ (.refl _) hasNil))
/-- courant/couranthelp.Kept[byte] -/
def C29 (N : Nat → Nat) : AFunc := { n := 40, params := 3, res := [.tmp 6], body :=
 (.seq (.region false [⟨(some 6), .mv (.k (.d (.bool false))), none, []⟩])
  (.seq (.seq (.region false [⟨(some 9), .mv (.t 0), none, []⟩,
     ⟨(some 10), .mv (.t 1), none, []⟩,
     ⟨(some 11), .call (.k (.d (.fn (N 83)))) [(.t 9), (.t 10)], none, [0, 1]⟩,
     ⟨(some 12), .un .not (.t 11), none, [2]⟩,
     ⟨(some 13), .mv (.t 12), none, [3, 2]⟩,
     ⟨(some 14), .mv (.t 0), (some (13, false)), [4]⟩,
     ⟨(some 15), .cap (.t 14), (some (13, false)), [5, 4]⟩,
     ⟨(some 16), .mv (.t 1), (some (13, false)), [4]⟩,
     ⟨(some 17), .len (.t 16), (some (13, false)), [7, 4]⟩,
     ⟨(some 18), .bin .add (.t 17) (.k (.d (.int .i64 3))), (some (13, false)), [8, 4]⟩,
     ⟨(some 19), .bin .lss (.t 15) (.t 18), (some (13, false)), [6, 9, 4]⟩,
     ⟨(some 20), .pick (.t 13) (.k (.d (.bool true))) (.t 19), none, [4, 10]⟩])
    (.cond (.t 20) (.seq (.region false [⟨(some 6), .mv (.k (.d (.bool false))), none, []⟩])
      .ret)
     (.skip)))
   (.seq (.region false [⟨(some 21), .mv (.t 0), none, []⟩,
     ⟨(some 22), .mv (.t 1), none, []⟩,
     ⟨(some 23), .len (.t 22), none, [1]⟩,
     ⟨(some 24), .bin .add (.t 23) (.k (.d (.int .i64 3))), none, [2]⟩,
     ⟨(some 25), .slc (.t 21) none (some (.t 24)) none 1, none, [0, 3]⟩,
     ⟨(some 7), .mv (.t 25), none, [4, 0, 1, 2, 3]⟩])
    (.seq (.seq (.region false [⟨(some 26), .mv (.t 1), none, []⟩,
       ⟨(some 27), .len (.t 26), none, [0]⟩,
       ⟨(some 8), .mv (.t 27), none, [1, 0]⟩])
      (.block 0 (.loop (.seq (.seq (.region false [⟨(some 28), .mv (.t 8), none, []⟩,
           ⟨(some 29), .mv (.t 7), none, []⟩,
           ⟨(some 30), .len (.t 29), none, [1]⟩,
           ⟨(some 31), .bin .lss (.t 28) (.t 30), none, [0, 2]⟩])
          (.cond (.t 31) (.skip)
           (.exit 0)))
         (.seq (.block 1 (.seq (.region false [⟨(some 34), .mv (.t 7), none, []⟩,
             ⟨(some 35), .mv (.t 8), none, []⟩,
             ⟨(some 36), .iaddr (.t 34) (.t 35) 1, none, [0, 1]⟩,
             ⟨(some 37), .load (.t 36) 1 false, none, [2]⟩,
             ⟨(some 38), .mv (.t 2), none, []⟩,
             ⟨(some 39), .bin .neq (.t 37) (.t 38), none, [3, 4]⟩])
            (.cond (.t 39) (.seq (.region false [⟨(some 6), .mv (.k (.d (.bool false))), none, []⟩])
              .ret)
             (.skip))))
          (.region false [⟨(some 32), .mv (.t 8), none, []⟩,
           ⟨(some 33), .bin .add (.t 32) (.k (.d (.int .i64 1))), none, [0]⟩,
           ⟨(some 8), .mv (.t 33), none, [1, 0]⟩]))))))
     (.seq (.region false [⟨(some 6), .mv (.k (.d (.bool true))), none, []⟩])
      .ret))))) }
def HC29 (P : Program) (N : Nat → Nat) : Prop := HasF P (N 29) (C29 N) ∧ HC83 P N
def f29_l44 (a2 : (List UInt8)) (a0 : (List UInt8)) (a3 : UInt8) : Nat → Int → Option (LR2 Unit Unit Bool)
  | 0, _ => none
  | k + 1, y44_1 => cond (decide (y44_1 < (((List.take (((IntKind.i64.wrap (((a2.length : Nat) : Int) + (3 : Int)))).toNat) a0).length : Nat) : Int))) (gd (0 ≤ y44_1 ∧ y44_1 < (((List.take (((IntKind.i64.wrap (((a2.length : Nat) : Int) + (3 : Int)))).toNat) a0).length : Nat) : Int)) (cond (decide ((((rd (List.take (((IntKind.i64.wrap (((a2.length : Nat) : Int) + (3 : Int)))).toNat) a0) y44_1).toNat : Nat) : Int) ≠ ((a3.toNat : Nat) : Int))) (some (.r false)) (f29_l44 a2 a0 a3 k (IntKind.i64.wrap (y44_1 + (1 : Int)))))) (some (.b0 ()))
def f29 (k : Nat) (a0 : (List UInt8)) (a1 : Nat) (a2 : (List UInt8)) (a3 : UInt8) : Option Bool := (f83 k (List.take a1 a0) a2).bind fun r11 => cond (!r11) (some false) (cond (decide (((a0.length : Nat) : Int) < (IntKind.i64.wrap (((a2.length : Nat) : Int) + (3 : Int))))) (some false) (gd (0 ≤ (IntKind.i64.wrap (((a2.length : Nat) : Int) + (3 : Int))) ∧ (IntKind.i64.wrap (((a2.length : Nat) : Int) + (3 : Int))) ≤ ((a0.length : Nat) : Int)) ((f29_l44 a2 a0 a3 k ((a2.length : Nat) : Int)).bind fun o44 => match o44 with | .b0 () => some true | .r x => some x | _ => none)))
theorem F29 {P : Program} {N : Nat → Nat} (hmix : P.follows .mixedOrders = true) (hc : HC29 P N) {k : Nat} {a0 : (List UInt8)} {a1 : Nat} {a2 : (List UInt8)} {a3 : UInt8} {r : Bool} (h : f29 k a0 a1 a2 a3 = some r) :
    ACalls P (N 29) [(.win (List.map byteD a0) a1), (.d (.sl (List.map byteD a2))), (.d (.int .u8 ((a3.toNat : Nat) : Int)))] [] (.d (.bool r)) [] := by
  refine acalls_canon (F := C29 N) hc.1 0 0 rfl ?_
  unfold f29 at h
  dsimp only [C29, startL]
  refine AWc.seq ?_
  refine AWc.rg hmix rfl rfl ?_
  refine RegV.p0 rfl rfl rfl ?_
  refine RegV.nil0 ?_
  refine AWc.seq ?_
  refine AWc.seq ?_
  refine AWc.rg hmix rfl rfl ?_
  refine RegV.p0 rfl rfl rfl ?_
  refine RegV.p0 rfl rfl rfl ?_
  obtain ⟨r11, e11, h⟩ := bind_some h
  refine RegV.call0 (F83 hmix hc.2 e11) rfl rfl rfl rfl (.cons .win (.cons (.refl _) .nil)) rfl ?_
  refine RegV.p0 (v := (.d (.bool (!r11)))) rfl rfl rfl ?_
  refine RegV.p0 rfl rfl rfl ?_
  refine RegV.split (fun c13 => ?_) (fun c13 => ?_)
  · have h := cond_pos c13 h
    refine RegV.noS rfl rfl ?_
    refine RegV.noS rfl rfl ?_
    refine RegV.noS rfl rfl ?_
    refine RegV.noS rfl rfl ?_
    refine RegV.noS rfl rfl ?_
    refine RegV.noS rfl rfl ?_
    refine RegV.p0 rfl rfl rfl ?_
    refine RegV.nil0 ?_
    refine AWc.cond rfl (fun _ => ?_) (fun hc => by cases hc)
    refine AWc.seq ?_
    refine AWc.rg hmix rfl rfl ?_
    refine RegV.p0 rfl rfl rfl ?_
    refine RegV.nil0 ?_
    have hr := Option.some.inj h
    subst hr
    exact AWc.ret (canQ (N := 40) (k := 0) (l' := [(6, (.d (.bool false)))]) (H' := []) rfl ⟨rfl, [], [], rfl, rfl, ⟨⟨_, rfl, (.refl _)⟩, rfl, trivial⟩,  trivial⟩ (doneA (.inr rfl) rfl ⟨trivial, trivial⟩ (.refl _) hasNil))
  · have h := cond_neg c13 h
    refine RegV.p0 rfl rfl rfl ?_
    refine RegV.capW (ys := a0) (e := byteD) rfl rfl rfl ?_
    refine RegV.p0 rfl rfl rfl ?_
    refine RegV.len (xs := a2) (e := byteD) rfl rfl rfl rfl ?_
    refine RegV.p0 (v := (.d (.int .i64 (IntKind.i64.wrap (((a2.length : Nat) : Int) + (3 : Int)))))) rfl rfl rfl ?_
    refine RegV.p0 (v := (.d (.bool (decide (((a0.length : Nat) : Int) < (IntKind.i64.wrap (((a2.length : Nat) : Int) + (3 : Int)))))))) rfl rfl rfl ?_
    refine RegV.p0 rfl rfl rfl ?_
    refine RegV.nil0 ?_
    refine AWc.cond rfl (fun c21 => ?_) (fun c21 => ?_)
    · have h := cond_pos c21 h
      refine AWc.seq ?_
      refine AWc.rg hmix rfl rfl ?_
      refine RegV.p0 rfl rfl rfl ?_
      refine RegV.nil0 ?_
      have hr := Option.some.inj h
      subst hr
      exact AWc.ret (canQ (N := 40) (k := 0) (l' := [(6, (.d (.bool false)))]) (H' := []) rfl ⟨rfl, [], [], rfl, rfl, ⟨⟨_, rfl, (.refl _)⟩, rfl, trivial⟩,  trivial⟩ (doneA (.inr rfl) rfl ⟨trivial, trivial⟩ (.refl _) hasNil))
    · have h := cond_neg c21 h
      refine AWc.skip ?_
      refine AWc.seq ?_
      refine AWc.rg hmix rfl rfl ?_
      refine RegV.p0 rfl rfl rfl ?_
      refine RegV.p0 rfl rfl rfl ?_
      refine RegV.len (xs := a2) (e := byteD) rfl rfl rfl rfl ?_
      refine RegV.p0 (v := (.d (.int .i64 (IntKind.i64.wrap (((a2.length : Nat) : Int) + (3 : Int)))))) rfl rfl rfl ?_
      obtain ⟨b35, h⟩ := gd_some h
      refine RegV.slW (ys := a0) (e := byteD) (hi := (IntKind.i64.wrap (((a2.length : Nat) : Int) + (3 : Int)))) rfl rfl rfl b35 rfl ?_
      refine RegV.p0 rfl rfl rfl ?_
      refine RegV.nil0 ?_
      refine AWc.seq ?_
      refine AWc.seq ?_
      refine AWc.rg hmix rfl rfl ?_
      refine RegV.p0 rfl rfl rfl ?_
      refine RegV.len (xs := a2) (e := byteD) rfl rfl rfl rfl ?_
      refine RegV.p0 rfl rfl rfl ?_
      refine RegV.nil0 ?_
      obtain ⟨o44, h44, h⟩ := bind_some h
      refine AWc.block ?_
      refine AWc.loopK (N := 40) 0 (fun (x : Int) => [(2, (.d (.int .u8 ((a3.toNat : Nat) : Int)))), (7, (.win (List.map byteD a0) (((IntKind.i64.wrap (((a2.length : Nat) : Int) + (3 : Int)))).toNat))), (8, (.d (.int .i64 x)))]) (fun x => []) (fun k x => f29_l44 a2 a0 a3 k x = some o44) k ((a2.length : Nat) : Int) rfl_le (fun x hx => by cases hx) h44 ⟨rfl, [], [], rfl, rfl, ⟨⟨_, rfl, (.refl _)⟩, rfl, ⟨⟨_, rfl, (.refl _)⟩, rfl, ⟨⟨_, rfl, (.refl _)⟩, rfl, trivial⟩⟩⟩,  trivial⟩ ?_
      clear h44
      intro k
      intro y44_1 h44
      rw [f29_l44] at h44
      refine AWc.seq ?_
      refine AWc.seq ?_
      refine AWc.rg hmix rfl rfl ?_
      refine RegV.p0 rfl rfl rfl ?_
      refine RegV.p0 rfl rfl rfl ?_
      refine RegV.len (xs := (List.take (((IntKind.i64.wrap (((a2.length : Nat) : Int) + (3 : Int)))).toNat) a0)) (e := byteD) rfl rfl (toSlW _ _) rfl ?_
      refine RegV.p0 (v := (.d (.bool (decide (y44_1 < (((List.take (((IntKind.i64.wrap (((a2.length : Nat) : Int) + (3 : Int)))).toNat) a0).length : Nat) : Int)))))) rfl rfl rfl ?_
      refine RegV.nil0 ?_
      refine AWc.cond rfl (fun c54 => ?_) (fun c54 => ?_)
      · have h44 := cond_pos c54 h44
        refine AWc.skip ?_
        refine AWc.seq ?_
        refine AWc.block ?_
        refine AWc.seq ?_
        refine AWc.rg hmix rfl rfl ?_
        refine RegV.p0 rfl rfl rfl ?_
        refine RegV.p0 rfl rfl rfl ?_
        obtain ⟨b64, h44⟩ := gd_some h44
        refine RegV.iad (xs := (List.take (((IntKind.i64.wrap (((a2.length : Nat) : Int) + (3 : Int)))).toNat) a0)) (e := byteD) rfl rfl (toSlW _ _) rfl (fun _ => rfl) b64 rfl ?_
        refine RegV.p0 (v := (.d (.int .u8 (((rd (List.take (((IntKind.i64.wrap (((a2.length : Nat) : Int) + (3 : Int)))).toNat) a0) y44_1).toNat : Nat) : Int)))) rfl rfl rfl ?_
        refine RegV.p0 rfl rfl rfl ?_
        refine RegV.p0 (v := (.d (.bool (decide ((((rd (List.take (((IntKind.i64.wrap (((a2.length : Nat) : Int) + (3 : Int)))).toNat) a0) y44_1).toNat : Nat) : Int) ≠ ((a3.toNat : Nat) : Int)))))) rfl rfl rfl ?_
        refine RegV.nil0 ?_
        refine AWc.cond rfl (fun c68 => ?_) (fun c68 => ?_)
        · have h44 := cond_pos c68 h44
          refine AWc.seq ?_
          refine AWc.rg hmix rfl rfl ?_
          refine RegV.p0 rfl rfl rfl ?_
          refine RegV.nil0 ?_
          cases h44
          dsimp only at h
          have hr := Option.some.inj h
          subst hr
          exact AWc.ret (canQ (N := 40) (k := 0) (l' := [(6, (.d (.bool false)))]) (H' := []) rfl ⟨rfl, [], [], rfl, rfl, ⟨⟨_, rfl, (.refl _)⟩, rfl, trivial⟩,  trivial⟩ (doneA (.inr rfl) rfl ⟨trivial, trivial⟩ (.refl _) hasNil))
        · have h44 := cond_neg c68 h44
          refine AWc.skip ?_
          refine AWc.rg hmix rfl rfl ?_
          refine RegV.p0 rfl rfl rfl ?_
          refine RegV.p0 (v := (.d (.int .i64 (IntKind.i64.wrap (y44_1 + (1 : Int)))))) rfl rfl rfl ?_
          refine RegV.p0 rfl rfl rfl ?_
          refine RegV.nil0 ?_
          exact ⟨(IntKind.i64.wrap (y44_1 + (1 : Int))), h44, ⟨rfl, [], [], rfl, rfl, ⟨⟨_, rfl, (.refl _)⟩, rfl, ⟨⟨_, rfl, (.refl _)⟩, rfl, ⟨⟨_, rfl, (.refl _)⟩, rfl, trivial⟩⟩⟩,  trivial⟩⟩
      · have h44 := cond_neg c54 h44
        cases h44
        dsimp only at h
        refine AWc.exit ?_
        refine inBlk_eq ?_
        refine AWc.seq ?_
        refine AWc.rg hmix rfl rfl ?_
        refine RegV.p0 rfl rfl rfl ?_
        refine RegV.nil0 ?_
        have hr := Option.some.inj h
        subst hr
        exact AWc.ret (canQ (N := 40) (k := 0) (l' := [(6, (.d (.bool true)))]) (H' := []) rfl ⟨rfl, [], [], rfl, rfl, ⟨⟨_, rfl, (.refl _)⟩, rfl, trivial⟩,  trivial⟩ (doneA (.inr rfl) rfl ⟨trivial, trivial⟩ (.refl _) hasNil))
/-- courant/couranthelp.Spoil -/
def C45 (N : Nat → Nat) : AFunc := { n := 17, params := 1, res := [], body :=
 (.seq (.region false [⟨(some 2), .mv (.k (.d (.int .i64 0))), none, []⟩])
  (.block 0 (.loop (.seq (.seq (.region false [⟨(some 3), .mv (.t 2), none, []⟩,
       ⟨(some 4), .mv (.t 0), none, []⟩,
       ⟨(some 5), .len (.t 4), none, [1]⟩,
       ⟨(some 6), .bin .lss (.t 3) (.t 5), none, [0, 2]⟩])
      (.cond (.t 6) (.skip)
       (.exit 0)))
     (.seq (.block 1 (.region false [⟨(some 9), .mv (.t 0), none, []⟩,
        ⟨(some 10), .mv (.t 2), none, []⟩,
        ⟨(some 11), .mv (.t 0), none, []⟩,
        ⟨(some 12), .mv (.t 2), none, []⟩,
        ⟨(some 13), .iaddr (.t 11) (.t 12) 1, none, [2, 3]⟩,
        ⟨(some 14), .load (.t 13) 1 false, none, [4]⟩,
        ⟨(some 15), .bin .xor (.t 14) (.k (.d (.int .u8 85))), none, [5]⟩,
        ⟨(some 16), .iaddr (.t 9) (.t 10) 1, none, [0, 1, 2, 3, 4, 5, 6]⟩,
        ⟨none, .store (.t 16) (.t 15) 1, none, [7, 6, 0, 1, 2, 3, 4, 5]⟩]))
      (.region false [⟨(some 7), .mv (.t 2), none, []⟩,
       ⟨(some 8), .bin .add (.t 7) (.k (.d (.int .i64 1))), none, [0]⟩,
       ⟨(some 2), .mv (.t 8), none, [1, 0]⟩])))))) }
def HC45 (P : Program) (N : Nat → Nat) : Prop := HasF P (N 45) (C45 N)
def f45_l5 (a1 : Nat) : Nat → Int → (List UInt8) → Option (LR2 (List UInt8) Unit (List UInt8))
  | 0, _, _ => none
  | k + 1, y5_1, y5_2 => cond (decide (y5_1 < ((a1 : Nat) : Int))) (gd (0 ≤ y5_1 ∧ y5_1 < ((a1 : Nat) : Int)) (gd ((y5_1).toNat < y5_2.length) (gd (0 ≤ y5_1 ∧ y5_1 < ((a1 : Nat) : Int)) (gd ((y5_1).toNat < y5_2.length) (f45_l5 a1 k (IntKind.i64.wrap (y5_1 + (1 : Int))) (List.set y5_2 (y5_1).toNat (u8 (bitsA .xor .u8 (((List.getD y5_2 (y5_1).toNat default).toNat : Nat) : Int) (85 : Int))))))))) (some (.b0 y5_2))
def f45 (k : Nat) (a0 : (List UInt8)) (a1 : Nat) (a2 : Nat) : Option (List UInt8) := (f45_l5 a1 k (0 : Int) a0).bind fun o5 => match o5 with | .b0 x5_1 => some x5_1 | _ => none
theorem F45 {P : Program} {N : Nat → Nat} (hmix : P.follows .mixedOrders = true) (hc : HC45 P N) {k : Nat} {a0 : (List UInt8)} {a1 : Nat} {a2 : Nat} {r : (List UInt8)} (h : f45 k a0 a1 a2 = some r) :
    ACalls P (N 45) [(.sl 0 0 a1 a2 1)] [(0, (cellsO byteD a0))] (.tup []) [(0, (cellsO byteD r))] := by
  refine acalls_canon (F := C45 N) hc 1 1 rfl ?_
  unfold f45 at h
  dsimp only [C45, startL]
  refine AWc.seq ?_
  refine AWc.rg hmix rfl rfl ?_
  refine RegV.p0 rfl rfl rfl ?_
  refine RegV.nil0 ?_
  obtain ⟨o5, h5, h⟩ := bind_some h
  refine AWc.block ?_
  refine AWc.loopK (N := 17) 1 (fun (x : (Int × (List UInt8))) => [(0, (.sl 0 0 a1 a2 1)), (2, (.d (.int .i64 x.1)))]) (fun x => [(0, (cellsO byteD x.2))]) (fun k x => f45_l5 a1 k x.1 x.2 = some o5) k ((0 : Int), a0) rfl_le (fun x hx => by cases hx) h5 ⟨rfl, [], [], rfl, rfl, ⟨⟨_, rfl, (.refl _)⟩, rfl, ⟨⟨_, rfl, (.refl _)⟩, rfl, trivial⟩⟩, ⟨⟨_, rfl, (.refl _)⟩, rfl, rfl, trivial⟩⟩ ?_
  clear h5
  intro k
  rintro ⟨y5_1, y5_2⟩ h5
  dsimp only at h5 ⊢
  rw [f45_l5] at h5
  refine AWc.seq ?_
  refine AWc.seq ?_
  refine AWc.rg hmix rfl rfl ?_
  refine RegV.p0 rfl rfl rfl ?_
  refine RegV.p0 rfl rfl rfl ?_
  refine RegV.p0 (v := (.d (.int .i64 ((a1 : Nat) : Int)))) rfl rfl rfl ?_
  refine RegV.p0 (v := (.d (.bool (decide (y5_1 < ((a1 : Nat) : Int)))))) rfl rfl rfl ?_
  refine RegV.nil0 ?_
  refine AWc.cond rfl (fun c15 => ?_) (fun c15 => ?_)
  · have h5 := cond_pos c15 h5
    refine AWc.skip ?_
    refine AWc.seq ?_
    refine AWc.block ?_
    refine AWc.rg hmix rfl rfl ?_
    refine RegV.p0 rfl rfl rfl ?_
    refine RegV.p0 rfl rfl rfl ?_
    refine RegV.p0 rfl rfl rfl ?_
    refine RegV.p0 rfl rfl rfl ?_
    obtain ⟨b26, h5⟩ := gd_some h5
    refine RegV.iaS0 (z := 1) rfl rfl rfl b26 rfl ?_
    obtain ⟨b27, h5⟩ := gd_some h5
    refine RegV.ldS (e := byteD) (xs := y5_2) (i := (y5_1).toNat) (H' := [(0, (cellsO byteD y5_2))]) rfl rfl byteD_ok rfl b27 rfl rfl rfl rfl ?_
    refine RegV.p0 (v := (.d (.int .u8 (bitsA .xor .u8 (((List.getD y5_2 (y5_1).toNat default).toNat : Nat) : Int) (85 : Int))))) rfl rfl rfl ?_
    obtain ⟨b29, h5⟩ := gd_some h5
    refine RegV.iaS0 (z := 1) rfl rfl rfl b29 rfl ?_
    obtain ⟨b30, h5⟩ := gd_some h5
    refine RegV.stS (e := byteD) (xs := y5_2) (i := (y5_1).toNat) (v := (u8 (bitsA .xor .u8 (((List.getD y5_2 (y5_1).toNat default).toNat : Nat) : Int) (85 : Int)))) (H' := [(0, (cellsO byteD (List.set y5_2 (y5_1).toNat (u8 (bitsA .xor .u8 (((List.getD y5_2 (y5_1).toNat default).toNat : Nat) : Int) (85 : Int))))))]) rfl rfl rfl (cellsU8 (u8_bits _ _ _)) byteD_ok rfl b30 rfl rfl rfl ?_
    refine RegV.nil0 ?_
    refine AWc.rg hmix rfl rfl ?_
    refine RegV.p0 rfl rfl rfl ?_
    refine RegV.p0 (v := (.d (.int .i64 (IntKind.i64.wrap (y5_1 + (1 : Int)))))) rfl rfl rfl ?_
    refine RegV.p0 rfl rfl rfl ?_
    refine RegV.nil0 ?_
    exact ⟨((IntKind.i64.wrap (y5_1 + (1 : Int))), (List.set y5_2 (y5_1).toNat (u8 (bitsA .xor .u8 (((List.getD y5_2 (y5_1).toNat default).toNat : Nat) : Int) (85 : Int))))), h5, ⟨rfl, [], [], rfl, rfl, ⟨⟨_, rfl, (.refl _)⟩, rfl, ⟨⟨_, rfl, (.refl _)⟩, rfl, trivial⟩⟩, ⟨⟨_, rfl, (.refl _)⟩, rfl, rfl, trivial⟩⟩⟩
  · have h5 := cond_neg c15 h5
    cases h5
    dsimp only at h
    refine AWc.exit ?_
    refine inBlk_eq ?_
    have hr := Option.some.inj h
    subst hr
    exact canQ (N := 17) (k := 1) (l' := []) (H' := [(0, (cellsO byteD y5_2))]) rfl ⟨rfl, [], [], rfl, rfl,  trivial, ⟨⟨_, rfl, (.refl _)⟩, rfl, rfl, trivial⟩⟩ (doneA (.inl rfl) rfl trivial (.refl _) (hasCons rfl hasNil))
/-- (*courant/code.Reader).ready -/
def C84 (N : Nat → Nat) : AFunc := { n := 12, params := 1, res := [.tmp 2], body :=
 (.seq (.region false [⟨(some 2), .mv (.k (.d (.bool false))), none, []⟩])
  (.seq (.region false [⟨(some 3), .mv (.t 0), none, []⟩,
    ⟨(some 4), .nileq 1 true (.t 3) (.k (.d .nilp)), none, [0]⟩,
    ⟨(some 5), .mv (.t 4), none, [1]⟩,
    ⟨(some 6), .mv (.t 0), (some (5, true)), [2]⟩,
    ⟨(some 7), .nilchk (.t 6), (some (5, true)), [3, 2]⟩,
    ⟨(some 8), .faddr (.t 7) 2, (some (5, true)), [4, 2]⟩,
    ⟨(some 9), .load (.t 8) 1 false, (some (5, true)), [5, 2]⟩,
    ⟨(some 10), .bin .eql (.t 9) (.k (.d (.int .i64 0))), (some (5, true)), [6, 2]⟩,
    ⟨(some 11), .pick (.t 5) (.t 10) (.k (.d (.bool false))), none, [2, 7]⟩,
    ⟨(some 2), .mv (.t 11), none, [8, 2, 0, 1, 3, 4, 5, 6, 7]⟩])
   .ret)) }
def HC84 (P : Program) (N : Nat → Nat) : Prop := HasF P (N 84) (C84 N)
def f84 (k : Nat) (a0 : (List UInt8)) (a1 : Int) (a2 : Int) : Option Unit := some ()
theorem F84 {P : Program} {N : Nat → Nat} (hmix : P.follows .mixedOrders = true) (hc : HC84 P N) {k : Nat} {a0 : (List UInt8)} {a1 : Int} {a2 : Int} {r : Unit} (h : f84 k a0 a1 a2 = some r) :
    ACalls P (N 84) [(.ptr 0 0)] [(0, (.cells [(.d (.sl (List.map byteD a0))), (.d (.int .i64 a1)), (.d (.int .i64 a2))]))] (.d (.bool (decide (a2 = (0 : Int))))) [(0, (.cells [(.d (.sl (List.map byteD a0))), (.d (.int .i64 a1)), (.d (.int .i64 a2))]))] := by
  refine acalls_canon (F := C84 N) hc 1 1 rfl ?_
  unfold f84 at h
  dsimp only [C84, startL]
  refine AWc.seq ?_
  refine AWc.rg hmix rfl rfl ?_
  refine RegV.p0 rfl rfl rfl ?_
  refine RegV.nil0 ?_
  refine AWc.seq ?_
  refine AWc.rg hmix rfl rfl ?_
  refine RegV.p0 rfl rfl rfl ?_
  refine RegV.p0 (v := (.d (.bool true))) rfl rfl rfl ?_
  refine RegV.p0 rfl rfl rfl ?_
  refine RegV.p0 rfl rfl rfl ?_
  refine RegV.p0 rfl rfl rfl ?_
  refine RegV.p0 (v := (.ptr 0 2)) rfl rfl rfl ?_
  refine RegV.ld (v := (.d (.int .i64 a2))) (H' := [(0, (.cells [(.d (.sl (List.map byteD a0))), (.d (.int .i64 a1)), (.d (.int .i64 a2))]))]) rfl rfl trivial rfl rfl rfl rfl rfl ?_
  refine RegV.p0 (v := (.d (.bool (decide (a2 = (0 : Int)))))) rfl rfl rfl ?_
  refine RegV.p0 rfl rfl rfl ?_
  refine RegV.p0 rfl rfl rfl ?_
  refine RegV.nil0 ?_
  have hr := Option.some.inj h
  subst hr
  exact AWc.ret (canQ (N := 12) (k := 1) (l' := [(2, (.d (.bool (decide (a2 = (0 : Int))))))]) (H' := [(0, (.cells [(.d (.sl (List.map byteD a0))), (.d (.int .i64 a1)), (.d (.int .i64 a2))]))]) rfl ⟨rfl, [], [], rfl, rfl, ⟨⟨_, rfl, (.refl _)⟩, rfl, trivial⟩, ⟨⟨_, rfl, (.refl _)⟩, rfl, rfl, trivial⟩⟩ (doneA (.inr rfl) rfl ⟨trivial, trivial⟩ (.refl _) (hasCons rfl hasNil)))
/-- (*courant/code.Reader).fail -/
def C85 (N : Nat → Nat) : AFunc := { n := 14, params := 3, res := [], body :=
 (.region false [⟨(some 6), .mv (.t 0), none, []⟩,
  ⟨(some 7), .mv (.t 0), none, []⟩,
  ⟨(some 8), .mv (.t 1), none, []⟩,
  ⟨(some 9), .mv (.t 2), none, []⟩,
  ⟨(some 10), .nilchk (.t 6), none, [0, 2]⟩,
  ⟨(some 11), .faddr (.t 10) 1, none, [4, 0, 2]⟩,
  ⟨none, .store (.t 11) (.t 8) 1, none, [5, 2, 0]⟩,
  ⟨(some 12), .nilchk (.t 7), none, [1, 0, 2, 3, 4, 5, 6]⟩,
  ⟨(some 13), .faddr (.t 12) 2, none, [7, 0, 1, 2, 3, 4, 5, 6]⟩,
  ⟨none, .store (.t 13) (.t 9) 1, none, [8, 3, 6, 0, 1, 2, 4, 5]⟩]) }
def HC85 (P : Program) (N : Nat → Nat) : Prop := HasF P (N 85) (C85 N)
def f85 (k : Nat) (a0 : (List UInt8)) (a1 : Int) (a2 : Int) (a3 : Int) (a4 : Int) : Option Unit := some ()
theorem F85 {P : Program} {N : Nat → Nat} (hmix : P.follows .mixedOrders = true) (hc : HC85 P N) {k : Nat} {a0 : (List UInt8)} {a1 : Int} {a2 : Int} {a3 : Int} {a4 : Int} {r : Unit} (h : f85 k a0 a1 a2 a3 a4 = some r) :
    ACalls P (N 85) [(.ptr 0 0), (.d (.int .i64 a3)), (.d (.int .i64 a4))] [(0, (.cells [(.d (.sl (List.map byteD a0))), (.d (.int .i64 a1)), (.d (.int .i64 a2))]))] (.tup []) [(0, (.cells [(.d (.sl (List.map byteD a0))), (.d (.int .i64 a3)), (.d (.int .i64 a4))]))] := by
  refine acalls_canon (F := C85 N) hc 1 1 rfl ?_
  unfold f85 at h
  dsimp only [C85, startL]
  refine AWc.rg hmix rfl rfl ?_
  refine RegV.p0 rfl rfl rfl ?_
  refine RegV.p0 rfl rfl rfl ?_
  refine RegV.p0 rfl rfl rfl ?_
  refine RegV.p0 rfl rfl rfl ?_
  refine RegV.p0 rfl rfl rfl ?_
  refine RegV.p0 (v := (.ptr 0 1)) rfl rfl rfl ?_
  refine RegV.evN (own := false) (H' := [(0, (.cells [(.d (.sl (List.map byteD a0))), (.d (.int .i64 a3)), (.d (.int .i64 a2))]))]) (c' := 1) rfl rfl (by exact ⟨rfl, Nat.le_of_ble_eq_true rfl, rfl⟩) rfl rfl rfl rfl ?_
  refine RegV.p0 rfl rfl rfl ?_
  refine RegV.p0 (v := (.ptr 0 2)) rfl rfl rfl ?_
  refine RegV.evN (own := false) (H' := [(0, (.cells [(.d (.sl (List.map byteD a0))), (.d (.int .i64 a3)), (.d (.int .i64 a4))]))]) (c' := 1) rfl rfl (by exact ⟨rfl, Nat.le_of_ble_eq_true rfl, rfl⟩) rfl rfl rfl rfl ?_
  refine RegV.nil0 ?_
  have hr := Option.some.inj h
  subst hr
  exact canQ (N := 14) (k := 1) (l' := []) (H' := [(0, (.cells [(.d (.sl (List.map byteD a0))), (.d (.int .i64 a3)), (.d (.int .i64 a4))]))]) rfl ⟨rfl, [], [], rfl, rfl,  trivial, ⟨⟨_, rfl, (.refl _)⟩, rfl, rfl, trivial⟩⟩ (doneA (.inl rfl) rfl trivial (.refl _) (hasCons rfl hasNil))
/-- (*courant/code.Reader).Num -/
def C39 (N : Nat → Nat) : AFunc := { n := 73, params := 1, res := [.tmp 2], body :=
 (.seq (.region false [⟨(some 2), .mv (.k (.d (.int .u64 0))), none, []⟩])
  (.scope (.seq (.seq (.region false [⟨(some 8), .mv (.t 0), none, []⟩,
      ⟨(some 9), .call (.k (.d (.fn (N 84)))) [(.t 8)], none, [0]⟩,
      ⟨(some 10), .un .not (.t 9), none, [1]⟩])
     (.cond (.t 10) (.seq (.region false [⟨(some 2), .mv (.k (.d (.int .u64 0))), none, []⟩])
       .ret)
      (.skip)))
    (.seq (.region false [⟨(some 11), .mv (.t 0), none, []⟩,
      ⟨(some 12), .nilchk (.t 11), none, [0]⟩,
      ⟨(some 13), .faddr (.t 12) 1, none, [1]⟩,
      ⟨(some 14), .load (.t 13) 1 false, none, [2]⟩,
      ⟨(some 3), .mv (.t 14), none, [3, 0, 1, 2]⟩,
      ⟨(some 4), .mv (.k (.d (.int .u64 0))), none, [4, 0, 1, 2, 3]⟩,
      ⟨(some 5), .mv (.k (.d (.int .i64 3))), none, [5, 0, 1, 2, 3, 4]⟩])
     (.seq (.label 0)
      (.seq (.seq (.region false [⟨(some 6), .mv (.k (.d (.int .i64 0))), none, []⟩])
        (.block 0 (.loop (.seq (.seq (.region true [⟨(some 15), .mv (.t 0), none, []⟩,
             ⟨(some 16), .nilchk (.t 15), none, [0]⟩,
             ⟨(some 17), .faddr (.t 16) 1, none, [1]⟩,
             ⟨(some 18), .load (.t 17) 1 false, none, [2]⟩,
             ⟨(some 19), .mv (.t 0), none, []⟩,
             ⟨(some 20), .nilchk (.t 19), none, [4]⟩,
             ⟨(some 21), .faddr (.t 20) 0, none, [5]⟩,
             ⟨(some 22), .load (.t 21) 1 false, none, [6]⟩,
             ⟨(some 23), .len (.t 22), none, [7]⟩,
             ⟨(some 24), .bin .lss (.t 18) (.t 23), none, [3, 8]⟩])
            (.cond (.t 24) (.skip)
             (.exit 0)))
           (.seq (.block 1 (.seq (.region true [⟨(some 27), .mv (.t 0), none, []⟩,
               ⟨(some 28), .nilchk (.t 27), none, [0]⟩,
               ⟨(some 29), .faddr (.t 28) 0, none, [1]⟩,
               ⟨(some 30), .load (.t 29) 1 false, none, [2]⟩,
               ⟨(some 31), .mv (.t 0), none, []⟩,
               ⟨(some 32), .nilchk (.t 31), none, [4]⟩,
               ⟨(some 33), .faddr (.t 32) 1, none, [5]⟩,
               ⟨(some 34), .load (.t 33) 1 false, none, [6]⟩,
               ⟨(some 35), .iaddr (.t 30) (.t 34) 1, none, [3, 7]⟩,
               ⟨(some 36), .load (.t 35) 1 false, none, [8]⟩,
               ⟨(some 7), .mv (.t 36), none, [9, 0, 1, 2, 3, 4, 5, 6, 7, 8]⟩])
              (.seq (.region false [⟨(some 37), .mv (.t 0), none, []⟩,
                ⟨(some 38), .nilchk (.t 37), none, [0]⟩,
                ⟨(some 39), .faddr (.t 38) 1, none, [1]⟩,
                ⟨(some 40), .load (.t 39) 1 false, none, [2]⟩,
                ⟨(some 41), .bin .add (.t 40) (.k (.d (.int .i64 1))), none, [3]⟩,
                ⟨(some 42), .nilchk (.t 37), none, [0, 1, 2, 3, 4]⟩,
                ⟨(some 43), .faddr (.t 42) 1, none, [5, 0, 1, 2, 3, 4]⟩,
                ⟨none, .store (.t 43) (.t 41) 1, none, [6, 4, 0, 1, 2, 3]⟩])
               (.seq (.region false [⟨(some 44), .mv (.t 4), none, []⟩,
                 ⟨(some 45), .mv (.t 7), none, []⟩,
                 ⟨(some 46), .bin .and (.t 45) (.k (.d (.int .u8 127))), none, [1]⟩,
                 ⟨(some 47), .cvi .u64 (.t 46), none, [2]⟩,
                 ⟨(some 48), .mv (.t 6), none, []⟩,
                 ⟨(some 49), .bin .mul (.k (.d (.int .i64 7))) (.t 48), none, [4]⟩,
                 ⟨(some 50), .bin .shl (.t 47) (.t 49), none, [3, 5]⟩,
                 ⟨(some 51), .bin .or (.t 44) (.t 50), none, [0, 6]⟩,
                 ⟨(some 4), .mv (.t 51), none, [7, 0, 1, 2, 3, 4, 5, 6]⟩])
                (.block 2 (.seq (.seq (.region false [⟨(some 53), .mv (.t 6), none, []⟩,
                    ⟨(some 54), .bin .eql (.t 53) (.k (.d (.int .i64 9))), none, [0]⟩,
                    ⟨(some 55), .mv (.t 54), none, [1]⟩,
                    ⟨(some 56), .mv (.t 7), (some (55, true)), [2]⟩,
                    ⟨(some 57), .bin .gtr (.t 56) (.k (.d (.int .u8 1))), (some (55, true)), [3, 2]⟩,
                    ⟨(some 58), .pick (.t 55) (.t 57) (.k (.d (.bool false))), none, [2, 4]⟩,
                    ⟨(some 52), .mv (.t 58), none, [5, 2]⟩])
                   (.cond (.t 52) (.skip)
                    (.region false [⟨(some 59), .mv (.t 6), none, []⟩,
                     ⟨(some 60), .bin .gtr (.t 59) (.k (.d (.int .i64 0))), none, [0]⟩,
                     ⟨(some 61), .mv (.t 60), none, [1]⟩,
                     ⟨(some 62), .mv (.t 7), (some (61, true)), [2]⟩,
                     ⟨(some 63), .bin .eql (.t 62) (.k (.d (.int .u8 0))), (some (61, true)), [3, 2]⟩,
                     ⟨(some 64), .pick (.t 61) (.t 63) (.k (.d (.bool false))), none, [2, 4]⟩,
                     ⟨(some 52), .mv (.t 64), none, [5, 2]⟩])))
                  (.cond (.t 52) (.seq (.region false [⟨(some 5), .mv (.k (.d (.int .i64 4))), none, []⟩])
                    (.exit 0))
                   (.seq (.region false [⟨(some 66), .mv (.t 7), none, []⟩,
                     ⟨(some 67), .bin .lss (.t 66) (.k (.d (.int .u8 128))), none, [0]⟩,
                     ⟨(some 65), .mv (.t 67), none, [1]⟩])
                    (.cond (.t 65) (.seq (.region false [⟨(some 68), .mv (.t 4), none, []⟩,
                       ⟨(some 2), .mv (.t 68), none, [0]⟩])
                      .ret)
                     (.skip))))))))))
            (.region false [⟨(some 25), .mv (.t 6), none, []⟩,
             ⟨(some 26), .bin .add (.t 25) (.k (.d (.int .i64 1))), none, [0]⟩,
             ⟨(some 6), .mv (.t 26), none, [1, 0]⟩]))))))
       (.seq (.region false [⟨(some 69), .mv (.t 0), none, []⟩,
         ⟨(some 70), .mv (.t 3), none, []⟩,
         ⟨(some 71), .mv (.t 5), none, []⟩,
         ⟨(some 72), .call (.k (.d (.fn (N 85)))) [(.t 69), (.t 70), (.t 71)], none, [0, 1, 2]⟩])
        (.seq (.region false [⟨(some 2), .mv (.k (.d (.int .u64 0))), none, []⟩])
         .ret)))))))) }
def HC39 (P : Program) (N : Nat → Nat) : Prop := HasF P (N 39) (C39 N) ∧ HC84 P N ∧ HC85 P N
def f39_j143 (k : Nat) (a0 : (List UInt8)) (a2 : Int) (a1 : Int) (j143_1 : Int) (j143_2 : Int) : Option (Int × Int × Int) := (f85 k a0 j143_2 a2 a1 j143_1).bind fun r149 => some ((0 : Int), a1, j143_1)
def f39_j118 (L : Int → Int → Int → Option (LR2 (Int × Int) Unit (Int × Int × Int))) (k : Nat) (y37_3 : Int) (a0 : (List UInt8)) (y37_1 : Int) (y37_2 : Int) (a2 : Int) (j118_1 : Bool) : Option (LR2 (Int × Int) Unit (Int × Int × Int)) := cond j118_1 (some (.b0 ((4 : Int), (IntKind.i64.wrap (y37_3 + (1 : Int)))))) (cond (decide ((((rd a0 y37_3).toNat : Nat) : Int) < (128 : Int))) (some (.r ((bitsA .or .u64 y37_1 (IntKind.u64.wrap ((IntKind.u64.wrap (bitsA .and .u8 (((rd a0 y37_3).toNat : Nat) : Int) (127 : Int))) * 2 ^ (min ((IntKind.i64.wrap ((7 : Int) * y37_2))).toNat IntKind.u64.bits)))), (IntKind.i64.wrap (y37_3 + (1 : Int))), a2))) (L (bitsA .or .u64 y37_1 (IntKind.u64.wrap ((IntKind.u64.wrap (bitsA .and .u8 (((rd a0 y37_3).toNat : Nat) : Int) (127 : Int))) * 2 ^ (min ((IntKind.i64.wrap ((7 : Int) * y37_2))).toNat IntKind.u64.bits)))) (IntKind.i64.wrap (y37_2 + (1 : Int))) (IntKind.i64.wrap (y37_3 + (1 : Int)))))
def f39_j107 (L : Int → Int → Int → Option (LR2 (Int × Int) Unit (Int × Int × Int))) (k : Nat) (y37_3 : Int) (a0 : (List UInt8)) (y37_1 : Int) (y37_2 : Int) (a2 : Int) (j107_1 : Bool) : Option (LR2 (Int × Int) Unit (Int × Int × Int)) := cond j107_1 (f39_j118 (L) k y37_3 a0 y37_1 y37_2 a2 j107_1) (cond (decide (y37_2 > (0 : Int))) (f39_j118 (L) k y37_3 a0 y37_1 y37_2 a2 (decide ((((rd a0 y37_3).toNat : Nat) : Int) = (0 : Int)))) (f39_j118 (L) k y37_3 a0 y37_1 y37_2 a2 false))
def f39_l37 (a0 : (List UInt8)) (a2 : Int) : Nat → Int → Int → Int → Option (LR2 (Int × Int) Unit (Int × Int × Int))
  | 0, _, _, _ => none
  | k + 1, y37_1, y37_2, y37_3 => cond (decide (y37_3 < ((a0.length : Nat) : Int))) (gd (0 ≤ y37_3 ∧ y37_3 < ((a0.length : Nat) : Int)) (gd (0 ≤ (IntKind.i64.wrap ((7 : Int) * y37_2))) (cond (decide (y37_2 = (9 : Int))) (f39_j107 (f39_l37 a0 a2 k) k y37_3 a0 y37_1 y37_2 a2 (decide ((((rd a0 y37_3).toNat : Nat) : Int) > (1 : Int)))) (f39_j107 (f39_l37 a0 a2 k) k y37_3 a0 y37_1 y37_2 a2 false)))) (some (.b0 ((3 : Int), y37_3)))
def f39 (k : Nat) (a0 : (List UInt8)) (a1 : Int) (a2 : Int) : Option (Int × Int × Int) := (f84 k a0 a1 a2).bind fun r11 => cond (!(decide (a2 = (0 : Int)))) (some ((0 : Int), a1, a2)) ((f39_l37 a0 a2 k (0 : Int) (0 : Int) a1).bind fun o37 => match o37 with | .b0 (x37_1, x37_2) => f39_j143 k a0 a2 a1 x37_1 x37_2 | .r x => some x | _ => none)
theorem F39 {P : Program} {N : Nat → Nat} (hmix : P.follows .mixedOrders = true) (hc : HC39 P N) {k : Nat} {a0 : (List UInt8)} {a1 : Int} {a2 : Int} {r : (Int × Int × Int)} (h : f39 k a0 a1 a2 = some r) :
    ACalls P (N 39) [(.ptr 0 0)] [(0, (.cells [(.d (.sl (List.map byteD a0))), (.d (.int .i64 a1)), (.d (.int .i64 a2))]))] (.d (.int .u64 r.1)) [(0, (.cells [(.d (.sl (List.map byteD a0))), (.d (.int .i64 r.2.1)), (.d (.int .i64 r.2.2))]))] := by
  refine acalls_canon (F := C39 N) hc.1 1 1 rfl ?_
  unfold f39 at h
  dsimp only [C39, startL]
  refine AWc.seq ?_
  refine AWc.rg hmix rfl rfl ?_
  refine RegV.p0 rfl rfl rfl ?_
  refine RegV.nil0 ?_
  refine AWc.scope ?_
  refine AWc.seq ?_
  refine AWc.seq ?_
  refine AWc.rg hmix rfl rfl ?_
  refine RegV.p0 rfl rfl rfl ?_
  obtain ⟨r11, e11, h⟩ := bind_some h
  refine RegV.callS (q := true) (H' := [(0, (.cells [(.d (.sl (List.map byteD a0))), (.d (.int .i64 a1)), (.d (.int .i64 a2))]))]) (c' := 1) (show ACalls P (N 84) [(.ptr 0 0)] [(0, (.cells [(.d (.sl (List.map byteD a0))), (.d (.int .i64 a1)), (.d (.int .i64 a2))]))] (.d (.bool (decide (a2 = (0 : Int))))) [(0, (.cells [(.d (.sl (List.map byteD a0))), (.d (.int .i64 a1)), (.d (.int .i64 a2))]))] from ACalls.use (F84 hmix hc.2.1 e11) [(0, 0)] 1 rfl) rfl rfl rfl rfl (.cons (.refl _) .nil) (.refl _) (fun _ => rfl) rfl (hasCons rfl hasNil) rfl rfl rfl rfl ?_
  refine RegV.p0 (v := (.d (.bool (!(decide (a2 = (0 : Int))))))) rfl rfl rfl ?_
  refine RegV.nil0 ?_
  refine AWc.cond rfl (fun c13 => ?_) (fun c13 => ?_)
  · have h := cond_pos c13 h
    refine AWc.seq ?_
    refine AWc.rg hmix rfl rfl ?_
    refine RegV.p0 rfl rfl rfl ?_
    refine RegV.nil0 ?_
    have hr := Option.some.inj h
    subst hr
    exact AWc.ret (canQ (N := 73) (k := 1) (l' := [(2, (.d (.int .u64 (0 : Int))))]) (H' := [(0, (.cells [(.d (.sl (List.map byteD a0))), (.d (.int .i64 a1)), (.d (.int .i64 a2))]))]) rfl ⟨rfl, [], [], rfl, rfl, ⟨⟨_, rfl, (.refl _)⟩, rfl, trivial⟩, ⟨⟨_, rfl, (.refl _)⟩, rfl, rfl, trivial⟩⟩ (doneA (.inr rfl) rfl ⟨trivial, trivial⟩ (.refl _) (hasCons rfl hasNil)))
  · have h := cond_neg c13 h
    refine AWc.skip ?_
    refine AWc.seq ?_
    refine AWc.rg hmix rfl rfl ?_
    refine RegV.p0 rfl rfl rfl ?_
    refine RegV.p0 rfl rfl rfl ?_
    refine RegV.p0 (v := (.ptr 0 1)) rfl rfl rfl ?_
    refine RegV.ld (v := (.d (.int .i64 a1))) (H' := [(0, (.cells [(.d (.sl (List.map byteD a0))), (.d (.int .i64 a1)), (.d (.int .i64 a2))]))]) rfl rfl trivial rfl rfl rfl rfl rfl ?_
    refine RegV.p0 rfl rfl rfl ?_
    refine RegV.p0 rfl rfl rfl ?_
    refine RegV.p0 rfl rfl rfl ?_
    refine RegV.nil0 ?_
    refine AWc.seq ?_
    refine AWc.label ?_
    refine AWc.seqS (N := 73) 1 (fun (z : (Int × Int)) => [(0, (.ptr 0 0)), (3, (.d (.int .i64 a1))), (5, (.d (.int .i64 z.1)))]) (fun z => [(0, (.cells [(.d (.sl (List.map byteD a0))), (.d (.int .i64 z.2)), (.d (.int .i64 a2))]))]) (fun z => f39_j143 k a0 a2 a1 z.1 z.2 = some r) rfl_le ?_ ?_
    · refine AWc.seq ?_
      refine AWc.rg hmix rfl rfl ?_
      refine RegV.p0 rfl rfl rfl ?_
      refine RegV.nil0 ?_
      obtain ⟨o37, h37, h⟩ := bind_some h
      refine AWc.block ?_
      refine AWc.loopK (N := 73) 1 (fun (x : (Int × Int × Int)) => [(0, (.ptr 0 0)), (3, (.d (.int .i64 a1))), (4, (.d (.int .u64 x.1))), (5, (.d (.int .i64 (3 : Int)))), (6, (.d (.int .i64 x.2.1)))]) (fun x => [(0, (.cells [(.d (.sl (List.map byteD a0))), (.d (.int .i64 x.2.2)), (.d (.int .i64 a2))]))]) (fun k x => f39_l37 a0 a2 k x.1 x.2.1 x.2.2 = some o37) k ((0 : Int), (0 : Int), a1) rfl_le (fun x hx => by cases hx) h37 ⟨rfl, [], [], rfl, rfl, ⟨⟨_, rfl, (.refl _)⟩, rfl, ⟨⟨_, rfl, (.refl _)⟩, rfl, ⟨⟨_, rfl, (.refl _)⟩, rfl, ⟨⟨_, rfl, (.refl _)⟩, rfl, ⟨⟨_, rfl, (.refl _)⟩, rfl, trivial⟩⟩⟩⟩⟩, ⟨⟨_, rfl, (.refl _)⟩, rfl, rfl, trivial⟩⟩ ?_
      clear h37
      intro k
      rintro ⟨y37_1, y37_2, y37_3⟩ h37
      dsimp only at h37 ⊢
      rw [f39_l37] at h37
      refine AWc.seq ?_
      refine AWc.seq ?_
      refine AWc.rg hmix rfl rfl ?_
      refine RegV.p0 rfl rfl rfl ?_
      refine RegV.p0 rfl rfl rfl ?_
      refine RegV.p0 (v := (.ptr 0 1)) rfl rfl rfl ?_
      refine RegV.ld (v := (.d (.int .i64 y37_3))) (H' := [(0, (.cells [(.d (.sl (List.map byteD a0))), (.d (.int .i64 y37_3)), (.d (.int .i64 a2))]))]) rfl rfl trivial rfl rfl rfl rfl rfl ?_
      refine RegV.p0 rfl rfl rfl ?_
      refine RegV.p0 rfl rfl rfl ?_
      refine RegV.p0 (v := (.ptr 0 0)) rfl rfl rfl ?_
      refine RegV.ld (v := (.d (.sl (List.map byteD a0)))) (H' := [(0, (.cells [(.d (.sl (List.map byteD a0))), (.d (.int .i64 y37_3)), (.d (.int .i64 a2))]))]) rfl rfl trivial rfl rfl rfl rfl rfl ?_
      refine RegV.len (xs := a0) (e := byteD) rfl rfl rfl rfl ?_
      refine RegV.p0 (v := (.d (.bool (decide (y37_3 < ((a0.length : Nat) : Int)))))) rfl rfl rfl ?_
      refine RegV.nil1 (by kernel_rfl) ?_
      refine AWc.cond rfl (fun c53 => ?_) (fun c53 => ?_)
      · have h37 := cond_pos c53 h37
        refine AWc.skip ?_
        refine AWc.seq ?_
        refine AWc.block ?_
        refine AWc.seq ?_
        refine AWc.rg hmix rfl rfl ?_
        refine RegV.p0 rfl rfl rfl ?_
        refine RegV.p0 rfl rfl rfl ?_
        refine RegV.p0 (v := (.ptr 0 0)) rfl rfl rfl ?_
        refine RegV.ld (v := (.d (.sl (List.map byteD a0)))) (H' := [(0, (.cells [(.d (.sl (List.map byteD a0))), (.d (.int .i64 y37_3)), (.d (.int .i64 a2))]))]) rfl rfl trivial rfl rfl rfl rfl rfl ?_
        refine RegV.p0 rfl rfl rfl ?_
        refine RegV.p0 rfl rfl rfl ?_
        refine RegV.p0 (v := (.ptr 0 1)) rfl rfl rfl ?_
        refine RegV.ld (v := (.d (.int .i64 y37_3))) (H' := [(0, (.cells [(.d (.sl (List.map byteD a0))), (.d (.int .i64 y37_3)), (.d (.int .i64 a2))]))]) rfl rfl trivial rfl rfl rfl rfl rfl ?_
        obtain ⟨b69, h37⟩ := gd_some h37
        refine RegV.iad (xs := a0) (e := byteD) rfl rfl rfl rfl (fun _ => rfl) b69 rfl ?_
        refine RegV.p0 (v := (.d (.int .u8 (((rd a0 y37_3).toNat : Nat) : Int)))) rfl rfl rfl ?_
        refine RegV.p0 rfl rfl rfl ?_
        refine RegV.nil1 (by kernel_rfl) ?_
        refine AWc.seq ?_
        refine AWc.rg hmix rfl rfl ?_
        refine RegV.p0 rfl rfl rfl ?_
        refine RegV.p0 rfl rfl rfl ?_
        refine RegV.p0 (v := (.ptr 0 1)) rfl rfl rfl ?_
        refine RegV.ld (v := (.d (.int .i64 y37_3))) (H' := [(0, (.cells [(.d (.sl (List.map byteD a0))), (.d (.int .i64 y37_3)), (.d (.int .i64 a2))]))]) rfl rfl trivial rfl rfl rfl rfl rfl ?_
        refine RegV.p0 (v := (.d (.int .i64 (IntKind.i64.wrap (y37_3 + (1 : Int)))))) rfl rfl rfl ?_
        refine RegV.p0 rfl rfl rfl ?_
        refine RegV.p0 (v := (.ptr 0 1)) rfl rfl rfl ?_
        refine RegV.evN (own := false) (H' := [(0, (.cells [(.d (.sl (List.map byteD a0))), (.d (.int .i64 (IntKind.i64.wrap (y37_3 + (1 : Int))))), (.d (.int .i64 a2))]))]) (c' := 1) rfl rfl (by exact ⟨rfl, Nat.le_of_ble_eq_true rfl, rfl⟩) rfl rfl rfl rfl ?_
        refine RegV.nil0 ?_
        refine AWc.seq ?_
        refine AWc.rg hmix rfl rfl ?_
        refine RegV.p0 rfl rfl rfl ?_
        refine RegV.p0 rfl rfl rfl ?_
        refine RegV.p0 (v := (.d (.int .u8 (bitsA .and .u8 (((rd a0 y37_3).toNat : Nat) : Int) (127 : Int))))) rfl rfl rfl ?_
        refine RegV.p0 (v := (.d (.int .u64 (IntKind.u64.wrap (bitsA .and .u8 (((rd a0 y37_3).toNat : Nat) : Int) (127 : Int)))))) rfl rfl rfl ?_
        refine RegV.p0 rfl rfl rfl ?_
        refine RegV.p0 (v := (.d (.int .i64 (IntKind.i64.wrap ((7 : Int) * y37_2))))) rfl rfl rfl ?_
        obtain ⟨b92, h37⟩ := gd_some h37
        refine RegV.p1 (v := (.d (.int .u64 (IntKind.u64.wrap ((IntKind.u64.wrap (bitsA .and .u8 (((rd a0 y37_3).toNat : Nat) : Int) (127 : Int))) * 2 ^ (min ((IntKind.i64.wrap ((7 : Int) * y37_2))).toNat IntKind.u64.bits)))))) rfl rfl b92 rfl rfl ?_
        refine RegV.p0 (v := (.d (.int .u64 (bitsA .or .u64 y37_1 (IntKind.u64.wrap ((IntKind.u64.wrap (bitsA .and .u8 (((rd a0 y37_3).toNat : Nat) : Int) (127 : Int))) * 2 ^ (min ((IntKind.i64.wrap ((7 : Int) * y37_2))).toNat IntKind.u64.bits))))))) rfl rfl rfl ?_
        refine RegV.p0 rfl rfl rfl ?_
        refine RegV.nil0 ?_
        refine AWc.block ?_
        refine AWc.seqS (N := 73) 1 (fun (z : Bool) => [(0, (.ptr 0 0)), (3, (.d (.int .i64 a1))), (4, (.d (.int .u64 (bitsA .or .u64 y37_1 (IntKind.u64.wrap ((IntKind.u64.wrap (bitsA .and .u8 (((rd a0 y37_3).toNat : Nat) : Int) (127 : Int))) * 2 ^ (min ((IntKind.i64.wrap ((7 : Int) * y37_2))).toNat IntKind.u64.bits))))))), (5, (.d (.int .i64 (3 : Int)))), (6, (.d (.int .i64 y37_2))), (7, (.d (.int .u8 (((rd a0 y37_3).toNat : Nat) : Int)))), (52, (.d (.bool z))), (56, .any), (57, .any)]) (fun z => [(0, (.cells [(.d (.sl (List.map byteD a0))), (.d (.int .i64 (IntKind.i64.wrap (y37_3 + (1 : Int))))), (.d (.int .i64 a2))]))]) (fun z => f39_j118 (f39_l37 a0 a2 k) k y37_3 a0 y37_1 y37_2 a2 z = some o37) rfl_le ?_ ?_
        · refine AWc.seqS (N := 73) 1 (fun (z : Bool) => [(0, (.ptr 0 0)), (3, (.d (.int .i64 a1))), (4, (.d (.int .u64 (bitsA .or .u64 y37_1 (IntKind.u64.wrap ((IntKind.u64.wrap (bitsA .and .u8 (((rd a0 y37_3).toNat : Nat) : Int) (127 : Int))) * 2 ^ (min ((IntKind.i64.wrap ((7 : Int) * y37_2))).toNat IntKind.u64.bits))))))), (5, (.d (.int .i64 (3 : Int)))), (6, (.d (.int .i64 y37_2))), (7, (.d (.int .u8 (((rd a0 y37_3).toNat : Nat) : Int)))), (52, (.d (.bool z))), (56, .any), (57, .any)]) (fun z => [(0, (.cells [(.d (.sl (List.map byteD a0))), (.d (.int .i64 (IntKind.i64.wrap (y37_3 + (1 : Int))))), (.d (.int .i64 a2))]))]) (fun z => f39_j107 (f39_l37 a0 a2 k) k y37_3 a0 y37_1 y37_2 a2 z = some o37) rfl_le ?_ ?_
          · refine AWc.rg hmix rfl rfl ?_
            refine RegV.p0 rfl rfl rfl ?_
            refine RegV.p0 (v := (.d (.bool (decide (y37_2 = (9 : Int)))))) rfl rfl rfl ?_
            refine RegV.p0 rfl rfl rfl ?_
            refine RegV.split (fun c102 => ?_) (fun c102 => ?_)
            · have h37 := cond_pos c102 h37
              refine RegV.p0 rfl rfl rfl ?_
              refine RegV.p0 (v := (.d (.bool (decide ((((rd a0 y37_3).toNat : Nat) : Int) > (1 : Int)))))) rfl rfl rfl ?_
              refine RegV.p0 rfl rfl rfl ?_
              refine RegV.p0 rfl rfl rfl ?_
              refine RegV.nil0 ?_
              exact ⟨(decide ((((rd a0 y37_3).toNat : Nat) : Int) > (1 : Int))), h37, ⟨rfl, [], [], rfl, rfl, ⟨⟨_, rfl, (.refl _)⟩, rfl, ⟨⟨_, rfl, (.refl _)⟩, rfl, ⟨⟨_, rfl, (.refl _)⟩, rfl, ⟨⟨_, rfl, (.refl _)⟩, rfl, ⟨⟨_, rfl, (.refl _)⟩, rfl, ⟨⟨_, rfl, (.refl _)⟩, rfl, ⟨⟨_, rfl, (.refl _)⟩, rfl, ⟨⟨_, rfl, (.any _)⟩, rfl, ⟨⟨_, rfl, (.any _)⟩, rfl, trivial⟩⟩⟩⟩⟩⟩⟩⟩⟩, ⟨⟨_, rfl, (.refl _)⟩, rfl, rfl, trivial⟩⟩⟩
            · have h37 := cond_neg c102 h37
              refine RegV.noS rfl rfl ?_
              refine RegV.noS rfl rfl ?_
              refine RegV.p0 rfl rfl rfl ?_
              refine RegV.p0 rfl rfl rfl ?_
              refine RegV.nil0 ?_
              exact ⟨false, h37, ⟨rfl, [], [], rfl, rfl, ⟨⟨_, rfl, (.refl _)⟩, rfl, ⟨⟨_, rfl, (.refl _)⟩, rfl, ⟨⟨_, rfl, (.refl _)⟩, rfl, ⟨⟨_, rfl, (.refl _)⟩, rfl, ⟨⟨_, rfl, (.refl _)⟩, rfl, ⟨⟨_, rfl, (.refl _)⟩, rfl, ⟨⟨_, rfl, (.refl _)⟩, rfl, ⟨⟨_, rfl, (.any _)⟩, rfl, ⟨⟨_, rfl, (.any _)⟩, rfl, trivial⟩⟩⟩⟩⟩⟩⟩⟩⟩, ⟨⟨_, rfl, (.refl _)⟩, rfl, rfl, trivial⟩⟩⟩
          · intro j107_1 h37
            unfold f39_j107 at h37
            refine AWc.cond rfl (fun c107 => ?_) (fun c107 => ?_)
            · have h37 := cond_pos c107 h37
              refine AWc.skip ?_
              exact ⟨j107_1, h37, ⟨rfl, [], [], rfl, rfl, ⟨⟨_, rfl, (.refl _)⟩, rfl, ⟨⟨_, rfl, (.refl _)⟩, rfl, ⟨⟨_, rfl, (.refl _)⟩, rfl, ⟨⟨_, rfl, (.refl _)⟩, rfl, ⟨⟨_, rfl, (.refl _)⟩, rfl, ⟨⟨_, rfl, (.refl _)⟩, rfl, ⟨⟨_, rfl, (.refl _)⟩, rfl, ⟨⟨_, rfl, (.refl _)⟩, rfl, ⟨⟨_, rfl, (.refl _)⟩, rfl, trivial⟩⟩⟩⟩⟩⟩⟩⟩⟩, ⟨⟨_, rfl, (.refl _)⟩, rfl, rfl, trivial⟩⟩⟩
            · have h37 := cond_neg c107 h37
              refine AWc.rg hmix rfl rfl ?_
              refine RegV.p0 rfl rfl rfl ?_
              refine RegV.p0 (v := (.d (.bool (decide (y37_2 > (0 : Int)))))) rfl rfl rfl ?_
              refine RegV.p0 rfl rfl rfl ?_
              refine RegV.split (fun c113 => ?_) (fun c113 => ?_)
              · have h37 := cond_pos c113 h37
                refine RegV.p0 rfl rfl rfl ?_
                refine RegV.p0 (v := (.d (.bool (decide ((((rd a0 y37_3).toNat : Nat) : Int) = (0 : Int)))))) rfl rfl rfl ?_
                refine RegV.p0 rfl rfl rfl ?_
                refine RegV.p0 rfl rfl rfl ?_
                refine RegV.nil0 ?_
                exact ⟨(decide ((((rd a0 y37_3).toNat : Nat) : Int) = (0 : Int))), h37, ⟨rfl, [], [], rfl, rfl, ⟨⟨_, rfl, (.refl _)⟩, rfl, ⟨⟨_, rfl, (.refl _)⟩, rfl, ⟨⟨_, rfl, (.refl _)⟩, rfl, ⟨⟨_, rfl, (.refl _)⟩, rfl, ⟨⟨_, rfl, (.refl _)⟩, rfl, ⟨⟨_, rfl, (.refl _)⟩, rfl, ⟨⟨_, rfl, (.refl _)⟩, rfl, ⟨⟨_, rfl, (.refl _)⟩, rfl, ⟨⟨_, rfl, (.refl _)⟩, rfl, trivial⟩⟩⟩⟩⟩⟩⟩⟩⟩, ⟨⟨_, rfl, (.refl _)⟩, rfl, rfl, trivial⟩⟩⟩
              · have h37 := cond_neg c113 h37
                refine RegV.noS rfl rfl ?_
                refine RegV.noS rfl rfl ?_
                refine RegV.p0 rfl rfl rfl ?_
                refine RegV.p0 rfl rfl rfl ?_
                refine RegV.nil0 ?_
                exact ⟨false, h37, ⟨rfl, [], [], rfl, rfl, ⟨⟨_, rfl, (.refl _)⟩, rfl, ⟨⟨_, rfl, (.refl _)⟩, rfl, ⟨⟨_, rfl, (.refl _)⟩, rfl, ⟨⟨_, rfl, (.refl _)⟩, rfl, ⟨⟨_, rfl, (.refl _)⟩, rfl, ⟨⟨_, rfl, (.refl _)⟩, rfl, ⟨⟨_, rfl, (.refl _)⟩, rfl, ⟨⟨_, rfl, (.refl _)⟩, rfl, ⟨⟨_, rfl, (.refl _)⟩, rfl, trivial⟩⟩⟩⟩⟩⟩⟩⟩⟩, ⟨⟨_, rfl, (.refl _)⟩, rfl, rfl, trivial⟩⟩⟩
        · intro j118_1 h37
          unfold f39_j118 at h37
          refine AWc.cond rfl (fun c118 => ?_) (fun c118 => ?_)
          · have h37 := cond_pos c118 h37
            refine AWc.seq ?_
            refine AWc.rg hmix rfl rfl ?_
            refine RegV.p0 rfl rfl rfl ?_
            refine RegV.nil0 ?_
            cases h37
            dsimp only at h
            refine AWc.exit ?_
            refine inBlk_ne rfl ?_
            refine inBlk_ne rfl ?_
            refine inBlk_eq ?_
            exact ⟨((4 : Int), (IntKind.i64.wrap (y37_3 + (1 : Int)))), h, ⟨rfl, [], [], rfl, rfl, ⟨⟨_, rfl, (.refl _)⟩, rfl, ⟨⟨_, rfl, (.refl _)⟩, rfl, ⟨⟨_, rfl, (.refl _)⟩, rfl, trivial⟩⟩⟩, ⟨⟨_, rfl, (.refl _)⟩, rfl, rfl, trivial⟩⟩⟩
          · have h37 := cond_neg c118 h37
            refine AWc.seq ?_
            refine AWc.rg hmix rfl rfl ?_
            refine RegV.p0 rfl rfl rfl ?_
            refine RegV.p0 (v := (.d (.bool (decide ((((rd a0 y37_3).toNat : Nat) : Int) < (128 : Int)))))) rfl rfl rfl ?_
            refine RegV.p0 rfl rfl rfl ?_
            refine RegV.nil0 ?_
            refine AWc.cond rfl (fun c130 => ?_) (fun c130 => ?_)
            · have h37 := cond_pos c130 h37
              refine AWc.seq ?_
              refine AWc.rg hmix rfl rfl ?_
              refine RegV.p0 rfl rfl rfl ?_
              refine RegV.p0 rfl rfl rfl ?_
              refine RegV.nil0 ?_
              cases h37
              dsimp only at h
              have hr := Option.some.inj h
              subst hr
              exact AWc.ret (canQ (N := 73) (k := 1) (l' := [(2, (.d (.int .u64 (bitsA .or .u64 y37_1 (IntKind.u64.wrap ((IntKind.u64.wrap (bitsA .and .u8 (((rd a0 y37_3).toNat : Nat) : Int) (127 : Int))) * 2 ^ (min ((IntKind.i64.wrap ((7 : Int) * y37_2))).toNat IntKind.u64.bits)))))))]) (H' := [(0, (.cells [(.d (.sl (List.map byteD a0))), (.d (.int .i64 (IntKind.i64.wrap (y37_3 + (1 : Int))))), (.d (.int .i64 a2))]))]) rfl ⟨rfl, [], [], rfl, rfl, ⟨⟨_, rfl, (.refl _)⟩, rfl, trivial⟩, ⟨⟨_, rfl, (.refl _)⟩, rfl, rfl, trivial⟩⟩ (doneA (.inr rfl) rfl ⟨trivial, trivial⟩ (.refl _) (hasCons rfl hasNil)))
            · have h37 := cond_neg c130 h37
              refine AWc.skip ?_
              refine AWc.rg hmix rfl rfl ?_
              refine RegV.p0 rfl rfl rfl ?_
              refine RegV.p0 (v := (.d (.int .i64 (IntKind.i64.wrap (y37_2 + (1 : Int)))))) rfl rfl rfl ?_
              refine RegV.p0 rfl rfl rfl ?_
              refine RegV.nil0 ?_
              exact ⟨((bitsA .or .u64 y37_1 (IntKind.u64.wrap ((IntKind.u64.wrap (bitsA .and .u8 (((rd a0 y37_3).toNat : Nat) : Int) (127 : Int))) * 2 ^ (min ((IntKind.i64.wrap ((7 : Int) * y37_2))).toNat IntKind.u64.bits)))), (IntKind.i64.wrap (y37_2 + (1 : Int))), (IntKind.i64.wrap (y37_3 + (1 : Int)))), h37, ⟨rfl, [], [], rfl, rfl, ⟨⟨_, rfl, (.refl _)⟩, rfl, ⟨⟨_, rfl, (.refl _)⟩, rfl, ⟨⟨_, rfl, (.refl _)⟩, rfl, ⟨⟨_, rfl, (.refl _)⟩, rfl, ⟨⟨_, rfl, (.refl _)⟩, rfl, trivial⟩⟩⟩⟩⟩, ⟨⟨_, rfl, (.refl _)⟩, rfl, rfl, trivial⟩⟩⟩
      · have h37 := cond_neg c53 h37
        cases h37
        dsimp only at h
        refine AWc.exit ?_
        refine inBlk_eq ?_
        exact ⟨((3 : Int), y37_3), h, ⟨rfl, [], [], rfl, rfl, ⟨⟨_, rfl, (.refl _)⟩, rfl, ⟨⟨_, rfl, (.refl _)⟩, rfl, ⟨⟨_, rfl, (.refl _)⟩, rfl, trivial⟩⟩⟩, ⟨⟨_, rfl, (.refl _)⟩, rfl, rfl, trivial⟩⟩⟩
    · rintro ⟨j143_1, j143_2⟩ h
      dsimp only at h ⊢
      unfold f39_j143 at h
      refine AWc.seq ?_
      refine AWc.rg hmix rfl rfl ?_
      refine RegV.p0 rfl rfl rfl ?_
      refine RegV.p0 rfl rfl rfl ?_
      refine RegV.p0 rfl rfl rfl ?_
      obtain ⟨r149, e149, h⟩ := bind_some h
      refine RegV.callS (q := false) (H' := [(0, (.cells [(.d (.sl (List.map byteD a0))), (.d (.int .i64 a1)), (.d (.int .i64 j143_1))]))]) (c' := 1) (show ACalls P (N 85) [(.ptr 0 0), (.d (.int .i64 a1)), (.d (.int .i64 j143_1))] [(0, (.cells [(.d (.sl (List.map byteD a0))), (.d (.int .i64 j143_2)), (.d (.int .i64 a2))]))] (.tup []) [(0, (.cells [(.d (.sl (List.map byteD a0))), (.d (.int .i64 a1)), (.d (.int .i64 j143_1))]))] from ACalls.use (F85 hmix hc.2.2 e149) [(0, 0)] 1 rfl) rfl rfl rfl rfl (.cons (.refl _) (.cons (.refl _) (.cons (.refl _) .nil))) (.refl _) (fun h => by cases h) rfl (hasCons rfl hasNil) rfl rfl rfl rfl ?_
      refine RegV.nil0 ?_
      refine AWc.seq ?_
      refine AWc.rg hmix rfl rfl ?_
      refine RegV.p0 rfl rfl rfl ?_
      refine RegV.nil0 ?_
      have hr := Option.some.inj h
      subst hr
      exact AWc.ret (canQ (N := 73) (k := 1) (l' := [(2, (.d (.int .u64 (0 : Int))))]) (H' := [(0, (.cells [(.d (.sl (List.map byteD a0))), (.d (.int .i64 a1)), (.d (.int .i64 j143_1))]))]) rfl ⟨rfl, [], [], rfl, rfl, ⟨⟨_, rfl, (.refl _)⟩, rfl, trivial⟩, ⟨⟨_, rfl, (.refl _)⟩, rfl, rfl, trivial⟩⟩ (doneA (.inr rfl) rfl ⟨trivial, trivial⟩ (.refl _) (hasCons rfl hasNil)))
/-- (*courant/courantref01.Reader).number -/
def C89 (N : Nat → Nat) : AFunc := { n := 60, params := 1, res := [.tmp 2, .tmp 3, .tmp 4], body :=
 (.seq (.region false [⟨(some 2), .mv (.k (.d (.int .u64 0))), none, []⟩,
   ⟨(some 3), .mv (.k (.d (.int .i64 0))), none, [0]⟩,
   ⟨(some 4), .mv (.k (.d (.int .i64 0))), none, [1]⟩])
  (.seq (.region false [⟨(some 5), .mv (.k (.d (.int .u64 0))), none, []⟩])
   (.seq (.region false [⟨(some 6), .mv (.k (.d (.int .i64 0))), none, []⟩])
    (.block 0 (.loop (.seq (.block 1 (.seq (.seq (.region true [⟨(some 10), .mv (.t 0), none, []⟩,
           ⟨(some 11), .nilchk (.t 10), none, [0]⟩,
           ⟨(some 12), .faddr (.t 11) 1, none, [1]⟩,
           ⟨(some 13), .load (.t 12) 1 false, none, [2]⟩,
           ⟨(some 14), .mv (.t 6), none, []⟩,
           ⟨(some 15), .bin .add (.t 13) (.t 14), none, [3, 4]⟩,
           ⟨(some 16), .mv (.t 0), none, []⟩,
           ⟨(some 17), .nilchk (.t 16), none, [6]⟩,
           ⟨(some 18), .faddr (.t 17) 0, none, [7]⟩,
           ⟨(some 19), .load (.t 18) 1 false, none, [8]⟩,
           ⟨(some 20), .len (.t 19), none, [9]⟩,
           ⟨(some 21), .bin .geq (.t 15) (.t 20), none, [5, 10]⟩])
          (.cond (.t 21) (.seq (.region false [⟨(some 2), .mv (.k (.d (.int .u64 0))), none, []⟩,
             ⟨(some 3), .mv (.k (.d (.int .i64 0))), none, [0]⟩,
             ⟨(some 4), .mv (.k (.d (.int .i64 3))), none, [1, 0]⟩])
            .ret)
           (.skip)))
         (.seq (.region true [⟨(some 22), .mv (.t 0), none, []⟩,
           ⟨(some 23), .nilchk (.t 22), none, [0]⟩,
           ⟨(some 24), .faddr (.t 23) 0, none, [1]⟩,
           ⟨(some 25), .load (.t 24) 1 false, none, [2]⟩,
           ⟨(some 26), .mv (.t 0), none, []⟩,
           ⟨(some 27), .nilchk (.t 26), none, [4]⟩,
           ⟨(some 28), .faddr (.t 27) 1, none, [5]⟩,
           ⟨(some 29), .load (.t 28) 1 false, none, [6]⟩,
           ⟨(some 30), .mv (.t 6), none, []⟩,
           ⟨(some 31), .bin .add (.t 29) (.t 30), none, [7, 8]⟩,
           ⟨(some 32), .iaddr (.t 25) (.t 31) 1, none, [3, 9]⟩,
           ⟨(some 33), .load (.t 32) 1 false, none, [10]⟩,
           ⟨(some 7), .mv (.t 33), none, [11, 0, 1, 2, 3, 4, 5, 6, 7, 8, 9, 10]⟩])
          (.seq (.seq (.region false [⟨(some 34), .mv (.t 6), none, []⟩,
             ⟨(some 35), .bin .eql (.t 34) (.k (.d (.int .i64 9))), none, [0]⟩,
             ⟨(some 36), .mv (.t 35), none, [1]⟩,
             ⟨(some 37), .mv (.t 7), (some (36, true)), [2]⟩,
             ⟨(some 38), .bin .gtr (.t 37) (.k (.d (.int .u8 1))), (some (36, true)), [3, 2]⟩,
             ⟨(some 39), .pick (.t 36) (.t 38) (.k (.d (.bool false))), none, [2, 4]⟩])
            (.cond (.t 39) (.seq (.region false [⟨(some 2), .mv (.k (.d (.int .u64 0))), none, []⟩,
               ⟨(some 3), .mv (.k (.d (.int .i64 0))), none, [0]⟩,
               ⟨(some 4), .mv (.k (.d (.int .i64 4))), none, [1, 0]⟩])
              .ret)
             (.skip)))
           (.seq (.region false [⟨(some 40), .mv (.t 5), none, []⟩,
             ⟨(some 41), .mv (.t 7), none, []⟩,
             ⟨(some 42), .bin .and (.t 41) (.k (.d (.int .u8 127))), none, [1]⟩,
             ⟨(some 43), .cvi .u64 (.t 42), none, [2]⟩,
             ⟨(some 44), .mv (.t 6), none, []⟩,
             ⟨(some 45), .bin .mul (.k (.d (.int .i64 7))) (.t 44), none, [4]⟩,
             ⟨(some 46), .cvi .u64 (.t 45), none, [5]⟩,
             ⟨(some 47), .bin .shl (.t 43) (.t 46), none, [3, 6]⟩,
             ⟨(some 48), .bin .or (.t 40) (.t 47), none, [0, 7]⟩,
             ⟨(some 5), .mv (.t 48), none, [8, 0, 1, 2, 3, 4, 5, 6, 7]⟩])
            (.seq (.region false [⟨(some 49), .mv (.t 7), none, []⟩,
              ⟨(some 50), .bin .lss (.t 49) (.k (.d (.int .u8 128))), none, [0]⟩])
             (.cond (.t 50) (.seq (.seq (.region false [⟨(some 51), .mv (.t 7), none, []⟩,
                 ⟨(some 52), .bin .eql (.t 51) (.k (.d (.int .u8 0))), none, [0]⟩,
                 ⟨(some 53), .mv (.t 52), none, [1]⟩,
                 ⟨(some 54), .mv (.t 6), (some (53, true)), [2]⟩,
                 ⟨(some 55), .bin .gtr (.t 54) (.k (.d (.int .i64 0))), (some (53, true)), [3, 2]⟩,
                 ⟨(some 56), .pick (.t 53) (.t 55) (.k (.d (.bool false))), none, [2, 4]⟩])
                (.cond (.t 56) (.seq (.region false [⟨(some 2), .mv (.k (.d (.int .u64 0))), none, []⟩,
                   ⟨(some 3), .mv (.k (.d (.int .i64 0))), none, [0]⟩,
                   ⟨(some 4), .mv (.k (.d (.int .i64 4))), none, [1, 0]⟩])
                  .ret)
                 (.skip)))
               (.seq (.region false [⟨(some 57), .mv (.t 5), none, []⟩,
                 ⟨(some 58), .mv (.t 6), none, []⟩,
                 ⟨(some 59), .bin .add (.t 58) (.k (.d (.int .i64 1))), none, [1]⟩,
                 ⟨(some 2), .mv (.t 57), none, [0]⟩,
                 ⟨(some 3), .mv (.t 59), none, [2, 3, 0, 1]⟩,
                 ⟨(some 4), .mv (.k (.d (.int .i64 0))), none, [4, 0, 1, 2, 3]⟩])
                .ret))
              (.skip))))))))
       (.region false [⟨(some 8), .mv (.t 6), none, []⟩,
        ⟨(some 9), .bin .add (.t 8) (.k (.d (.int .i64 1))), none, [0]⟩,
        ⟨(some 6), .mv (.t 9), none, [1, 0]⟩]))))))) }
def HC89 (P : Program) (N : Nat → Nat) : Prop := HasF P (N 89) (C89 N)
def f89_j108 (k : Nat) (y15_1 : Int) (a0 : (List UInt8)) (a1 : Int) (y15_2 : Int) (j108_1 : Bool) : Option (LR2 Unit Unit (Int × Int × Int)) := cond j108_1 (some (.r ((0 : Int), (0 : Int), (4 : Int)))) (some (.r ((bitsA .or .u64 y15_1 (IntKind.u64.wrap ((IntKind.u64.wrap (bitsA .and .u8 (((rd a0 (IntKind.i64.wrap (a1 + y15_2))).toNat : Nat) : Int) (127 : Int))) * 2 ^ (min ((IntKind.u64.wrap (IntKind.i64.wrap ((7 : Int) * y15_2)))).toNat IntKind.u64.bits)))), (IntKind.i64.wrap (y15_2 + (1 : Int))), (0 : Int))))
def f89_j70 (L : Int → Int → Option (LR2 Unit Unit (Int × Int × Int))) (k : Nat) (y15_2 : Int) (a0 : (List UInt8)) (a1 : Int) (y15_1 : Int) (j70_1 : Bool) : Option (LR2 Unit Unit (Int × Int × Int)) := cond j70_1 (some (.r ((0 : Int), (0 : Int), (4 : Int)))) (gd (0 ≤ (IntKind.u64.wrap (IntKind.i64.wrap ((7 : Int) * y15_2)))) (cond (decide ((((rd a0 (IntKind.i64.wrap (a1 + y15_2))).toNat : Nat) : Int) < (128 : Int))) (cond (decide ((((rd a0 (IntKind.i64.wrap (a1 + y15_2))).toNat : Nat) : Int) = (0 : Int))) (f89_j108 k y15_1 a0 a1 y15_2 (decide (y15_2 > (0 : Int)))) (f89_j108 k y15_1 a0 a1 y15_2 false)) (L (bitsA .or .u64 y15_1 (IntKind.u64.wrap ((IntKind.u64.wrap (bitsA .and .u8 (((rd a0 (IntKind.i64.wrap (a1 + y15_2))).toNat : Nat) : Int) (127 : Int))) * 2 ^ (min ((IntKind.u64.wrap (IntKind.i64.wrap ((7 : Int) * y15_2)))).toNat IntKind.u64.bits)))) (IntKind.i64.wrap (y15_2 + (1 : Int))))))
def f89_l15 (a1 : Int) (a0 : (List UInt8)) : Nat → Int → Int → Option (LR2 Unit Unit (Int × Int × Int))
  | 0, _, _ => none
  | k + 1, y15_1, y15_2 => cond (decide ((IntKind.i64.wrap (a1 + y15_2)) ≥ ((a0.length : Nat) : Int))) (some (.r ((0 : Int), (0 : Int), (3 : Int)))) (gd (0 ≤ (IntKind.i64.wrap (a1 + y15_2)) ∧ (IntKind.i64.wrap (a1 + y15_2)) < ((a0.length : Nat) : Int)) (cond (decide (y15_2 = (9 : Int))) (f89_j70 (f89_l15 a1 a0 k) k y15_2 a0 a1 y15_1 (decide ((((rd a0 (IntKind.i64.wrap (a1 + y15_2))).toNat : Nat) : Int) > (1 : Int)))) (f89_j70 (f89_l15 a1 a0 k) k y15_2 a0 a1 y15_1 false)))
def f89 (k : Nat) (a0 : (List UInt8)) (a1 : Int) (a2 : Int) : Option (Int × Int × Int) := (f89_l15 a1 a0 k (0 : Int) (0 : Int)).bind fun o15 => match o15 with | .r x => some x | _ => none
theorem F89 {P : Program} {N : Nat → Nat} (hmix : P.follows .mixedOrders = true) (hc : HC89 P N) {k : Nat} {a0 : (List UInt8)} {a1 : Int} {a2 : Int} {r : (Int × Int × Int)} (h : f89 k a0 a1 a2 = some r) :
    ACalls P (N 89) [(.ptr 0 0)] [(0, (.cells [(.d (.sl (List.map byteD a0))), (.d (.int .i64 a1)), (.d (.int .i64 a2))]))] (.tup [(.d (.int .u64 r.1)), (.d (.int .i64 r.2.1)), (.d (.int .i64 r.2.2))]) [(0, (.cells [(.d (.sl (List.map byteD a0))), (.d (.int .i64 a1)), (.d (.int .i64 a2))]))] := by
  refine acalls_canon (F := C89 N) hc 1 1 rfl ?_
  unfold f89 at h
  dsimp only [C89, startL]
  refine AWc.seq ?_
  refine AWc.rg hmix rfl rfl ?_
  refine RegV.p0 rfl rfl rfl ?_
  refine RegV.p0 rfl rfl rfl ?_
  refine RegV.p0 rfl rfl rfl ?_
  refine RegV.nil0 ?_
  refine AWc.seq ?_
  refine AWc.rg hmix rfl rfl ?_
  refine RegV.p0 rfl rfl rfl ?_
  refine RegV.nil0 ?_
  refine AWc.seq ?_
  refine AWc.rg hmix rfl rfl ?_
  refine RegV.p0 rfl rfl rfl ?_
  refine RegV.nil0 ?_
  obtain ⟨o15, h15, h⟩ := bind_some h
  refine AWc.block ?_
  refine AWc.loopK (N := 60) 1 (fun (x : (Int × Int)) => [(0, (.ptr 0 0)), (5, (.d (.int .u64 x.1))), (6, (.d (.int .i64 x.2)))]) (fun x => [(0, (.cells [(.d (.sl (List.map byteD a0))), (.d (.int .i64 a1)), (.d (.int .i64 a2))]))]) (fun k x => f89_l15 a1 a0 k x.1 x.2 = some o15) k ((0 : Int), (0 : Int)) rfl_le (fun x hx => by cases hx) h15 ⟨rfl, [], [], rfl, rfl, ⟨⟨_, rfl, (.refl _)⟩, rfl, ⟨⟨_, rfl, (.refl _)⟩, rfl, ⟨⟨_, rfl, (.refl _)⟩, rfl, trivial⟩⟩⟩, ⟨⟨_, rfl, (.refl _)⟩, rfl, rfl, trivial⟩⟩ ?_
  clear h15
  intro k
  rintro ⟨y15_1, y15_2⟩ h15
  dsimp only at h15 ⊢
  rw [f89_l15] at h15
  refine AWc.seq ?_
  refine AWc.block ?_
  refine AWc.seq ?_
  refine AWc.seq ?_
  refine AWc.rg hmix rfl rfl ?_
  refine RegV.p0 rfl rfl rfl ?_
  refine RegV.p0 rfl rfl rfl ?_
  refine RegV.p0 (v := (.ptr 0 1)) rfl rfl rfl ?_
  refine RegV.ld (v := (.d (.int .i64 a1))) (H' := [(0, (.cells [(.d (.sl (List.map byteD a0))), (.d (.int .i64 a1)), (.d (.int .i64 a2))]))]) rfl rfl trivial rfl rfl rfl rfl rfl ?_
  refine RegV.p0 rfl rfl rfl ?_
  refine RegV.p0 (v := (.d (.int .i64 (IntKind.i64.wrap (a1 + y15_2))))) rfl rfl rfl ?_
  refine RegV.p0 rfl rfl rfl ?_
  refine RegV.p0 rfl rfl rfl ?_
  refine RegV.p0 (v := (.ptr 0 0)) rfl rfl rfl ?_
  refine RegV.ld (v := (.d (.sl (List.map byteD a0)))) (H' := [(0, (.cells [(.d (.sl (List.map byteD a0))), (.d (.int .i64 a1)), (.d (.int .i64 a2))]))]) rfl rfl trivial rfl rfl rfl rfl rfl ?_
  refine RegV.len (xs := a0) (e := byteD) rfl rfl rfl rfl ?_
  refine RegV.p0 (v := (.d (.bool (decide ((IntKind.i64.wrap (a1 + y15_2)) ≥ ((a0.length : Nat) : Int)))))) rfl rfl rfl ?_
  refine RegV.nil1 (by kernel_rfl) ?_
  refine AWc.cond rfl (fun c35 => ?_) (fun c35 => ?_)
  · have h15 := cond_pos c35 h15
    refine AWc.seq ?_
    refine AWc.rg hmix rfl rfl ?_
    refine RegV.p0 rfl rfl rfl ?_
    refine RegV.p0 rfl rfl rfl ?_
    refine RegV.p0 rfl rfl rfl ?_
    refine RegV.nil0 ?_
    cases h15
    dsimp only at h
    have hr := Option.some.inj h
    subst hr
    exact AWc.ret (canQ (N := 60) (k := 1) (l' := [(2, (.d (.int .u64 (0 : Int)))), (3, (.d (.int .i64 (0 : Int)))), (4, (.d (.int .i64 (3 : Int))))]) (H' := [(0, (.cells [(.d (.sl (List.map byteD a0))), (.d (.int .i64 a1)), (.d (.int .i64 a2))]))]) rfl ⟨rfl, [], [], rfl, rfl, ⟨⟨_, rfl, (.refl _)⟩, rfl, ⟨⟨_, rfl, (.refl _)⟩, rfl, ⟨⟨_, rfl, (.refl _)⟩, rfl, trivial⟩⟩⟩, ⟨⟨_, rfl, (.refl _)⟩, rfl, rfl, trivial⟩⟩ (doneA (.inr rfl) rfl ⟨trivial, ⟨trivial, ⟨trivial, trivial⟩⟩⟩ (.refl _) (hasCons rfl hasNil)))
  · have h15 := cond_neg c35 h15
    refine AWc.skip ?_
    refine AWc.seq ?_
    refine AWc.rg hmix rfl rfl ?_
    refine RegV.p0 rfl rfl rfl ?_
    refine RegV.p0 rfl rfl rfl ?_
    refine RegV.p0 (v := (.ptr 0 0)) rfl rfl rfl ?_
    refine RegV.ld (v := (.d (.sl (List.map byteD a0)))) (H' := [(0, (.cells [(.d (.sl (List.map byteD a0))), (.d (.int .i64 a1)), (.d (.int .i64 a2))]))]) rfl rfl trivial rfl rfl rfl rfl rfl ?_
    refine RegV.p0 rfl rfl rfl ?_
    refine RegV.p0 rfl rfl rfl ?_
    refine RegV.p0 (v := (.ptr 0 1)) rfl rfl rfl ?_
    refine RegV.ld (v := (.d (.int .i64 a1))) (H' := [(0, (.cells [(.d (.sl (List.map byteD a0))), (.d (.int .i64 a1)), (.d (.int .i64 a2))]))]) rfl rfl trivial rfl rfl rfl rfl rfl ?_
    refine RegV.p0 rfl rfl rfl ?_
    refine RegV.p0 (v := (.d (.int .i64 (IntKind.i64.wrap (a1 + y15_2))))) rfl rfl rfl ?_
    obtain ⟨b57, h15⟩ := gd_some h15
    refine RegV.iad (xs := a0) (e := byteD) rfl rfl rfl rfl (fun _ => rfl) b57 rfl ?_
    refine RegV.p0 (v := (.d (.int .u8 (((rd a0 (IntKind.i64.wrap (a1 + y15_2))).toNat : Nat) : Int)))) rfl rfl rfl ?_
    refine RegV.p0 rfl rfl rfl ?_
    refine RegV.nil1 (by kernel_rfl) ?_
    refine AWc.seq ?_
    refine AWc.seqS (N := 60) 1 (fun (z : Bool) => [(0, (.ptr 0 0)), (5, (.d (.int .u64 y15_1))), (6, (.d (.int .i64 y15_2))), (7, (.d (.int .u8 (((rd a0 (IntKind.i64.wrap (a1 + y15_2))).toNat : Nat) : Int)))), (37, .any), (38, .any), (39, (.d (.bool z)))]) (fun z => [(0, (.cells [(.d (.sl (List.map byteD a0))), (.d (.int .i64 a1)), (.d (.int .i64 a2))]))]) (fun z => f89_j70 (f89_l15 a1 a0 k) k y15_2 a0 a1 y15_1 z = some o15) rfl_le ?_ ?_
    · refine AWc.rg hmix rfl rfl ?_
      refine RegV.p0 rfl rfl rfl ?_
      refine RegV.p0 (v := (.d (.bool (decide (y15_2 = (9 : Int)))))) rfl rfl rfl ?_
      refine RegV.p0 rfl rfl rfl ?_
      refine RegV.split (fun c66 => ?_) (fun c66 => ?_)
      · have h15 := cond_pos c66 h15
        refine RegV.p0 rfl rfl rfl ?_
        refine RegV.p0 (v := (.d (.bool (decide ((((rd a0 (IntKind.i64.wrap (a1 + y15_2))).toNat : Nat) : Int) > (1 : Int)))))) rfl rfl rfl ?_
        refine RegV.p0 rfl rfl rfl ?_
        refine RegV.nil0 ?_
        exact ⟨(decide ((((rd a0 (IntKind.i64.wrap (a1 + y15_2))).toNat : Nat) : Int) > (1 : Int))), h15, ⟨rfl, [], [], rfl, rfl, ⟨⟨_, rfl, (.refl _)⟩, rfl, ⟨⟨_, rfl, (.refl _)⟩, rfl, ⟨⟨_, rfl, (.refl _)⟩, rfl, ⟨⟨_, rfl, (.refl _)⟩, rfl, ⟨⟨_, rfl, (.any _)⟩, rfl, ⟨⟨_, rfl, (.any _)⟩, rfl, ⟨⟨_, rfl, (.refl _)⟩, rfl, trivial⟩⟩⟩⟩⟩⟩⟩, ⟨⟨_, rfl, (.refl _)⟩, rfl, rfl, trivial⟩⟩⟩
      · have h15 := cond_neg c66 h15
        refine RegV.noS rfl rfl ?_
        refine RegV.noS rfl rfl ?_
        refine RegV.p0 rfl rfl rfl ?_
        refine RegV.nil0 ?_
        exact ⟨false, h15, ⟨rfl, [], [], rfl, rfl, ⟨⟨_, rfl, (.refl _)⟩, rfl, ⟨⟨_, rfl, (.refl _)⟩, rfl, ⟨⟨_, rfl, (.refl _)⟩, rfl, ⟨⟨_, rfl, (.refl _)⟩, rfl, ⟨⟨_, rfl, (.any _)⟩, rfl, ⟨⟨_, rfl, (.any _)⟩, rfl, ⟨⟨_, rfl, (.refl _)⟩, rfl, trivial⟩⟩⟩⟩⟩⟩⟩, ⟨⟨_, rfl, (.refl _)⟩, rfl, rfl, trivial⟩⟩⟩
    · intro j70_1 h15
      unfold f89_j70 at h15
      refine AWc.cond rfl (fun c70 => ?_) (fun c70 => ?_)
      · have h15 := cond_pos c70 h15
        refine AWc.seq ?_
        refine AWc.rg hmix rfl rfl ?_
        refine RegV.p0 rfl rfl rfl ?_
        refine RegV.p0 rfl rfl rfl ?_
        refine RegV.p0 rfl rfl rfl ?_
        refine RegV.nil0 ?_
        cases h15
        dsimp only at h
        have hr := Option.some.inj h
        subst hr
        exact AWc.ret (canQ (N := 60) (k := 1) (l' := [(2, (.d (.int .u64 (0 : Int)))), (3, (.d (.int .i64 (0 : Int)))), (4, (.d (.int .i64 (4 : Int))))]) (H' := [(0, (.cells [(.d (.sl (List.map byteD a0))), (.d (.int .i64 a1)), (.d (.int .i64 a2))]))]) rfl ⟨rfl, [], [], rfl, rfl, ⟨⟨_, rfl, (.refl _)⟩, rfl, ⟨⟨_, rfl, (.refl _)⟩, rfl, ⟨⟨_, rfl, (.refl _)⟩, rfl, trivial⟩⟩⟩, ⟨⟨_, rfl, (.refl _)⟩, rfl, rfl, trivial⟩⟩ (doneA (.inr rfl) rfl ⟨trivial, ⟨trivial, ⟨trivial, trivial⟩⟩⟩ (.refl _) (hasCons rfl hasNil)))
      · have h15 := cond_neg c70 h15
        refine AWc.skip ?_
        refine AWc.seq ?_
        refine AWc.rg hmix rfl rfl ?_
        refine RegV.p0 rfl rfl rfl ?_
        refine RegV.p0 rfl rfl rfl ?_
        refine RegV.p0 (v := (.d (.int .u8 (bitsA .and .u8 (((rd a0 (IntKind.i64.wrap (a1 + y15_2))).toNat : Nat) : Int) (127 : Int))))) rfl rfl rfl ?_
        refine RegV.p0 (v := (.d (.int .u64 (IntKind.u64.wrap (bitsA .and .u8 (((rd a0 (IntKind.i64.wrap (a1 + y15_2))).toNat : Nat) : Int) (127 : Int)))))) rfl rfl rfl ?_
        refine RegV.p0 rfl rfl rfl ?_
        refine RegV.p0 (v := (.d (.int .i64 (IntKind.i64.wrap ((7 : Int) * y15_2))))) rfl rfl rfl ?_
        refine RegV.p0 (v := (.d (.int .u64 (IntKind.u64.wrap (IntKind.i64.wrap ((7 : Int) * y15_2)))))) rfl rfl rfl ?_
        obtain ⟨b89, h15⟩ := gd_some h15
        refine RegV.p1 (v := (.d (.int .u64 (IntKind.u64.wrap ((IntKind.u64.wrap (bitsA .and .u8 (((rd a0 (IntKind.i64.wrap (a1 + y15_2))).toNat : Nat) : Int) (127 : Int))) * 2 ^ (min ((IntKind.u64.wrap (IntKind.i64.wrap ((7 : Int) * y15_2)))).toNat IntKind.u64.bits)))))) rfl rfl b89 rfl rfl ?_
        refine RegV.p0 (v := (.d (.int .u64 (bitsA .or .u64 y15_1 (IntKind.u64.wrap ((IntKind.u64.wrap (bitsA .and .u8 (((rd a0 (IntKind.i64.wrap (a1 + y15_2))).toNat : Nat) : Int) (127 : Int))) * 2 ^ (min ((IntKind.u64.wrap (IntKind.i64.wrap ((7 : Int) * y15_2)))).toNat IntKind.u64.bits))))))) rfl rfl rfl ?_
        refine RegV.p0 rfl rfl rfl ?_
        refine RegV.nil0 ?_
        refine AWc.seq ?_
        refine AWc.rg hmix rfl rfl ?_
        refine RegV.p0 rfl rfl rfl ?_
        refine RegV.p0 (v := (.d (.bool (decide ((((rd a0 (IntKind.i64.wrap (a1 + y15_2))).toNat : Nat) : Int) < (128 : Int)))))) rfl rfl rfl ?_
        refine RegV.nil0 ?_
        refine AWc.cond rfl (fun c97 => ?_) (fun c97 => ?_)
        · have h15 := cond_pos c97 h15
          refine AWc.seq ?_
          refine AWc.seqS (N := 60) 1 (fun (z : Bool) => [(5, (.d (.int .u64 (bitsA .or .u64 y15_1 (IntKind.u64.wrap ((IntKind.u64.wrap (bitsA .and .u8 (((rd a0 (IntKind.i64.wrap (a1 + y15_2))).toNat : Nat) : Int) (127 : Int))) * 2 ^ (min ((IntKind.u64.wrap (IntKind.i64.wrap ((7 : Int) * y15_2)))).toNat IntKind.u64.bits))))))), (6, (.d (.int .i64 y15_2))), (56, (.d (.bool z)))]) (fun z => [(0, (.cells [(.d (.sl (List.map byteD a0))), (.d (.int .i64 a1)), (.d (.int .i64 a2))]))]) (fun z => f89_j108 k y15_1 a0 a1 y15_2 z = some o15) rfl_le ?_ ?_
          · refine AWc.rg hmix rfl rfl ?_
            refine RegV.p0 rfl rfl rfl ?_
            refine RegV.p0 (v := (.d (.bool (decide ((((rd a0 (IntKind.i64.wrap (a1 + y15_2))).toNat : Nat) : Int) = (0 : Int)))))) rfl rfl rfl ?_
            refine RegV.p0 rfl rfl rfl ?_
            refine RegV.split (fun c104 => ?_) (fun c104 => ?_)
            · have h15 := cond_pos c104 h15
              refine RegV.p0 rfl rfl rfl ?_
              refine RegV.p0 (v := (.d (.bool (decide (y15_2 > (0 : Int)))))) rfl rfl rfl ?_
              refine RegV.p0 rfl rfl rfl ?_
              refine RegV.nil0 ?_
              exact ⟨(decide (y15_2 > (0 : Int))), h15, ⟨rfl, [], [], rfl, rfl, ⟨⟨_, rfl, (.refl _)⟩, rfl, ⟨⟨_, rfl, (.refl _)⟩, rfl, ⟨⟨_, rfl, (.refl _)⟩, rfl, trivial⟩⟩⟩, ⟨⟨_, rfl, (.refl _)⟩, rfl, rfl, trivial⟩⟩⟩
            · have h15 := cond_neg c104 h15
              refine RegV.noS rfl rfl ?_
              refine RegV.noS rfl rfl ?_
              refine RegV.p0 rfl rfl rfl ?_
              refine RegV.nil0 ?_
              exact ⟨false, h15, ⟨rfl, [], [], rfl, rfl, ⟨⟨_, rfl, (.refl _)⟩, rfl, ⟨⟨_, rfl, (.refl _)⟩, rfl, ⟨⟨_, rfl, (.refl _)⟩, rfl, trivial⟩⟩⟩, ⟨⟨_, rfl, (.refl _)⟩, rfl, rfl, trivial⟩⟩⟩
          · intro j108_1 h15
            unfold f89_j108 at h15
            refine AWc.cond rfl (fun c108 => ?_) (fun c108 => ?_)
            · have h15 := cond_pos c108 h15
              refine AWc.seq ?_
              refine AWc.rg hmix rfl rfl ?_
              refine RegV.p0 rfl rfl rfl ?_
              refine RegV.p0 rfl rfl rfl ?_
              refine RegV.p0 rfl rfl rfl ?_
              refine RegV.nil0 ?_
              cases h15
              dsimp only at h
              have hr := Option.some.inj h
              subst hr
              exact AWc.ret (canQ (N := 60) (k := 1) (l' := [(2, (.d (.int .u64 (0 : Int)))), (3, (.d (.int .i64 (0 : Int)))), (4, (.d (.int .i64 (4 : Int))))]) (H' := [(0, (.cells [(.d (.sl (List.map byteD a0))), (.d (.int .i64 a1)), (.d (.int .i64 a2))]))]) rfl ⟨rfl, [], [], rfl, rfl, ⟨⟨_, rfl, (.refl _)⟩, rfl, ⟨⟨_, rfl, (.refl _)⟩, rfl, ⟨⟨_, rfl, (.refl _)⟩, rfl, trivial⟩⟩⟩, ⟨⟨_, rfl, (.refl _)⟩, rfl, rfl, trivial⟩⟩ (doneA (.inr rfl) rfl ⟨trivial, ⟨trivial, ⟨trivial, trivial⟩⟩⟩ (.refl _) (hasCons rfl hasNil)))
            · have h15 := cond_neg c108 h15
              refine AWc.skip ?_
              refine AWc.seq ?_
              refine AWc.rg hmix rfl rfl ?_
              refine RegV.p0 rfl rfl rfl ?_
              refine RegV.p0 rfl rfl rfl ?_
              refine RegV.p0 (v := (.d (.int .i64 (IntKind.i64.wrap (y15_2 + (1 : Int)))))) rfl rfl rfl ?_
              refine RegV.p0 rfl rfl rfl ?_
              refine RegV.p0 rfl rfl rfl ?_
              refine RegV.p0 rfl rfl rfl ?_
              refine RegV.nil0 ?_
              cases h15
              dsimp only at h
              have hr := Option.some.inj h
              subst hr
              exact AWc.ret (canQ (N := 60) (k := 1) (l' := [(2, (.d (.int .u64 (bitsA .or .u64 y15_1 (IntKind.u64.wrap ((IntKind.u64.wrap (bitsA .and .u8 (((rd a0 (IntKind.i64.wrap (a1 + y15_2))).toNat : Nat) : Int) (127 : Int))) * 2 ^ (min ((IntKind.u64.wrap (IntKind.i64.wrap ((7 : Int) * y15_2)))).toNat IntKind.u64.bits))))))), (3, (.d (.int .i64 (IntKind.i64.wrap (y15_2 + (1 : Int)))))), (4, (.d (.int .i64 (0 : Int))))]) (H' := [(0, (.cells [(.d (.sl (List.map byteD a0))), (.d (.int .i64 a1)), (.d (.int .i64 a2))]))]) rfl ⟨rfl, [], [], rfl, rfl, ⟨⟨_, rfl, (.refl _)⟩, rfl, ⟨⟨_, rfl, (.refl _)⟩, rfl, ⟨⟨_, rfl, (.refl _)⟩, rfl, trivial⟩⟩⟩, ⟨⟨_, rfl, (.refl _)⟩, rfl, rfl, trivial⟩⟩ (doneA (.inr rfl) rfl ⟨trivial, ⟨trivial, ⟨trivial, trivial⟩⟩⟩ (.refl _) (hasCons rfl hasNil)))
        · have h15 := cond_neg c97 h15
          refine AWc.skip ?_
          refine AWc.rg hmix rfl rfl ?_
          refine RegV.p0 rfl rfl rfl ?_
          refine RegV.p0 (v := (.d (.int .i64 (IntKind.i64.wrap (y15_2 + (1 : Int)))))) rfl rfl rfl ?_
          refine RegV.p0 rfl rfl rfl ?_
          refine RegV.nil0 ?_
          exact ⟨((bitsA .or .u64 y15_1 (IntKind.u64.wrap ((IntKind.u64.wrap (bitsA .and .u8 (((rd a0 (IntKind.i64.wrap (a1 + y15_2))).toNat : Nat) : Int) (127 : Int))) * 2 ^ (min ((IntKind.u64.wrap (IntKind.i64.wrap ((7 : Int) * y15_2)))).toNat IntKind.u64.bits)))), (IntKind.i64.wrap (y15_2 + (1 : Int)))), h15, ⟨rfl, [], [], rfl, rfl, ⟨⟨_, rfl, (.refl _)⟩, rfl, ⟨⟨_, rfl, (.refl _)⟩, rfl, ⟨⟨_, rfl, (.refl _)⟩, rfl, trivial⟩⟩⟩, ⟨⟨_, rfl, (.refl _)⟩, rfl, rfl, trivial⟩⟩⟩
/-- (*courant/courantref01.Reader).Num -/
def C46 (N : Nat → Nat) : AFunc := { n := 31, params := 1, res := [.tmp 2], body :=
 (.seq (.region false [⟨(some 2), .mv (.k (.d (.int .u64 0))), none, []⟩])
  (.seq (.seq (.region false [⟨(some 6), .mv (.t 0), none, []⟩,
     ⟨(some 7), .nilchk (.t 6), none, [0]⟩,
     ⟨(some 8), .faddr (.t 7) 2, none, [1]⟩,
     ⟨(some 9), .load (.t 8) 1 false, none, [2]⟩,
     ⟨(some 10), .bin .neq (.t 9) (.k (.d (.int .i64 0))), none, [3]⟩])
    (.cond (.t 10) (.seq (.region false [⟨(some 2), .mv (.k (.d (.int .u64 0))), none, []⟩])
      .ret)
     (.skip)))
   (.seq (.region false [⟨(some 12), .mv (.t 0), none, []⟩,
     ⟨(some 13), .call (.k (.d (.fn (N 89)))) [(.t 12)], none, [0]⟩,
     ⟨(some 11), .mv (.t 13), none, [1]⟩,
     ⟨(some 14), .ext (.t 11) 0, none, [2]⟩,
     ⟨(some 15), .ext (.t 11) 1, none, [2]⟩,
     ⟨(some 16), .ext (.t 11) 2, none, [2]⟩,
     ⟨(some 3), .mv (.t 14), none, [3, 1, 0, 2]⟩,
     ⟨(some 4), .mv (.t 15), none, [4, 6, 0, 1, 2, 3]⟩,
     ⟨(some 5), .mv (.t 16), none, [5, 7, 0, 1, 2, 3, 4, 6]⟩])
    (.seq (.region false [⟨(some 17), .mv (.t 0), none, []⟩,
      ⟨(some 18), .mv (.t 5), none, []⟩,
      ⟨(some 19), .nilchk (.t 17), none, [0, 1]⟩,
      ⟨(some 20), .faddr (.t 19) 2, none, [2, 0, 1]⟩,
      ⟨none, .store (.t 20) (.t 18) 1, none, [3, 1, 0]⟩])
     (.seq (.region false [⟨(some 21), .mv (.t 0), none, []⟩,
       ⟨(some 22), .mv (.t 0), none, []⟩,
       ⟨(some 23), .nilchk (.t 22), none, [1]⟩,
       ⟨(some 24), .faddr (.t 23) 1, none, [2]⟩,
       ⟨(some 25), .load (.t 24) 1 false, none, [3]⟩,
       ⟨(some 26), .mv (.t 4), none, []⟩,
       ⟨(some 27), .bin .add (.t 25) (.t 26), none, [4, 5]⟩,
       ⟨(some 28), .nilchk (.t 21), none, [0, 1, 2, 3, 4, 5, 6]⟩,
       ⟨(some 29), .faddr (.t 28) 1, none, [7, 0, 1, 2, 3, 4, 5, 6]⟩,
       ⟨none, .store (.t 29) (.t 27) 1, none, [8, 6, 0, 1, 2, 3, 4, 5]⟩])
      (.seq (.region false [⟨(some 30), .mv (.t 3), none, []⟩,
        ⟨(some 2), .mv (.t 30), none, [0]⟩])
       .ret)))))) }
def HC46 (P : Program) (N : Nat → Nat) : Prop := HasF P (N 46) (C46 N) ∧ HC89 P N
def f46 (k : Nat) (a0 : (List UInt8)) (a1 : Int) (a2 : Int) : Option (Int × Int × Int) := cond (decide (a2 ≠ (0 : Int))) (some ((0 : Int), a1, a2)) ((f89 k a0 a1 a2).bind fun r25 => some (r25.1, (IntKind.i64.wrap (a1 + r25.2.1)), r25.2.2))
theorem F46 {P : Program} {N : Nat → Nat} (hmix : P.follows .mixedOrders = true) (hc : HC46 P N) {k : Nat} {a0 : (List UInt8)} {a1 : Int} {a2 : Int} {r : (Int × Int × Int)} (h : f46 k a0 a1 a2 = some r) :
    ACalls P (N 46) [(.ptr 0 0)] [(0, (.cells [(.d (.sl (List.map byteD a0))), (.d (.int .i64 a1)), (.d (.int .i64 a2))]))] (.d (.int .u64 r.1)) [(0, (.cells [(.d (.sl (List.map byteD a0))), (.d (.int .i64 r.2.1)), (.d (.int .i64 r.2.2))]))] := by
  refine acalls_canon (F := C46 N) hc.1 1 1 rfl ?_
  unfold f46 at h
  dsimp only [C46, startL]
  refine AWc.seq ?_
  refine AWc.rg hmix rfl rfl ?_
  refine RegV.p0 rfl rfl rfl ?_
  refine RegV.nil0 ?_
  refine AWc.seq ?_
  refine AWc.seq ?_
  refine AWc.rg hmix rfl rfl ?_
  refine RegV.p0 rfl rfl rfl ?_
  refine RegV.p0 rfl rfl rfl ?_
  refine RegV.p0 (v := (.ptr 0 2)) rfl rfl rfl ?_
  refine RegV.ld (v := (.d (.int .i64 a2))) (H' := [(0, (.cells [(.d (.sl (List.map byteD a0))), (.d (.int .i64 a1)), (.d (.int .i64 a2))]))]) rfl rfl trivial rfl rfl rfl rfl rfl ?_
  refine RegV.p0 (v := (.d (.bool (decide (a2 ≠ (0 : Int)))))) rfl rfl rfl ?_
  refine RegV.nil0 ?_
  refine AWc.cond rfl (fun c14 => ?_) (fun c14 => ?_)
  · have h := cond_pos c14 h
    refine AWc.seq ?_
    refine AWc.rg hmix rfl rfl ?_
    refine RegV.p0 rfl rfl rfl ?_
    refine RegV.nil0 ?_
    have hr := Option.some.inj h
    subst hr
    exact AWc.ret (canQ (N := 31) (k := 1) (l' := [(2, (.d (.int .u64 (0 : Int))))]) (H' := [(0, (.cells [(.d (.sl (List.map byteD a0))), (.d (.int .i64 a1)), (.d (.int .i64 a2))]))]) rfl ⟨rfl, [], [], rfl, rfl, ⟨⟨_, rfl, (.refl _)⟩, rfl, trivial⟩, ⟨⟨_, rfl, (.refl _)⟩, rfl, rfl, trivial⟩⟩ (doneA (.inr rfl) rfl ⟨trivial, trivial⟩ (.refl _) (hasCons rfl hasNil)))
  · have h := cond_neg c14 h
    refine AWc.skip ?_
    refine AWc.seq ?_
    refine AWc.rg hmix rfl rfl ?_
    refine RegV.p0 rfl rfl rfl ?_
    obtain ⟨r25, e25, h⟩ := bind_some h
    refine RegV.callS (q := true) (H' := [(0, (.cells [(.d (.sl (List.map byteD a0))), (.d (.int .i64 a1)), (.d (.int .i64 a2))]))]) (c' := 1) (show ACalls P (N 89) [(.ptr 0 0)] [(0, (.cells [(.d (.sl (List.map byteD a0))), (.d (.int .i64 a1)), (.d (.int .i64 a2))]))] (.tup [(.d (.int .u64 r25.1)), (.d (.int .i64 r25.2.1)), (.d (.int .i64 r25.2.2))]) [(0, (.cells [(.d (.sl (List.map byteD a0))), (.d (.int .i64 a1)), (.d (.int .i64 a2))]))] from ACalls.use (F89 hmix hc.2 e25) [(0, 0)] 1 rfl) rfl rfl rfl rfl (.cons (.refl _) .nil) (.refl _) (fun _ => rfl) rfl (hasCons rfl hasNil) rfl rfl rfl rfl ?_
    refine RegV.p0 rfl rfl rfl ?_
    refine RegV.p0 rfl rfl rfl ?_
    refine RegV.p0 rfl rfl rfl ?_
    refine RegV.p0 rfl rfl rfl ?_
    refine RegV.p0 rfl rfl rfl ?_
    refine RegV.p0 rfl rfl rfl ?_
    refine RegV.p0 rfl rfl rfl ?_
    refine RegV.nil0 ?_
    refine AWc.seq ?_
    refine AWc.rg hmix rfl rfl ?_
    refine RegV.p0 rfl rfl rfl ?_
    refine RegV.p0 rfl rfl rfl ?_
    refine RegV.p0 rfl rfl rfl ?_
    refine RegV.p0 (v := (.ptr 0 2)) rfl rfl rfl ?_
    refine RegV.evN (own := false) (H' := [(0, (.cells [(.d (.sl (List.map byteD a0))), (.d (.int .i64 a1)), (.d (.int .i64 r25.2.2))]))]) (c' := 1) rfl rfl (by exact ⟨rfl, Nat.le_of_ble_eq_true rfl, rfl⟩) rfl rfl rfl rfl ?_
    refine RegV.nil0 ?_
    refine AWc.seq ?_
    refine AWc.rg hmix rfl rfl ?_
    refine RegV.p0 rfl rfl rfl ?_
    refine RegV.p0 rfl rfl rfl ?_
    refine RegV.p0 rfl rfl rfl ?_
    refine RegV.p0 (v := (.ptr 0 1)) rfl rfl rfl ?_
    refine RegV.ld (v := (.d (.int .i64 a1))) (H' := [(0, (.cells [(.d (.sl (List.map byteD a0))), (.d (.int .i64 a1)), (.d (.int .i64 r25.2.2))]))]) rfl rfl trivial rfl rfl rfl rfl rfl ?_
    refine RegV.p0 rfl rfl rfl ?_
    refine RegV.p0 (v := (.d (.int .i64 (IntKind.i64.wrap (a1 + r25.2.1))))) rfl rfl rfl ?_
    refine RegV.p0 rfl rfl rfl ?_
    refine RegV.p0 (v := (.ptr 0 1)) rfl rfl rfl ?_
    refine RegV.evN (own := false) (H' := [(0, (.cells [(.d (.sl (List.map byteD a0))), (.d (.int .i64 (IntKind.i64.wrap (a1 + r25.2.1)))), (.d (.int .i64 r25.2.2))]))]) (c' := 1) rfl rfl (by exact ⟨rfl, Nat.le_of_ble_eq_true rfl, rfl⟩) rfl rfl rfl rfl ?_
    refine RegV.nil0 ?_
    refine AWc.seq ?_
    refine AWc.rg hmix rfl rfl ?_
    refine RegV.p0 rfl rfl rfl ?_
    refine RegV.p0 rfl rfl rfl ?_
    refine RegV.nil0 ?_
    have hr := Option.some.inj h
    subst hr
    exact AWc.ret (canQ (N := 31) (k := 1) (l' := [(2, (.d (.int .u64 r25.1)))]) (H' := [(0, (.cells [(.d (.sl (List.map byteD a0))), (.d (.int .i64 (IntKind.i64.wrap (a1 + r25.2.1)))), (.d (.int .i64 r25.2.2))]))]) rfl ⟨rfl, [], [], rfl, rfl, ⟨⟨_, rfl, (.refl _)⟩, rfl, trivial⟩, ⟨⟨_, rfl, (.refl _)⟩, rfl, rfl, trivial⟩⟩ (doneA (.inr rfl) rfl ⟨trivial, trivial⟩ (.refl _) (hasCons rfl hasNil)))
/-- courant/code.unfold -/
def C88 (N : Nat → Nat) : AFunc := { n := 11, params := 1, res := [.tmp 2], body :=
 (.seq (.region false [⟨(some 2), .mv (.k (.d (.int .i64 0))), none, []⟩])
  (.seq (.region false [⟨(some 3), .mv (.t 0), none, []⟩,
    ⟨(some 4), .bin .shr (.t 3) (.k (.d (.int .u64 1))), none, [0]⟩,
    ⟨(some 5), .cvi .i64 (.t 4), none, [1]⟩,
    ⟨(some 6), .mv (.t 0), none, []⟩,
    ⟨(some 7), .bin .and (.t 6) (.k (.d (.int .u64 1))), none, [3]⟩,
    ⟨(some 8), .cvi .i64 (.t 7), none, [4]⟩,
    ⟨(some 9), .un .neg (.t 8), none, [5]⟩,
    ⟨(some 10), .bin .xor (.t 5) (.t 9), none, [2, 6]⟩,
    ⟨(some 2), .mv (.t 10), none, [7, 0, 1, 2, 3, 4, 5, 6]⟩])
   .ret)) }
def HC88 (P : Program) (N : Nat → Nat) : Prop := HasF P (N 88) (C88 N)
def f88 (k : Nat) (a0 : Int) : Option Unit := some ()
theorem F88 {P : Program} {N : Nat → Nat} (hmix : P.follows .mixedOrders = true) (hc : HC88 P N) {k : Nat} {a0 : Int} {r : Unit} (h : f88 k a0 = some r) :
    ACalls P (N 88) [(.d (.int .u64 a0))] [] (.d (.int .i64 (bitsA .xor .i64 (IntKind.i64.wrap (Int.fdiv a0 (2 ^ (min ((1 : Int)).toNat IntKind.u64.bits)))) (IntKind.i64.wrap (0 - (IntKind.i64.wrap (bitsA .and .u64 a0 (1 : Int)))))))) [] := by
  refine acalls_canon (F := C88 N) hc 0 0 rfl ?_
  unfold f88 at h
  dsimp only [C88, startL]
  refine AWc.seq ?_
  refine AWc.rg hmix rfl rfl ?_
  refine RegV.p0 rfl rfl rfl ?_
  refine RegV.nil0 ?_
  refine AWc.seq ?_
  refine AWc.rg hmix rfl rfl ?_
  refine RegV.p0 rfl rfl rfl ?_
  refine RegV.p1 (v := (.d (.int .u64 (Int.fdiv a0 (2 ^ (min ((1 : Int)).toNat IntKind.u64.bits)))))) rfl rfl (by decide) rfl rfl ?_
  refine RegV.p0 (v := (.d (.int .i64 (IntKind.i64.wrap (Int.fdiv a0 (2 ^ (min ((1 : Int)).toNat IntKind.u64.bits))))))) rfl rfl rfl ?_
  refine RegV.p0 rfl rfl rfl ?_
  refine RegV.p0 (v := (.d (.int .u64 (bitsA .and .u64 a0 (1 : Int))))) rfl rfl rfl ?_
  refine RegV.p0 (v := (.d (.int .i64 (IntKind.i64.wrap (bitsA .and .u64 a0 (1 : Int)))))) rfl rfl rfl ?_
  refine RegV.p0 (v := (.d (.int .i64 (IntKind.i64.wrap (0 - (IntKind.i64.wrap (bitsA .and .u64 a0 (1 : Int)))))))) rfl rfl rfl ?_
  refine RegV.p0 (v := (.d (.int .i64 (bitsA .xor .i64 (IntKind.i64.wrap (Int.fdiv a0 (2 ^ (min ((1 : Int)).toNat IntKind.u64.bits)))) (IntKind.i64.wrap (0 - (IntKind.i64.wrap (bitsA .and .u64 a0 (1 : Int))))))))) rfl rfl rfl ?_
  refine RegV.p0 rfl rfl rfl ?_
  refine RegV.nil0 ?_
  have hr := Option.some.inj h
  subst hr
  exact AWc.ret (canQ (N := 11) (k := 0) (l' := [(2, (.d (.int .i64 (bitsA .xor .i64 (IntKind.i64.wrap (Int.fdiv a0 (2 ^ (min ((1 : Int)).toNat IntKind.u64.bits)))) (IntKind.i64.wrap (0 - (IntKind.i64.wrap (bitsA .and .u64 a0 (1 : Int)))))))))]) (H' := []) rfl ⟨rfl, [], [], rfl, rfl, ⟨⟨_, rfl, (.refl _)⟩, rfl, trivial⟩,  trivial⟩ (doneA (.inr rfl) rfl ⟨trivial, trivial⟩ (.refl _) hasNil))
/-- (*courant/code.Reader).Zig -/
def C40 (N : Nat → Nat) : AFunc := { n := 6, params := 1, res := [.tmp 2], body :=
 (.seq (.region false [⟨(some 2), .mv (.k (.d (.int .i64 0))), none, []⟩])
  (.seq (.region false [⟨(some 3), .mv (.t 0), none, []⟩,
    ⟨(some 4), .call (.k (.d (.fn (N 39)))) [(.t 3)], none, [0]⟩,
    ⟨(some 5), .call (.k (.d (.fn (N 88)))) [(.t 4)], none, [1]⟩,
    ⟨(some 2), .mv (.t 5), none, [2, 0, 1]⟩])
   .ret)) }
def HC40 (P : Program) (N : Nat → Nat) : Prop := HasF P (N 40) (C40 N) ∧ HC39 P N ∧ HC88 P N
def f40 (k : Nat) (a0 : (List UInt8)) (a1 : Int) (a2 : Int) : Option (Int × Int × Int) := (f39 k a0 a1 a2).bind fun r9 => (f88 k r9.1).bind fun r10 => some ((bitsA .xor .i64 (IntKind.i64.wrap (Int.fdiv r9.1 (2 ^ (min ((1 : Int)).toNat IntKind.u64.bits)))) (IntKind.i64.wrap (0 - (IntKind.i64.wrap (bitsA .and .u64 r9.1 (1 : Int)))))), r9.2.1, r9.2.2)
theorem F40 {P : Program} {N : Nat → Nat} (hmix : P.follows .mixedOrders = true) (hc : HC40 P N) {k : Nat} {a0 : (List UInt8)} {a1 : Int} {a2 : Int} {r : (Int × Int × Int)} (h : f40 k a0 a1 a2 = some r) :
    ACalls P (N 40) [(.ptr 0 0)] [(0, (.cells [(.d (.sl (List.map byteD a0))), (.d (.int .i64 a1)), (.d (.int .i64 a2))]))] (.d (.int .i64 r.1)) [(0, (.cells [(.d (.sl (List.map byteD a0))), (.d (.int .i64 r.2.1)), (.d (.int .i64 r.2.2))]))] := by
  refine acalls_canon (F := C40 N) hc.1 1 1 rfl ?_
  unfold f40 at h
  dsimp only [C40, startL]
  refine AWc.seq ?_
  refine AWc.rg hmix rfl rfl ?_
  refine RegV.p0 rfl rfl rfl ?_
  refine RegV.nil0 ?_
  refine AWc.seq ?_
  refine AWc.rg hmix rfl rfl ?_
  refine RegV.p0 rfl rfl rfl ?_
  obtain ⟨r9, e9, h⟩ := bind_some h
  refine RegV.callS (q := false) (H' := [(0, (.cells [(.d (.sl (List.map byteD a0))), (.d (.int .i64 r9.2.1)), (.d (.int .i64 r9.2.2))]))]) (c' := 1) (show ACalls P (N 39) [(.ptr 0 0)] [(0, (.cells [(.d (.sl (List.map byteD a0))), (.d (.int .i64 a1)), (.d (.int .i64 a2))]))] (.d (.int .u64 r9.1)) [(0, (.cells [(.d (.sl (List.map byteD a0))), (.d (.int .i64 r9.2.1)), (.d (.int .i64 r9.2.2))]))] from ACalls.use (F39 hmix hc.2.1 e9) [(0, 0)] 1 rfl) rfl rfl rfl rfl (.cons (.refl _) .nil) (.refl _) (fun h => by cases h) rfl (hasCons rfl hasNil) rfl rfl rfl rfl ?_
  obtain ⟨r10, e10, h⟩ := bind_some h
  refine RegV.call0 (F88 hmix hc.2.2 e10) rfl rfl rfl rfl (.cons (.refl _) .nil) rfl ?_
  refine RegV.p0 rfl rfl rfl ?_
  refine RegV.nil0 ?_
  have hr := Option.some.inj h
  subst hr
  exact AWc.ret (canQ (N := 6) (k := 1) (l' := [(2, (.d (.int .i64 (bitsA .xor .i64 (IntKind.i64.wrap (Int.fdiv r9.1 (2 ^ (min ((1 : Int)).toNat IntKind.u64.bits)))) (IntKind.i64.wrap (0 - (IntKind.i64.wrap (bitsA .and .u64 r9.1 (1 : Int)))))))))]) (H' := [(0, (.cells [(.d (.sl (List.map byteD a0))), (.d (.int .i64 r9.2.1)), (.d (.int .i64 r9.2.2))]))]) rfl ⟨rfl, [], [], rfl, rfl, ⟨⟨_, rfl, (.refl _)⟩, rfl, trivial⟩, ⟨⟨_, rfl, (.refl _)⟩, rfl, rfl, trivial⟩⟩ (doneA (.inr rfl) rfl ⟨trivial, trivial⟩ (.refl _) (hasCons rfl hasNil)))
/-- courant/courantref01.signed -/
def C90 (N : Nat → Nat) : AFunc := { n := 14, params := 1, res := [.tmp 2], body :=
 (.seq (.region false [⟨(some 2), .mv (.k (.d (.int .i64 0))), none, []⟩])
  (.seq (.seq (.region false [⟨(some 3), .mv (.t 0), none, []⟩,
     ⟨(some 4), .bin .rem (.t 3) (.k (.d (.int .u64 2))), none, [0]⟩,
     ⟨(some 5), .bin .eql (.t 4) (.k (.d (.int .u64 0))), none, [1]⟩])
    (.cond (.t 5) (.seq (.region false [⟨(some 6), .mv (.t 0), none, []⟩,
       ⟨(some 7), .bin .quo (.t 6) (.k (.d (.int .u64 2))), none, [0]⟩,
       ⟨(some 8), .cvi .i64 (.t 7), none, [1]⟩,
       ⟨(some 2), .mv (.t 8), none, [2, 0, 1]⟩])
      .ret)
     (.skip)))
   (.seq (.region false [⟨(some 9), .mv (.t 0), none, []⟩,
     ⟨(some 10), .bin .quo (.t 9) (.k (.d (.int .u64 2))), none, [0]⟩,
     ⟨(some 11), .cvi .i64 (.t 10), none, [1]⟩,
     ⟨(some 12), .un .neg (.t 11), none, [2]⟩,
     ⟨(some 13), .bin .sub (.t 12) (.k (.d (.int .i64 1))), none, [3]⟩,
     ⟨(some 2), .mv (.t 13), none, [4, 0, 1, 2, 3]⟩])
    .ret))) }
def HC90 (P : Program) (N : Nat → Nat) : Prop := HasF P (N 90) (C90 N)
def f90 (k : Nat) (a0 : Int) : Option Int := cond (decide ((Int.tmod a0 (2 : Int)) = (0 : Int))) (some (IntKind.i64.wrap (IntKind.u64.wrap (Int.tdiv a0 (2 : Int))))) (some (IntKind.i64.wrap ((IntKind.i64.wrap (0 - (IntKind.i64.wrap (IntKind.u64.wrap (Int.tdiv a0 (2 : Int)))))) - (1 : Int))))
theorem F90 {P : Program} {N : Nat → Nat} (hmix : P.follows .mixedOrders = true) (hc : HC90 P N) {k : Nat} {a0 : Int} {r : Int} (h : f90 k a0 = some r) :
    ACalls P (N 90) [(.d (.int .u64 a0))] [] (.d (.int .i64 r)) [] := by
  refine acalls_canon (F := C90 N) hc 0 0 rfl ?_
  unfold f90 at h
  dsimp only [C90, startL]
  refine AWc.seq ?_
  refine AWc.rg hmix rfl rfl ?_
  refine RegV.p0 rfl rfl rfl ?_
  refine RegV.nil0 ?_
  refine AWc.seq ?_
  refine AWc.seq ?_
  refine AWc.rg hmix rfl rfl ?_
  refine RegV.p0 rfl rfl rfl ?_
  refine RegV.p1 (v := (.d (.int .u64 (Int.tmod a0 (2 : Int))))) rfl rfl (by decide) rfl rfl ?_
  refine RegV.p0 (v := (.d (.bool (decide ((Int.tmod a0 (2 : Int)) = (0 : Int)))))) rfl rfl rfl ?_
  refine RegV.nil0 ?_
  refine AWc.cond rfl (fun c12 => ?_) (fun c12 => ?_)
  · have h := cond_pos c12 h
    refine AWc.seq ?_
    refine AWc.rg hmix rfl rfl ?_
    refine RegV.p0 rfl rfl rfl ?_
    refine RegV.p1 (v := (.d (.int .u64 (IntKind.u64.wrap (Int.tdiv a0 (2 : Int)))))) rfl rfl (by decide) rfl rfl ?_
    refine RegV.p0 (v := (.d (.int .i64 (IntKind.i64.wrap (IntKind.u64.wrap (Int.tdiv a0 (2 : Int))))))) rfl rfl rfl ?_
    refine RegV.p0 rfl rfl rfl ?_
    refine RegV.nil0 ?_
    have hr := Option.some.inj h
    subst hr
    exact AWc.ret (canQ (N := 14) (k := 0) (l' := [(2, (.d (.int .i64 (IntKind.i64.wrap (IntKind.u64.wrap (Int.tdiv a0 (2 : Int)))))))]) (H' := []) rfl ⟨rfl, [], [], rfl, rfl, ⟨⟨_, rfl, (.refl _)⟩, rfl, trivial⟩,  trivial⟩ (doneA (.inr rfl) rfl ⟨trivial, trivial⟩ (.refl _) hasNil))
  · have h := cond_neg c12 h
    refine AWc.skip ?_
    refine AWc.seq ?_
    refine AWc.rg hmix rfl rfl ?_
    refine RegV.p0 rfl rfl rfl ?_
    refine RegV.p1 (v := (.d (.int .u64 (IntKind.u64.wrap (Int.tdiv a0 (2 : Int)))))) rfl rfl (by decide) rfl rfl ?_
    refine RegV.p0 (v := (.d (.int .i64 (IntKind.i64.wrap (IntKind.u64.wrap (Int.tdiv a0 (2 : Int))))))) rfl rfl rfl ?_
    refine RegV.p0 (v := (.d (.int .i64 (IntKind.i64.wrap (0 - (IntKind.i64.wrap (IntKind.u64.wrap (Int.tdiv a0 (2 : Int))))))))) rfl rfl rfl ?_
    refine RegV.p0 (v := (.d (.int .i64 (IntKind.i64.wrap ((IntKind.i64.wrap (0 - (IntKind.i64.wrap (IntKind.u64.wrap (Int.tdiv a0 (2 : Int)))))) - (1 : Int)))))) rfl rfl rfl ?_
    refine RegV.p0 rfl rfl rfl ?_
    refine RegV.nil0 ?_
    have hr := Option.some.inj h
    subst hr
    exact AWc.ret (canQ (N := 14) (k := 0) (l' := [(2, (.d (.int .i64 (IntKind.i64.wrap ((IntKind.i64.wrap (0 - (IntKind.i64.wrap (IntKind.u64.wrap (Int.tdiv a0 (2 : Int)))))) - (1 : Int))))))]) (H' := []) rfl ⟨rfl, [], [], rfl, rfl, ⟨⟨_, rfl, (.refl _)⟩, rfl, trivial⟩,  trivial⟩ (doneA (.inr rfl) rfl ⟨trivial, trivial⟩ (.refl _) hasNil))
/-- (*courant/courantref01.Reader).Zig -/
def C47 (N : Nat → Nat) : AFunc := { n := 6, params := 1, res := [.tmp 2], body :=
 (.seq (.region false [⟨(some 2), .mv (.k (.d (.int .i64 0))), none, []⟩])
  (.seq (.region false [⟨(some 3), .mv (.t 0), none, []⟩,
    ⟨(some 4), .call (.k (.d (.fn (N 46)))) [(.t 3)], none, [0]⟩,
    ⟨(some 5), .call (.k (.d (.fn (N 90)))) [(.t 4)], none, [1]⟩,
    ⟨(some 2), .mv (.t 5), none, [2, 0, 1]⟩])
   .ret)) }
def HC47 (P : Program) (N : Nat → Nat) : Prop := HasF P (N 47) (C47 N) ∧ HC46 P N ∧ HC90 P N
def f47 (k : Nat) (a0 : (List UInt8)) (a1 : Int) (a2 : Int) : Option (Int × Int × Int) := (f46 k a0 a1 a2).bind fun r9 => (f90 k r9.1).bind fun r10 => some (r10, r9.2.1, r9.2.2)
theorem F47 {P : Program} {N : Nat → Nat} (hmix : P.follows .mixedOrders = true) (hc : HC47 P N) {k : Nat} {a0 : (List UInt8)} {a1 : Int} {a2 : Int} {r : (Int × Int × Int)} (h : f47 k a0 a1 a2 = some r) :
    ACalls P (N 47) [(.ptr 0 0)] [(0, (.cells [(.d (.sl (List.map byteD a0))), (.d (.int .i64 a1)), (.d (.int .i64 a2))]))] (.d (.int .i64 r.1)) [(0, (.cells [(.d (.sl (List.map byteD a0))), (.d (.int .i64 r.2.1)), (.d (.int .i64 r.2.2))]))] := by
  refine acalls_canon (F := C47 N) hc.1 1 1 rfl ?_
  unfold f47 at h
  dsimp only [C47, startL]
  refine AWc.seq ?_
  refine AWc.rg hmix rfl rfl ?_
  refine RegV.p0 rfl rfl rfl ?_
  refine RegV.nil0 ?_
  refine AWc.seq ?_
  refine AWc.rg hmix rfl rfl ?_
  refine RegV.p0 rfl rfl rfl ?_
  obtain ⟨r9, e9, h⟩ := bind_some h
  refine RegV.callS (q := false) (H' := [(0, (.cells [(.d (.sl (List.map byteD a0))), (.d (.int .i64 r9.2.1)), (.d (.int .i64 r9.2.2))]))]) (c' := 1) (show ACalls P (N 46) [(.ptr 0 0)] [(0, (.cells [(.d (.sl (List.map byteD a0))), (.d (.int .i64 a1)), (.d (.int .i64 a2))]))] (.d (.int .u64 r9.1)) [(0, (.cells [(.d (.sl (List.map byteD a0))), (.d (.int .i64 r9.2.1)), (.d (.int .i64 r9.2.2))]))] from ACalls.use (F46 hmix hc.2.1 e9) [(0, 0)] 1 rfl) rfl rfl rfl rfl (.cons (.refl _) .nil) (.refl _) (fun h => by cases h) rfl (hasCons rfl hasNil) rfl rfl rfl rfl ?_
  obtain ⟨r10, e10, h⟩ := bind_some h
  refine RegV.call0 (F90 hmix hc.2.2 e10) rfl rfl rfl rfl (.cons (.refl _) .nil) rfl ?_
  refine RegV.p0 rfl rfl rfl ?_
  refine RegV.nil0 ?_
  have hr := Option.some.inj h
  subst hr
  exact AWc.ret (canQ (N := 6) (k := 1) (l' := [(2, (.d (.int .i64 r10)))]) (H' := [(0, (.cells [(.d (.sl (List.map byteD a0))), (.d (.int .i64 r9.2.1)), (.d (.int .i64 r9.2.2))]))]) rfl ⟨rfl, [], [], rfl, rfl, ⟨⟨_, rfl, (.refl _)⟩, rfl, trivial⟩, ⟨⟨_, rfl, (.refl _)⟩, rfl, rfl, trivial⟩⟩ (doneA (.inr rfl) rfl ⟨trivial, trivial⟩ (.refl _) (hasCons rfl hasNil)))
/-- (*courant/code.Reader).Left -/
def C32 (N : Nat → Nat) : AFunc := { n := 15, params := 1, res := [.tmp 2], body :=
 (.seq (.region false [⟨(some 2), .mv (.k (.d (.int .i64 0))), none, []⟩])
  (.seq (.seq (.region false [⟨(some 3), .mv (.t 0), none, []⟩,
     ⟨(some 4), .nileq 1 false (.t 3) (.k (.d .nilp)), none, [0]⟩])
    (.cond (.t 4) (.seq (.region false [⟨(some 2), .mv (.k (.d (.int .i64 0))), none, []⟩])
      .ret)
     (.skip)))
   (.seq (.region true [⟨(some 5), .mv (.t 0), none, []⟩,
     ⟨(some 6), .nilchk (.t 5), none, [0]⟩,
     ⟨(some 7), .faddr (.t 6) 0, none, [1]⟩,
     ⟨(some 8), .load (.t 7) 1 false, none, [2]⟩,
     ⟨(some 9), .len (.t 8), none, [3]⟩,
     ⟨(some 10), .mv (.t 0), none, []⟩,
     ⟨(some 11), .nilchk (.t 10), none, [5]⟩,
     ⟨(some 12), .faddr (.t 11) 1, none, [6]⟩,
     ⟨(some 13), .load (.t 12) 1 false, none, [7]⟩,
     ⟨(some 14), .bin .sub (.t 9) (.t 13), none, [4, 8]⟩,
     ⟨(some 2), .mv (.t 14), none, [9, 0, 1, 2, 3, 4, 5, 6, 7, 8]⟩])
    .ret))) }
def HC32 (P : Program) (N : Nat → Nat) : Prop := HasF P (N 32) (C32 N)
def f32 (k : Nat) (a0 : (List UInt8)) (a1 : Int) (a2 : Int) : Option Unit := some ()
theorem F32 {P : Program} {N : Nat → Nat} (hmix : P.follows .mixedOrders = true) (hc : HC32 P N) {k : Nat} {a0 : (List UInt8)} {a1 : Int} {a2 : Int} {r : Unit} (h : f32 k a0 a1 a2 = some r) :
    ACalls P (N 32) [(.ptr 0 0)] [(0, (.cells [(.d (.sl (List.map byteD a0))), (.d (.int .i64 a1)), (.d (.int .i64 a2))]))] (.d (.int .i64 (IntKind.i64.wrap (((a0.length : Nat) : Int) - a1)))) [(0, (.cells [(.d (.sl (List.map byteD a0))), (.d (.int .i64 a1)), (.d (.int .i64 a2))]))] := by
  refine acalls_canon (F := C32 N) hc 1 1 rfl ?_
  unfold f32 at h
  dsimp only [C32, startL]
  refine AWc.seq ?_
  refine AWc.rg hmix rfl rfl ?_
  refine RegV.p0 rfl rfl rfl ?_
  refine RegV.nil0 ?_
  refine AWc.seq ?_
  refine AWc.seq ?_
  refine AWc.rg hmix rfl rfl ?_
  refine RegV.p0 rfl rfl rfl ?_
  refine RegV.p0 (v := (.d (.bool false))) rfl rfl rfl ?_
  refine RegV.nil0 ?_
  refine AWc.cond rfl (fun hc => by cases hc) (fun _ => ?_)
  refine AWc.skip ?_
  refine AWc.seq ?_
  refine AWc.rg hmix rfl rfl ?_
  refine RegV.p0 rfl rfl rfl ?_
  refine RegV.p0 rfl rfl rfl ?_
  refine RegV.p0 (v := (.ptr 0 0)) rfl rfl rfl ?_
  refine RegV.ld (v := (.d (.sl (List.map byteD a0)))) (H' := [(0, (.cells [(.d (.sl (List.map byteD a0))), (.d (.int .i64 a1)), (.d (.int .i64 a2))]))]) rfl rfl trivial rfl rfl rfl rfl rfl ?_
  refine RegV.len (xs := a0) (e := byteD) rfl rfl rfl rfl ?_
  refine RegV.p0 rfl rfl rfl ?_
  refine RegV.p0 rfl rfl rfl ?_
  refine RegV.p0 (v := (.ptr 0 1)) rfl rfl rfl ?_
  refine RegV.ld (v := (.d (.int .i64 a1))) (H' := [(0, (.cells [(.d (.sl (List.map byteD a0))), (.d (.int .i64 a1)), (.d (.int .i64 a2))]))]) rfl rfl trivial rfl rfl rfl rfl rfl ?_
  refine RegV.p0 (v := (.d (.int .i64 (IntKind.i64.wrap (((a0.length : Nat) : Int) - a1))))) rfl rfl rfl ?_
  refine RegV.p0 rfl rfl rfl ?_
  refine RegV.nil1 (by kernel_rfl) ?_
  have hr := Option.some.inj h
  subst hr
  exact AWc.ret (canQ (N := 15) (k := 1) (l' := [(2, (.d (.int .i64 (IntKind.i64.wrap (((a0.length : Nat) : Int) - a1)))))]) (H' := [(0, (.cells [(.d (.sl (List.map byteD a0))), (.d (.int .i64 a1)), (.d (.int .i64 a2))]))]) rfl ⟨rfl, [], [], rfl, rfl, ⟨⟨_, rfl, (.refl _)⟩, rfl, trivial⟩, ⟨⟨_, rfl, (.refl _)⟩, rfl, rfl, trivial⟩⟩ (doneA (.inr rfl) rfl ⟨trivial, trivial⟩ (.refl _) (hasCons rfl hasNil)))
/-- (*courant/code.Reader).Raw -/
def C41 (N : Nat → Nat) : AFunc := { n := 46, params := 2, res := [.tmp 4], body :=
 (.seq (.region false [⟨(some 4), .mv (.k .nils), none, []⟩])
  (.seq (.seq (.region false [⟨(some 5), .mv (.t 0), none, []⟩,
     ⟨(some 6), .call (.k (.d (.fn (N 84)))) [(.t 5)], none, [0]⟩,
     ⟨(some 7), .un .not (.t 6), none, [1]⟩,
     ⟨(some 8), .mv (.t 7), none, [2, 1]⟩,
     ⟨(some 9), .mv (.t 1), (some (8, false)), [3]⟩,
     ⟨(some 10), .bin .leq (.t 9) (.k (.d (.int .i64 0))), (some (8, false)), [4, 3]⟩,
     ⟨(some 11), .pick (.t 8) (.k (.d (.bool true))) (.t 10), none, [3, 5]⟩])
    (.cond (.t 11) (.seq (.region false [⟨(some 4), .mv (.k .nils), none, []⟩])
      .ret)
     (.skip)))
   (.seq (.seq (.region false [⟨(some 12), .mv (.t 1), none, []⟩,
      ⟨(some 13), .mv (.t 0), none, []⟩,
      ⟨(some 14), .call (.k (.d (.fn (N 32)))) [(.t 13)], none, [1]⟩,
      ⟨(some 15), .bin .gtr (.t 12) (.t 14), none, [0, 2]⟩])
     (.cond (.t 15) (.seq (.region false [⟨(some 16), .mv (.t 0), none, []⟩,
        ⟨(some 17), .mv (.t 0), none, []⟩,
        ⟨(some 18), .nilchk (.t 17), none, [1]⟩,
        ⟨(some 19), .faddr (.t 18) 1, none, [2]⟩,
        ⟨(some 20), .load (.t 19) 1 false, none, [3]⟩,
        ⟨(some 21), .call (.k (.d (.fn (N 85)))) [(.t 16), (.t 20), (.k (.d (.int .i64 3)))], none, [0, 4]⟩])
       (.seq (.region false [⟨(some 4), .mv (.k .nils), none, []⟩])
        .ret))
      (.skip)))
    (.seq (.region false [⟨(some 22), .mv (.t 0), none, []⟩,
      ⟨(some 23), .nilchk (.t 22), none, [0]⟩,
      ⟨(some 24), .faddr (.t 23) 1, none, [1]⟩,
      ⟨(some 25), .load (.t 24) 1 false, none, [2]⟩,
      ⟨(some 26), .mv (.t 1), none, []⟩,
      ⟨(some 27), .bin .add (.t 25) (.t 26), none, [3, 4]⟩,
      ⟨(some 28), .nilchk (.t 22), none, [0, 1, 2, 3, 4, 5]⟩,
      ⟨(some 29), .faddr (.t 28) 1, none, [6, 0, 1, 2, 3, 4, 5]⟩,
      ⟨none, .store (.t 29) (.t 27) 1, none, [7, 5, 0, 1, 2, 3, 4]⟩])
     (.seq (.region true [⟨(some 30), .mv (.t 0), none, []⟩,
       ⟨(some 31), .nilchk (.t 30), none, [0]⟩,
       ⟨(some 32), .faddr (.t 31) 0, none, [1]⟩,
       ⟨(some 33), .load (.t 32) 1 false, none, [2]⟩,
       ⟨(some 34), .mv (.t 0), none, []⟩,
       ⟨(some 35), .nilchk (.t 34), none, [4]⟩,
       ⟨(some 36), .faddr (.t 35) 1, none, [5]⟩,
       ⟨(some 37), .load (.t 36) 1 false, none, [6]⟩,
       ⟨(some 38), .mv (.t 1), none, []⟩,
       ⟨(some 39), .bin .sub (.t 37) (.t 38), none, [7, 8]⟩,
       ⟨(some 40), .mv (.t 0), none, []⟩,
       ⟨(some 41), .nilchk (.t 40), none, [10]⟩,
       ⟨(some 42), .faddr (.t 41) 1, none, [11]⟩,
       ⟨(some 43), .load (.t 42) 1 false, none, [12]⟩,
       ⟨(some 44), .slc (.t 33) (some (.t 39)) (some (.t 43)) none 1, none, [3, 9, 13]⟩,
       ⟨(some 45), .app (.k .nils) (.t 44) 1 1 [(.int .u8 0)], none, [14]⟩,
       ⟨(some 4), .mv (.t 45), none, [15, 0, 1, 2, 3, 4, 5, 6, 7, 8, 9, 10, 11, 12, 13, 14]⟩])
      .ret))))) }
def HC41 (P : Program) (N : Nat → Nat) : Prop := HasF P (N 41) (C41 N) ∧ HC84 P N ∧ HC32 P N ∧ HC85 P N
def f41 (k : Nat) (a0 : (List UInt8)) (a1 : Int) (a2 : Int) (a3 : Int) : Option (Nat × (List UInt8) × Int × Int) := (f84 k a0 a1 a2).bind fun r10 => cond (!(decide (a2 = (0 : Int)))) (some (0, ([] : List UInt8), a1, a2)) (cond (decide (a3 ≤ (0 : Int))) (some (0, ([] : List UInt8), a1, a2)) ((f32 k a0 a1 a2).bind fun r29 => cond (decide (a3 > (IntKind.i64.wrap (((a0.length : Nat) : Int) - a1)))) ((f85 k a0 a1 a2 a1 (3 : Int)).bind fun r40 => some (0, ([] : List UInt8), a1, (3 : Int))) (gd (0 ≤ (IntKind.i64.wrap ((IntKind.i64.wrap (a1 + a3)) - a3)) ∧ (IntKind.i64.wrap ((IntKind.i64.wrap (a1 + a3)) - a3)) ≤ (IntKind.i64.wrap (a1 + a3)) ∧ (IntKind.i64.wrap (a1 + a3)) ≤ ((a0.length : Nat) : Int)) (gd ((sl a0 (IntKind.i64.wrap ((IntKind.i64.wrap (a1 + a3)) - a3)) (IntKind.i64.wrap (a1 + a3))).length * 1 ≤ 281474976710656) (some ((sl a0 (IntKind.i64.wrap ((IntKind.i64.wrap (a1 + a3)) - a3)) (IntKind.i64.wrap (a1 + a3))).length, (sl a0 (IntKind.i64.wrap ((IntKind.i64.wrap (a1 + a3)) - a3)) (IntKind.i64.wrap (a1 + a3))), (IntKind.i64.wrap (a1 + a3)), a2))))))
theorem F41 {P : Program} {N : Nat → Nat} (hmix : P.follows .mixedOrders = true) (hc : HC41 P N) {k : Nat} {a0 : (List UInt8)} {a1 : Int} {a2 : Int} {a3 : Int} {r : (Nat × (List UInt8) × Int × Int)} (h : f41 k a0 a1 a2 a3 = some r) :
    ACalls P (N 41) [(.ptr 0 0), (.d (.int .i64 a3))] [(0, (.cells [(.d (.sl (List.map byteD a0))), (.d (.int .i64 a1)), (.d (.int .i64 a2))]))] (.row 1 1 r.1) [(1, (rowO byteD r.2.1)), (0, (.cells [(.d (.sl (List.map byteD a0))), (.d (.int .i64 r.2.2.1)), (.d (.int .i64 r.2.2.2))]))] := by
  refine acalls_canon (F := C41 N) hc.1 1 2 rfl ?_
  unfold f41 at h
  dsimp only [C41, startL]
  refine AWc.seq ?_
  refine AWc.rg hmix rfl rfl ?_
  refine RegV.p0 rfl rfl rfl ?_
  refine RegV.nil0 ?_
  refine AWc.seq ?_
  refine AWc.seq ?_
  refine AWc.rg hmix rfl rfl ?_
  refine RegV.p0 rfl rfl rfl ?_
  obtain ⟨r10, e10, h⟩ := bind_some h
  refine RegV.callS (q := true) (H' := [(0, (.cells [(.d (.sl (List.map byteD a0))), (.d (.int .i64 a1)), (.d (.int .i64 a2))]))]) (c' := 1) (show ACalls P (N 84) [(.ptr 0 0)] [(0, (.cells [(.d (.sl (List.map byteD a0))), (.d (.int .i64 a1)), (.d (.int .i64 a2))]))] (.d (.bool (decide (a2 = (0 : Int))))) [(0, (.cells [(.d (.sl (List.map byteD a0))), (.d (.int .i64 a1)), (.d (.int .i64 a2))]))] from ACalls.use (F84 hmix hc.2.1 e10) [(0, 0)] 1 rfl) rfl rfl rfl rfl (.cons (.refl _) .nil) (.refl _) (fun _ => rfl) rfl (hasCons rfl hasNil) rfl rfl rfl rfl ?_
  refine RegV.p0 (v := (.d (.bool (!(decide (a2 = (0 : Int))))))) rfl rfl rfl ?_
  refine RegV.p0 rfl rfl rfl ?_
  refine RegV.split (fun c12 => ?_) (fun c12 => ?_)
  · have h := cond_pos c12 h
    refine RegV.noS rfl rfl ?_
    refine RegV.noS rfl rfl ?_
    refine RegV.p0 rfl rfl rfl ?_
    refine RegV.nil0 ?_
    refine AWc.cond rfl (fun _ => ?_) (fun hc => by cases hc)
    refine AWc.seq ?_
    refine AWc.rg hmix rfl rfl ?_
    refine RegV.p0 rfl rfl rfl ?_
    refine RegV.nil0 ?_
    have hr := Option.some.inj h
    subst hr
    exact AWc.ret (canQ (N := 46) (k := 2) (l' := [(4, (.row 1 1 (0)))]) (H' := [(1, (rowO byteD ([] : List UInt8))), (0, (.cells [(.d (.sl (List.map byteD a0))), (.d (.int .i64 a1)), (.d (.int .i64 a2))]))]) rfl ⟨rfl, [.rowP []], [(1, 1)], rfl, rfl, ⟨⟨_, rfl, .nilRow⟩, rfl, trivial⟩, ⟨⟨_, rfl, (.refl _)⟩, rfl, rfl, ⟨⟨_, rfl, (.refl _)⟩, rfl, rfl, trivial⟩⟩⟩ (doneA (.inr rfl) rfl ⟨trivial, trivial⟩ (.refl _) (hasCons rfl (hasCons rfl hasNil))))
  · have h := cond_neg c12 h
    refine RegV.p0 rfl rfl rfl ?_
    refine RegV.p0 (v := (.d (.bool (decide (a3 ≤ (0 : Int)))))) rfl rfl rfl ?_
    refine RegV.p0 rfl rfl rfl ?_
    refine RegV.nil0 ?_
    refine AWc.cond rfl (fun c16 => ?_) (fun c16 => ?_)
    · have h := cond_pos c16 h
      refine AWc.seq ?_
      refine AWc.rg hmix rfl rfl ?_
      refine RegV.p0 rfl rfl rfl ?_
      refine RegV.nil0 ?_
      have hr := Option.some.inj h
      subst hr
      exact AWc.ret (canQ (N := 46) (k := 2) (l' := [(4, (.row 1 1 (0)))]) (H' := [(1, (rowO byteD ([] : List UInt8))), (0, (.cells [(.d (.sl (List.map byteD a0))), (.d (.int .i64 a1)), (.d (.int .i64 a2))]))]) rfl ⟨rfl, [.rowP []], [(1, 1)], rfl, rfl, ⟨⟨_, rfl, .nilRow⟩, rfl, trivial⟩, ⟨⟨_, rfl, (.refl _)⟩, rfl, rfl, ⟨⟨_, rfl, (.refl _)⟩, rfl, rfl, trivial⟩⟩⟩ (doneA (.inr rfl) rfl ⟨trivial, trivial⟩ (.refl _) (hasCons rfl (hasCons rfl hasNil))))
    · have h := cond_neg c16 h
      refine AWc.skip ?_
      refine AWc.seq ?_
      refine AWc.seq ?_
      refine AWc.rg hmix rfl rfl ?_
      refine RegV.p0 rfl rfl rfl ?_
      refine RegV.p0 rfl rfl rfl ?_
      obtain ⟨r29, e29, h⟩ := bind_some h
      refine RegV.callS (q := true) (H' := [(0, (.cells [(.d (.sl (List.map byteD a0))), (.d (.int .i64 a1)), (.d (.int .i64 a2))]))]) (c' := 1) (show ACalls P (N 32) [(.ptr 0 0)] [(0, (.cells [(.d (.sl (List.map byteD a0))), (.d (.int .i64 a1)), (.d (.int .i64 a2))]))] (.d (.int .i64 (IntKind.i64.wrap (((a0.length : Nat) : Int) - a1)))) [(0, (.cells [(.d (.sl (List.map byteD a0))), (.d (.int .i64 a1)), (.d (.int .i64 a2))]))] from ACalls.use (F32 hmix hc.2.2.1 e29) [(0, 0)] 1 rfl) rfl rfl rfl rfl (.cons (.refl _) .nil) (.refl _) (fun _ => rfl) rfl (hasCons rfl hasNil) rfl rfl rfl rfl ?_
      refine RegV.p0 (v := (.d (.bool (decide (a3 > (IntKind.i64.wrap (((a0.length : Nat) : Int) - a1))))))) rfl rfl rfl ?_
      refine RegV.nil0 ?_
      refine AWc.cond rfl (fun c31 => ?_) (fun c31 => ?_)
      · have h := cond_pos c31 h
        refine AWc.seq ?_
        refine AWc.rg hmix rfl rfl ?_
        refine RegV.p0 rfl rfl rfl ?_
        refine RegV.p0 rfl rfl rfl ?_
        refine RegV.p0 rfl rfl rfl ?_
        refine RegV.p0 (v := (.ptr 0 1)) rfl rfl rfl ?_
        refine RegV.ld (v := (.d (.int .i64 a1))) (H' := [(0, (.cells [(.d (.sl (List.map byteD a0))), (.d (.int .i64 a1)), (.d (.int .i64 a2))]))]) rfl rfl trivial rfl rfl rfl rfl rfl ?_
        obtain ⟨r40, e40, h⟩ := bind_some h
        refine RegV.callS (q := false) (H' := [(0, (.cells [(.d (.sl (List.map byteD a0))), (.d (.int .i64 a1)), (.d (.int .i64 (3 : Int)))]))]) (c' := 1) (show ACalls P (N 85) [(.ptr 0 0), (.d (.int .i64 a1)), (.d (.int .i64 (3 : Int)))] [(0, (.cells [(.d (.sl (List.map byteD a0))), (.d (.int .i64 a1)), (.d (.int .i64 a2))]))] (.tup []) [(0, (.cells [(.d (.sl (List.map byteD a0))), (.d (.int .i64 a1)), (.d (.int .i64 (3 : Int)))]))] from ACalls.use (F85 hmix hc.2.2.2 e40) [(0, 0)] 1 rfl) rfl rfl rfl rfl (.cons (.refl _) (.cons (.refl _) (.cons (.refl _) .nil))) (.refl _) (fun h => by cases h) rfl (hasCons rfl hasNil) rfl rfl rfl rfl ?_
        refine RegV.nil0 ?_
        refine AWc.seq ?_
        refine AWc.rg hmix rfl rfl ?_
        refine RegV.p0 rfl rfl rfl ?_
        refine RegV.nil0 ?_
        have hr := Option.some.inj h
        subst hr
        exact AWc.ret (canQ (N := 46) (k := 2) (l' := [(4, (.row 1 1 (0)))]) (H' := [(1, (rowO byteD ([] : List UInt8))), (0, (.cells [(.d (.sl (List.map byteD a0))), (.d (.int .i64 a1)), (.d (.int .i64 (3 : Int)))]))]) rfl ⟨rfl, [.rowP []], [(1, 1)], rfl, rfl, ⟨⟨_, rfl, .nilRow⟩, rfl, trivial⟩, ⟨⟨_, rfl, (.refl _)⟩, rfl, rfl, ⟨⟨_, rfl, (.refl _)⟩, rfl, rfl, trivial⟩⟩⟩ (doneA (.inr rfl) rfl ⟨trivial, trivial⟩ (.refl _) (hasCons rfl (hasCons rfl hasNil))))
      · have h := cond_neg c31 h
        refine AWc.skip ?_
        refine AWc.seq ?_
        refine AWc.rg hmix rfl rfl ?_
        refine RegV.p0 rfl rfl rfl ?_
        refine RegV.p0 rfl rfl rfl ?_
        refine RegV.p0 (v := (.ptr 0 1)) rfl rfl rfl ?_
        refine RegV.ld (v := (.d (.int .i64 a1))) (H' := [(0, (.cells [(.d (.sl (List.map byteD a0))), (.d (.int .i64 a1)), (.d (.int .i64 a2))]))]) rfl rfl trivial rfl rfl rfl rfl rfl ?_
        refine RegV.p0 rfl rfl rfl ?_
        refine RegV.p0 (v := (.d (.int .i64 (IntKind.i64.wrap (a1 + a3))))) rfl rfl rfl ?_
        refine RegV.p0 rfl rfl rfl ?_
        refine RegV.p0 (v := (.ptr 0 1)) rfl rfl rfl ?_
        refine RegV.evN (own := false) (H' := [(0, (.cells [(.d (.sl (List.map byteD a0))), (.d (.int .i64 (IntKind.i64.wrap (a1 + a3)))), (.d (.int .i64 a2))]))]) (c' := 1) rfl rfl (by exact ⟨rfl, Nat.le_of_ble_eq_true rfl, rfl⟩) rfl rfl rfl rfl ?_
        refine RegV.nil0 ?_
        refine AWc.seq ?_
        refine AWc.rg hmix rfl rfl ?_
        refine RegV.p0 rfl rfl rfl ?_
        refine RegV.p0 rfl rfl rfl ?_
        refine RegV.p0 (v := (.ptr 0 0)) rfl rfl rfl ?_
        refine RegV.ld (v := (.d (.sl (List.map byteD a0)))) (H' := [(0, (.cells [(.d (.sl (List.map byteD a0))), (.d (.int .i64 (IntKind.i64.wrap (a1 + a3)))), (.d (.int .i64 a2))]))]) rfl rfl trivial rfl rfl rfl rfl rfl ?_
        refine RegV.p0 rfl rfl rfl ?_
        refine RegV.p0 rfl rfl rfl ?_
        refine RegV.p0 (v := (.ptr 0 1)) rfl rfl rfl ?_
        refine RegV.ld (v := (.d (.int .i64 (IntKind.i64.wrap (a1 + a3))))) (H' := [(0, (.cells [(.d (.sl (List.map byteD a0))), (.d (.int .i64 (IntKind.i64.wrap (a1 + a3)))), (.d (.int .i64 a2))]))]) rfl rfl trivial rfl rfl rfl rfl rfl ?_
        refine RegV.p0 rfl rfl rfl ?_
        refine RegV.p0 (v := (.d (.int .i64 (IntKind.i64.wrap ((IntKind.i64.wrap (a1 + a3)) - a3))))) rfl rfl rfl ?_
        refine RegV.p0 rfl rfl rfl ?_
        refine RegV.p0 rfl rfl rfl ?_
        refine RegV.p0 (v := (.ptr 0 1)) rfl rfl rfl ?_
        refine RegV.ld (v := (.d (.int .i64 (IntKind.i64.wrap (a1 + a3))))) (H' := [(0, (.cells [(.d (.sl (List.map byteD a0))), (.d (.int .i64 (IntKind.i64.wrap (a1 + a3)))), (.d (.int .i64 a2))]))]) rfl rfl trivial rfl rfl rfl rfl rfl ?_
        obtain ⟨b76, h⟩ := gd_some h
        refine RegV.slc (xs := a0) (e := byteD) (lo := (IntKind.i64.wrap ((IntKind.i64.wrap (a1 + a3)) - a3))) (hi := (IntKind.i64.wrap (a1 + a3))) rfl rfl rfl b76 (fun _ => rfl) rfl ?_
        obtain ⟨b77, h⟩ := gd_some h
        refine RegV.appR (ys := (sl a0 (IntKind.i64.wrap ((IntKind.i64.wrap (a1 + a3)) - a3)) (IntKind.i64.wrap (a1 + a3)))) (e := byteD) rfl rfl rfl byteD_ok rfl rfl b77 rfl rfl ?_
        refine RegV.p0 rfl rfl rfl ?_
        refine RegV.nil1 (by kernel_rfl) ?_
        have hr := Option.some.inj h
        subst hr
        exact AWc.ret (canQ (N := 46) (k := 2) (l' := [(4, (.row 1 1 ((sl a0 (IntKind.i64.wrap ((IntKind.i64.wrap (a1 + a3)) - a3)) (IntKind.i64.wrap (a1 + a3))).length)))]) (H' := [(1, (rowO byteD (sl a0 (IntKind.i64.wrap ((IntKind.i64.wrap (a1 + a3)) - a3)) (IntKind.i64.wrap (a1 + a3))))), (0, (.cells [(.d (.sl (List.map byteD a0))), (.d (.int .i64 (IntKind.i64.wrap (a1 + a3)))), (.d (.int .i64 a2))]))]) rfl ⟨rfl, [], [], rfl, rfl, ⟨⟨_, rfl, (.refl _)⟩, rfl, trivial⟩, ⟨⟨_, rfl, (.refl _)⟩, rfl, rfl, ⟨⟨_, rfl, (.refl _)⟩, rfl, rfl, trivial⟩⟩⟩ (doneA (.inr rfl) rfl ⟨trivial, trivial⟩ (.refl _) (hasCons rfl (hasCons rfl hasNil))))
/-- (*courant/code.Reader).Text -/
def C31 (N : Nat → Nat) : AFunc := { n := 53, params := 2, res := [.tmp 4], body :=
 (.seq (.region false [⟨(some 4), .mv (.k .nils), none, []⟩])
  (.seq (.seq (.region false [⟨(some 8), .mv (.t 0), none, []⟩,
     ⟨(some 9), .call (.k (.d (.fn (N 84)))) [(.t 8)], none, [0]⟩,
     ⟨(some 10), .un .not (.t 9), none, [1]⟩])
    (.cond (.t 10) (.seq (.region false [⟨(some 4), .mv (.k .nils), none, []⟩])
      .ret)
     (.skip)))
   (.seq (.region false [⟨(some 11), .mv (.t 0), none, []⟩,
     ⟨(some 12), .nilchk (.t 11), none, [0]⟩,
     ⟨(some 13), .faddr (.t 12) 1, none, [1]⟩,
     ⟨(some 14), .load (.t 13) 1 false, none, [2]⟩,
     ⟨(some 5), .mv (.t 14), none, [3, 0, 1, 2]⟩])
    (.seq (.region false [⟨(some 15), .mv (.t 0), none, []⟩,
      ⟨(some 16), .call (.k (.d (.fn (N 40)))) [(.t 15)], none, [0]⟩,
      ⟨(some 6), .mv (.t 16), none, [1, 0]⟩])
     (.seq (.block 0 (.seq (.region false [⟨(some 18), .mv (.t 0), none, []⟩,
         ⟨(some 19), .nilchk (.t 18), none, [0]⟩,
         ⟨(some 20), .faddr (.t 19) 2, none, [1]⟩,
         ⟨(some 21), .load (.t 20) 1 false, none, [2]⟩,
         ⟨(some 22), .bin .neq (.t 21) (.k (.d (.int .i64 0))), none, [3]⟩,
         ⟨(some 17), .mv (.t 22), none, [4]⟩])
        (.cond (.t 17) (.seq (.region false [⟨(some 4), .mv (.k .nils), none, []⟩])
          .ret)
         (.seq (.region false [⟨(some 24), .mv (.t 6), none, []⟩,
           ⟨(some 25), .bin .lss (.t 24) (.k (.d (.int .i64 0))), none, [0]⟩,
           ⟨(some 23), .mv (.t 25), none, [1]⟩])
          (.cond (.t 23) (.seq (.region false [⟨(some 26), .mv (.t 0), none, []⟩,
             ⟨(some 27), .mv (.t 5), none, []⟩,
             ⟨(some 28), .call (.k (.d (.fn (N 85)))) [(.t 26), (.t 27), (.k (.d (.int .i64 4)))], none, [0, 1]⟩])
            (.seq (.region false [⟨(some 4), .mv (.k .nils), none, []⟩])
             .ret))
           (.seq (.region false [⟨(some 30), .mv (.t 6), none, []⟩,
             ⟨(some 31), .mv (.t 1), none, []⟩,
             ⟨(some 32), .mm true [(.t 31), (.k (.d (.int .i64 0)))], none, [1]⟩,
             ⟨(some 33), .bin .gtr (.t 30) (.t 32), none, [0, 2]⟩,
             ⟨(some 29), .mv (.t 33), none, [3]⟩])
            (.cond (.t 29) (.seq (.region false [⟨(some 34), .mv (.t 0), none, []⟩,
               ⟨(some 35), .mv (.t 5), none, []⟩,
               ⟨(some 36), .call (.k (.d (.fn (N 85)))) [(.t 34), (.t 35), (.k (.d (.int .i64 5)))], none, [0, 1]⟩])
              (.seq (.region false [⟨(some 4), .mv (.k .nils), none, []⟩])
               .ret))
             (.skip))))))))
      (.seq (.region false [⟨(some 37), .mv (.t 0), none, []⟩,
        ⟨(some 38), .mv (.t 6), none, []⟩,
        ⟨(some 39), .call (.k (.d (.fn (N 41)))) [(.t 37), (.t 38)], none, [0, 1]⟩,
        ⟨(some 7), .mv (.t 39), none, [2, 0, 1]⟩])
       (.seq (.seq (.region false [⟨(some 40), .mv (.t 0), none, []⟩,
          ⟨(some 41), .nilchk (.t 40), none, [0]⟩,
          ⟨(some 42), .faddr (.t 41) 2, none, [1]⟩,
          ⟨(some 43), .load (.t 42) 1 false, none, [2]⟩,
          ⟨(some 44), .bin .neq (.t 43) (.k (.d (.int .i64 0))), none, [3]⟩])
         (.cond (.t 44) (.region false [⟨(some 45), .mv (.t 0), none, []⟩,
           ⟨(some 46), .mv (.t 5), none, []⟩,
           ⟨(some 47), .mv (.t 0), none, []⟩,
           ⟨(some 48), .nilchk (.t 47), none, [2]⟩,
           ⟨(some 49), .faddr (.t 48) 2, none, [3]⟩,
           ⟨(some 50), .load (.t 49) 1 false, none, [4]⟩,
           ⟨(some 51), .call (.k (.d (.fn (N 85)))) [(.t 45), (.t 46), (.t 50)], none, [0, 1, 5]⟩])
          (.skip)))
        (.seq (.region false [⟨(some 52), .mv (.t 7), none, []⟩,
          ⟨(some 4), .mv (.t 52), none, [0]⟩])
         .ret)))))))) }
def HC31 (P : Program) (N : Nat → Nat) : Prop := HasF P (N 31) (C31 N) ∧ HC84 P N ∧ HC40 P N ∧ HC85 P N ∧ HC41 P N
def f31 (k : Nat) (a0 : (List UInt8)) (a1 : Int) (a2 : Int) (a3 : Int) : Option (Nat × (List UInt8) × Int × Int) := (f84 k a0 a1 a2).bind fun r10 => cond (!(decide (a2 = (0 : Int)))) (some (0, ([] : List UInt8), a1, a2)) ((f40 k a0 a1 a2).bind fun r31 => cond (decide (r31.2.2 ≠ (0 : Int))) (some (0, ([] : List UInt8), r31.2.1, r31.2.2)) (cond (decide (r31.1 < (0 : Int))) ((f85 k a0 r31.2.1 r31.2.2 a1 (4 : Int)).bind fun r62 => some (0, ([] : List UInt8), a1, (4 : Int))) (cond (decide (r31.1 > (max a3 (0 : Int)))) ((f85 k a0 r31.2.1 r31.2.2 a1 (5 : Int)).bind fun r82 => some (0, ([] : List UInt8), a1, (5 : Int))) ((f41 k a0 r31.2.1 r31.2.2 r31.1).bind fun r94 => cond (decide (r94.2.2.2 ≠ (0 : Int))) ((f85 k a0 r94.2.2.1 r94.2.2.2 a1 r94.2.2.2).bind fun r114 => some (r94.1, r94.2.1, a1, r94.2.2.2)) (some (r94.1, r94.2.1, r94.2.2.1, r94.2.2.2))))))
theorem F31 {P : Program} {N : Nat → Nat} (hmix : P.follows .mixedOrders = true) (hc : HC31 P N) {k : Nat} {a0 : (List UInt8)} {a1 : Int} {a2 : Int} {a3 : Int} {r : (Nat × (List UInt8) × Int × Int)} (h : f31 k a0 a1 a2 a3 = some r) :
    ACalls P (N 31) [(.ptr 0 0), (.d (.int .i64 a3))] [(0, (.cells [(.d (.sl (List.map byteD a0))), (.d (.int .i64 a1)), (.d (.int .i64 a2))]))] (.row 1 1 r.1) [(1, (rowO byteD r.2.1)), (0, (.cells [(.d (.sl (List.map byteD a0))), (.d (.int .i64 r.2.2.1)), (.d (.int .i64 r.2.2.2))]))] := by
  refine acalls_canon (F := C31 N) hc.1 1 2 rfl ?_
  unfold f31 at h
  dsimp only [C31, startL]
  refine AWc.seq ?_
  refine AWc.rg hmix rfl rfl ?_
  refine RegV.p0 rfl rfl rfl ?_
  refine RegV.nil0 ?_
  refine AWc.seq ?_
  refine AWc.seq ?_
  refine AWc.rg hmix rfl rfl ?_
  refine RegV.p0 rfl rfl rfl ?_
  obtain ⟨r10, e10, h⟩ := bind_some h
  refine RegV.callS (q := true) (H' := [(0, (.cells [(.d (.sl (List.map byteD a0))), (.d (.int .i64 a1)), (.d (.int .i64 a2))]))]) (c' := 1) (show ACalls P (N 84) [(.ptr 0 0)] [(0, (.cells [(.d (.sl (List.map byteD a0))), (.d (.int .i64 a1)), (.d (.int .i64 a2))]))] (.d (.bool (decide (a2 = (0 : Int))))) [(0, (.cells [(.d (.sl (List.map byteD a0))), (.d (.int .i64 a1)), (.d (.int .i64 a2))]))] from ACalls.use (F84 hmix hc.2.1 e10) [(0, 0)] 1 rfl) rfl rfl rfl rfl (.cons (.refl _) .nil) (.refl _) (fun _ => rfl) rfl (hasCons rfl hasNil) rfl rfl rfl rfl ?_
  refine RegV.p0 (v := (.d (.bool (!(decide (a2 = (0 : Int))))))) rfl rfl rfl ?_
  refine RegV.nil0 ?_
  refine AWc.cond rfl (fun c12 => ?_) (fun c12 => ?_)
  · have h := cond_pos c12 h
    refine AWc.seq ?_
    refine AWc.rg hmix rfl rfl ?_
    refine RegV.p0 rfl rfl rfl ?_
    refine RegV.nil0 ?_
    have hr := Option.some.inj h
    subst hr
    exact AWc.ret (canQ (N := 53) (k := 2) (l' := [(4, (.row 1 1 (0)))]) (H' := [(1, (rowO byteD ([] : List UInt8))), (0, (.cells [(.d (.sl (List.map byteD a0))), (.d (.int .i64 a1)), (.d (.int .i64 a2))]))]) rfl ⟨rfl, [.rowP []], [(1, 1)], rfl, rfl, ⟨⟨_, rfl, .nilRow⟩, rfl, trivial⟩, ⟨⟨_, rfl, (.refl _)⟩, rfl, rfl, ⟨⟨_, rfl, (.refl _)⟩, rfl, rfl, trivial⟩⟩⟩ (doneA (.inr rfl) rfl ⟨trivial, trivial⟩ (.refl _) (hasCons rfl (hasCons rfl hasNil))))
  · have h := cond_neg c12 h
    refine AWc.skip ?_
    refine AWc.seq ?_
    refine AWc.rg hmix rfl rfl ?_
    refine RegV.p0 rfl rfl rfl ?_
    refine RegV.p0 rfl rfl rfl ?_
    refine RegV.p0 (v := (.ptr 0 1)) rfl rfl rfl ?_
    refine RegV.ld (v := (.d (.int .i64 a1))) (H' := [(0, (.cells [(.d (.sl (List.map byteD a0))), (.d (.int .i64 a1)), (.d (.int .i64 a2))]))]) rfl rfl trivial rfl rfl rfl rfl rfl ?_
    refine RegV.p0 rfl rfl rfl ?_
    refine RegV.nil0 ?_
    refine AWc.seq ?_
    refine AWc.rg hmix rfl rfl ?_
    refine RegV.p0 rfl rfl rfl ?_
    obtain ⟨r31, e31, h⟩ := bind_some h
    refine RegV.callS (q := false) (H' := [(0, (.cells [(.d (.sl (List.map byteD a0))), (.d (.int .i64 r31.2.1)), (.d (.int .i64 r31.2.2))]))]) (c' := 1) (show ACalls P (N 40) [(.ptr 0 0)] [(0, (.cells [(.d (.sl (List.map byteD a0))), (.d (.int .i64 a1)), (.d (.int .i64 a2))]))] (.d (.int .i64 r31.1)) [(0, (.cells [(.d (.sl (List.map byteD a0))), (.d (.int .i64 r31.2.1)), (.d (.int .i64 r31.2.2))]))] from ACalls.use (F40 hmix hc.2.2.1 e31) [(0, 0)] 1 rfl) rfl rfl rfl rfl (.cons (.refl _) .nil) (.refl _) (fun h => by cases h) rfl (hasCons rfl hasNil) rfl rfl rfl rfl ?_
    refine RegV.p0 rfl rfl rfl ?_
    refine RegV.nil0 ?_
    refine AWc.seq ?_
    refine AWc.block ?_
    refine AWc.seq ?_
    refine AWc.rg hmix rfl rfl ?_
    refine RegV.p0 rfl rfl rfl ?_
    refine RegV.p0 rfl rfl rfl ?_
    refine RegV.p0 (v := (.ptr 0 2)) rfl rfl rfl ?_
    refine RegV.ld (v := (.d (.int .i64 r31.2.2))) (H' := [(0, (.cells [(.d (.sl (List.map byteD a0))), (.d (.int .i64 r31.2.1)), (.d (.int .i64 r31.2.2))]))]) rfl rfl trivial rfl rfl rfl rfl rfl ?_
    refine RegV.p0 (v := (.d (.bool (decide (r31.2.2 ≠ (0 : Int)))))) rfl rfl rfl ?_
    refine RegV.p0 rfl rfl rfl ?_
    refine RegV.nil0 ?_
    refine AWc.cond rfl (fun c44 => ?_) (fun c44 => ?_)
    · have h := cond_pos c44 h
      refine AWc.seq ?_
      refine AWc.rg hmix rfl rfl ?_
      refine RegV.p0 rfl rfl rfl ?_
      refine RegV.nil0 ?_
      have hr := Option.some.inj h
      subst hr
      exact AWc.ret (canQ (N := 53) (k := 2) (l' := [(4, (.row 1 1 (0)))]) (H' := [(1, (rowO byteD ([] : List UInt8))), (0, (.cells [(.d (.sl (List.map byteD a0))), (.d (.int .i64 r31.2.1)), (.d (.int .i64 r31.2.2))]))]) rfl ⟨rfl, [.rowP []], [(1, 1)], rfl, rfl, ⟨⟨_, rfl, .nilRow⟩, rfl, trivial⟩, ⟨⟨_, rfl, (.refl _)⟩, rfl, rfl, ⟨⟨_, rfl, (.refl _)⟩, rfl, rfl, trivial⟩⟩⟩ (doneA (.inr rfl) rfl ⟨trivial, trivial⟩ (.refl _) (hasCons rfl (hasCons rfl hasNil))))
    · have h := cond_neg c44 h
      refine AWc.seq ?_
      refine AWc.rg hmix rfl rfl ?_
      refine RegV.p0 rfl rfl rfl ?_
      refine RegV.p0 (v := (.d (.bool (decide (r31.1 < (0 : Int)))))) rfl rfl rfl ?_
      refine RegV.p0 rfl rfl rfl ?_
      refine RegV.nil0 ?_
      refine AWc.cond rfl (fun c56 => ?_) (fun c56 => ?_)
      · have h := cond_pos c56 h
        refine AWc.seq ?_
        refine AWc.rg hmix rfl rfl ?_
        refine RegV.p0 rfl rfl rfl ?_
        refine RegV.p0 rfl rfl rfl ?_
        obtain ⟨r62, e62, h⟩ := bind_some h
        refine RegV.callS (q := false) (H' := [(0, (.cells [(.d (.sl (List.map byteD a0))), (.d (.int .i64 a1)), (.d (.int .i64 (4 : Int)))]))]) (c' := 1) (show ACalls P (N 85) [(.ptr 0 0), (.d (.int .i64 a1)), (.d (.int .i64 (4 : Int)))] [(0, (.cells [(.d (.sl (List.map byteD a0))), (.d (.int .i64 r31.2.1)), (.d (.int .i64 r31.2.2))]))] (.tup []) [(0, (.cells [(.d (.sl (List.map byteD a0))), (.d (.int .i64 a1)), (.d (.int .i64 (4 : Int)))]))] from ACalls.use (F85 hmix hc.2.2.2.1 e62) [(0, 0)] 1 rfl) rfl rfl rfl rfl (.cons (.refl _) (.cons (.refl _) (.cons (.refl _) .nil))) (.refl _) (fun h => by cases h) rfl (hasCons rfl hasNil) rfl rfl rfl rfl ?_
        refine RegV.nil0 ?_
        refine AWc.seq ?_
        refine AWc.rg hmix rfl rfl ?_
        refine RegV.p0 rfl rfl rfl ?_
        refine RegV.nil0 ?_
        have hr := Option.some.inj h
        subst hr
        exact AWc.ret (canQ (N := 53) (k := 2) (l' := [(4, (.row 1 1 (0)))]) (H' := [(1, (rowO byteD ([] : List UInt8))), (0, (.cells [(.d (.sl (List.map byteD a0))), (.d (.int .i64 a1)), (.d (.int .i64 (4 : Int)))]))]) rfl ⟨rfl, [.rowP []], [(1, 1)], rfl, rfl, ⟨⟨_, rfl, .nilRow⟩, rfl, trivial⟩, ⟨⟨_, rfl, (.refl _)⟩, rfl, rfl, ⟨⟨_, rfl, (.refl _)⟩, rfl, rfl, trivial⟩⟩⟩ (doneA (.inr rfl) rfl ⟨trivial, trivial⟩ (.refl _) (hasCons rfl (hasCons rfl hasNil))))
      · have h := cond_neg c56 h
        refine AWc.seq ?_
        refine AWc.rg hmix rfl rfl ?_
        refine RegV.p0 rfl rfl rfl ?_
        refine RegV.p0 rfl rfl rfl ?_
        refine RegV.p0 (v := (.d (.int .i64 (max a3 (0 : Int))))) rfl rfl rfl ?_
        refine RegV.p0 (v := (.d (.bool (decide (r31.1 > (max a3 (0 : Int))))))) rfl rfl rfl ?_
        refine RegV.p0 rfl rfl rfl ?_
        refine RegV.nil0 ?_
        refine AWc.cond rfl (fun c76 => ?_) (fun c76 => ?_)
        · have h := cond_pos c76 h
          refine AWc.seq ?_
          refine AWc.rg hmix rfl rfl ?_
          refine RegV.p0 rfl rfl rfl ?_
          refine RegV.p0 rfl rfl rfl ?_
          obtain ⟨r82, e82, h⟩ := bind_some h
          refine RegV.callS (q := false) (H' := [(0, (.cells [(.d (.sl (List.map byteD a0))), (.d (.int .i64 a1)), (.d (.int .i64 (5 : Int)))]))]) (c' := 1) (show ACalls P (N 85) [(.ptr 0 0), (.d (.int .i64 a1)), (.d (.int .i64 (5 : Int)))] [(0, (.cells [(.d (.sl (List.map byteD a0))), (.d (.int .i64 r31.2.1)), (.d (.int .i64 r31.2.2))]))] (.tup []) [(0, (.cells [(.d (.sl (List.map byteD a0))), (.d (.int .i64 a1)), (.d (.int .i64 (5 : Int)))]))] from ACalls.use (F85 hmix hc.2.2.2.1 e82) [(0, 0)] 1 rfl) rfl rfl rfl rfl (.cons (.refl _) (.cons (.refl _) (.cons (.refl _) .nil))) (.refl _) (fun h => by cases h) rfl (hasCons rfl hasNil) rfl rfl rfl rfl ?_
          refine RegV.nil0 ?_
          refine AWc.seq ?_
          refine AWc.rg hmix rfl rfl ?_
          refine RegV.p0 rfl rfl rfl ?_
          refine RegV.nil0 ?_
          have hr := Option.some.inj h
          subst hr
          exact AWc.ret (canQ (N := 53) (k := 2) (l' := [(4, (.row 1 1 (0)))]) (H' := [(1, (rowO byteD ([] : List UInt8))), (0, (.cells [(.d (.sl (List.map byteD a0))), (.d (.int .i64 a1)), (.d (.int .i64 (5 : Int)))]))]) rfl ⟨rfl, [.rowP []], [(1, 1)], rfl, rfl, ⟨⟨_, rfl, .nilRow⟩, rfl, trivial⟩, ⟨⟨_, rfl, (.refl _)⟩, rfl, rfl, ⟨⟨_, rfl, (.refl _)⟩, rfl, rfl, trivial⟩⟩⟩ (doneA (.inr rfl) rfl ⟨trivial, trivial⟩ (.refl _) (hasCons rfl (hasCons rfl hasNil))))
        · have h := cond_neg c76 h
          refine AWc.skip ?_
          refine AWc.seq ?_
          refine AWc.rg hmix rfl rfl ?_
          refine RegV.p0 rfl rfl rfl ?_
          refine RegV.p0 rfl rfl rfl ?_
          obtain ⟨r94, e94, h⟩ := bind_some h
          refine RegV.callS (q := false) (H' := [(1, (rowO byteD r94.2.1)), (0, (.cells [(.d (.sl (List.map byteD a0))), (.d (.int .i64 r94.2.2.1)), (.d (.int .i64 r94.2.2.2))]))]) (c' := 2) (show ACalls P (N 41) [(.ptr 0 0), (.d (.int .i64 r31.1))] [(0, (.cells [(.d (.sl (List.map byteD a0))), (.d (.int .i64 r31.2.1)), (.d (.int .i64 r31.2.2))]))] (.row 1 1 r94.1) [(1, (rowO byteD r94.2.1)), (0, (.cells [(.d (.sl (List.map byteD a0))), (.d (.int .i64 r94.2.2.1)), (.d (.int .i64 r94.2.2.2))]))] from ACalls.use (F41 hmix hc.2.2.2.2 e94) [(0, 0), (1, 1)] 2 rfl) rfl rfl rfl rfl (.cons (.refl _) (.cons (.refl _) .nil)) (.refl _) (fun h => by cases h) rfl (hasCons rfl hasNil) rfl rfl rfl rfl ?_
          refine RegV.p0 rfl rfl rfl ?_
          refine RegV.nil0 ?_
          refine AWc.seq ?_
          refine AWc.seq ?_
          refine AWc.rg hmix rfl rfl ?_
          refine RegV.p0 rfl rfl rfl ?_
          refine RegV.p0 rfl rfl rfl ?_
          refine RegV.p0 (v := (.ptr 0 2)) rfl rfl rfl ?_
          refine RegV.ld (v := (.d (.int .i64 r94.2.2.2))) (H' := [(0, (.cells [(.d (.sl (List.map byteD a0))), (.d (.int .i64 r94.2.2.1)), (.d (.int .i64 r94.2.2.2))])), (1, (rowO byteD r94.2.1))]) rfl rfl trivial rfl rfl rfl rfl rfl ?_
          refine RegV.p0 (v := (.d (.bool (decide (r94.2.2.2 ≠ (0 : Int)))))) rfl rfl rfl ?_
          refine RegV.nil0 ?_
          refine AWc.cond rfl (fun c105 => ?_) (fun c105 => ?_)
          · have h := cond_pos c105 h
            refine AWc.rg hmix rfl rfl ?_
            refine RegV.p0 rfl rfl rfl ?_
            refine RegV.p0 rfl rfl rfl ?_
            refine RegV.p0 rfl rfl rfl ?_
            refine RegV.p0 rfl rfl rfl ?_
            refine RegV.p0 (v := (.ptr 0 2)) rfl rfl rfl ?_
            refine RegV.ld (v := (.d (.int .i64 r94.2.2.2))) (H' := [(0, (.cells [(.d (.sl (List.map byteD a0))), (.d (.int .i64 r94.2.2.1)), (.d (.int .i64 r94.2.2.2))])), (1, (rowO byteD r94.2.1))]) rfl rfl trivial rfl rfl rfl rfl rfl ?_
            obtain ⟨r114, e114, h⟩ := bind_some h
            refine RegV.callS (q := false) (H' := [(0, (.cells [(.d (.sl (List.map byteD a0))), (.d (.int .i64 a1)), (.d (.int .i64 r94.2.2.2))])), (1, (rowO byteD r94.2.1))]) (c' := 2) (show ACalls P (N 85) [(.ptr 0 0), (.d (.int .i64 a1)), (.d (.int .i64 r94.2.2.2))] [(0, (.cells [(.d (.sl (List.map byteD a0))), (.d (.int .i64 r94.2.2.1)), (.d (.int .i64 r94.2.2.2))]))] (.tup []) [(0, (.cells [(.d (.sl (List.map byteD a0))), (.d (.int .i64 a1)), (.d (.int .i64 r94.2.2.2))]))] from ACalls.use (F85 hmix hc.2.2.2.1 e114) [(0, 0)] 1 rfl) rfl rfl rfl rfl (.cons (.refl _) (.cons (.refl _) (.cons (.refl _) .nil))) (.refl _) (fun h => by cases h) rfl (hasCons rfl hasNil) rfl rfl rfl rfl ?_
            refine RegV.nil0 ?_
            refine AWc.seq ?_
            refine AWc.rg hmix rfl rfl ?_
            refine RegV.p0 rfl rfl rfl ?_
            refine RegV.p0 rfl rfl rfl ?_
            refine RegV.nil0 ?_
            have hr := Option.some.inj h
            subst hr
            exact AWc.ret (canQ (N := 53) (k := 2) (l' := [(4, (.row 1 1 r94.1))]) (H' := [(1, (rowO byteD r94.2.1)), (0, (.cells [(.d (.sl (List.map byteD a0))), (.d (.int .i64 a1)), (.d (.int .i64 r94.2.2.2))]))]) rfl ⟨rfl, [], [], rfl, rfl, ⟨⟨_, rfl, (.refl _)⟩, rfl, trivial⟩, ⟨⟨_, rfl, (.refl _)⟩, rfl, rfl, ⟨⟨_, rfl, (.refl _)⟩, rfl, rfl, trivial⟩⟩⟩ (doneA (.inr rfl) rfl ⟨trivial, trivial⟩ (.refl _) (hasCons rfl (hasCons rfl hasNil))))
          · have h := cond_neg c105 h
            refine AWc.skip ?_
            refine AWc.seq ?_
            refine AWc.rg hmix rfl rfl ?_
            refine RegV.p0 rfl rfl rfl ?_
            refine RegV.p0 rfl rfl rfl ?_
            refine RegV.nil0 ?_
            have hr := Option.some.inj h
            subst hr
            exact AWc.ret (canQ (N := 53) (k := 2) (l' := [(4, (.row 1 1 r94.1))]) (H' := [(1, (rowO byteD r94.2.1)), (0, (.cells [(.d (.sl (List.map byteD a0))), (.d (.int .i64 r94.2.2.1)), (.d (.int .i64 r94.2.2.2))]))]) rfl ⟨rfl, [], [], rfl, rfl, ⟨⟨_, rfl, (.refl _)⟩, rfl, trivial⟩, ⟨⟨_, rfl, (.refl _)⟩, rfl, rfl, ⟨⟨_, rfl, (.refl _)⟩, rfl, rfl, trivial⟩⟩⟩ (doneA (.inr rfl) rfl ⟨trivial, trivial⟩ (.refl _) (hasCons rfl (hasCons rfl hasNil))))
/-- (*courant/courantref01.Reader).Text -/
def C48 (N : Nat → Nat) : AFunc := { n := 90, params := 2, res := [.tmp 4], body :=
 (.seq (.region false [⟨(some 4), .mv (.k .nils), none, []⟩])
  (.seq (.seq (.region false [⟨(some 10), .mv (.t 0), none, []⟩,
     ⟨(some 11), .nilchk (.t 10), none, [0]⟩,
     ⟨(some 12), .faddr (.t 11) 2, none, [1]⟩,
     ⟨(some 13), .load (.t 12) 1 false, none, [2]⟩,
     ⟨(some 14), .bin .neq (.t 13) (.k (.d (.int .i64 0))), none, [3]⟩])
    (.cond (.t 14) (.seq (.region false [⟨(some 4), .mv (.k .nils), none, []⟩])
      .ret)
     (.skip)))
   (.seq (.region false [⟨(some 16), .mv (.t 0), none, []⟩,
     ⟨(some 17), .call (.k (.d (.fn (N 89)))) [(.t 16)], none, [0]⟩,
     ⟨(some 15), .mv (.t 17), none, [1]⟩,
     ⟨(some 18), .ext (.t 15) 0, none, [2]⟩,
     ⟨(some 19), .ext (.t 15) 1, none, [2]⟩,
     ⟨(some 20), .ext (.t 15) 2, none, [2]⟩,
     ⟨(some 5), .mv (.t 18), none, [3, 1, 0, 2]⟩,
     ⟨(some 6), .mv (.t 19), none, [4, 6, 0, 1, 2, 3]⟩,
     ⟨(some 7), .mv (.t 20), none, [5, 7, 0, 1, 2, 3, 4, 6]⟩])
    (.seq (.region false [⟨(some 21), .mv (.t 5), none, []⟩,
      ⟨(some 22), .call (.k (.d (.fn (N 90)))) [(.t 21)], none, [0]⟩,
      ⟨(some 8), .mv (.t 22), none, [1, 0]⟩])
     (.seq (.block 0 (.seq (.region false [⟨(some 24), .mv (.t 7), none, []⟩,
         ⟨(some 25), .bin .neq (.t 24) (.k (.d (.int .i64 0))), none, [0]⟩,
         ⟨(some 23), .mv (.t 25), none, [1]⟩])
        (.cond (.t 23) (.region false [⟨(some 26), .mv (.t 0), none, []⟩,
          ⟨(some 27), .mv (.t 7), none, []⟩,
          ⟨(some 28), .nilchk (.t 26), none, [0, 1]⟩,
          ⟨(some 29), .faddr (.t 28) 2, none, [2, 0, 1]⟩,
          ⟨none, .store (.t 29) (.t 27) 1, none, [3, 1, 0]⟩])
         (.seq (.region false [⟨(some 31), .mv (.t 8), none, []⟩,
           ⟨(some 32), .bin .lss (.t 31) (.k (.d (.int .i64 0))), none, [0]⟩,
           ⟨(some 30), .mv (.t 32), none, [1]⟩])
          (.cond (.t 30) (.region false [⟨(some 33), .mv (.t 0), none, []⟩,
            ⟨(some 34), .nilchk (.t 33), none, [0]⟩,
            ⟨(some 35), .faddr (.t 34) 2, none, [1, 0]⟩,
            ⟨none, .store (.t 35) (.k (.d (.int .i64 4))) 1, none, [2, 0]⟩])
           (.seq (.region false [⟨(some 37), .mv (.t 8), none, []⟩,
             ⟨(some 38), .mv (.t 1), none, []⟩,
             ⟨(some 39), .mm true [(.t 38), (.k (.d (.int .i64 0)))], none, [1]⟩,
             ⟨(some 40), .bin .gtr (.t 37) (.t 39), none, [0, 2]⟩,
             ⟨(some 36), .mv (.t 40), none, [3]⟩])
            (.cond (.t 36) (.region false [⟨(some 41), .mv (.t 0), none, []⟩,
              ⟨(some 42), .nilchk (.t 41), none, [0]⟩,
              ⟨(some 43), .faddr (.t 42) 2, none, [1, 0]⟩,
              ⟨none, .store (.t 43) (.k (.d (.int .i64 5))) 1, none, [2, 0]⟩])
             (.seq (.region true [⟨(some 45), .mv (.t 8), none, []⟩,
               ⟨(some 46), .mv (.t 0), none, []⟩,
               ⟨(some 47), .nilchk (.t 46), none, [1]⟩,
               ⟨(some 48), .faddr (.t 47) 0, none, [2]⟩,
               ⟨(some 49), .load (.t 48) 1 false, none, [3]⟩,
               ⟨(some 50), .len (.t 49), none, [4]⟩,
               ⟨(some 51), .mv (.t 0), none, []⟩,
               ⟨(some 52), .nilchk (.t 51), none, [6]⟩,
               ⟨(some 53), .faddr (.t 52) 1, none, [7]⟩,
               ⟨(some 54), .load (.t 53) 1 false, none, [8]⟩,
               ⟨(some 55), .bin .sub (.t 50) (.t 54), none, [5, 9]⟩,
               ⟨(some 56), .mv (.t 6), none, []⟩,
               ⟨(some 57), .bin .sub (.t 55) (.t 56), none, [10, 11]⟩,
               ⟨(some 58), .bin .gtr (.t 45) (.t 57), none, [0, 12]⟩,
               ⟨(some 44), .mv (.t 58), none, [13]⟩])
              (.cond (.t 44) (.region false [⟨(some 59), .mv (.t 0), none, []⟩,
                ⟨(some 60), .nilchk (.t 59), none, [0]⟩,
                ⟨(some 61), .faddr (.t 60) 2, none, [1, 0]⟩,
                ⟨none, .store (.t 61) (.k (.d (.int .i64 3))) 1, none, [2, 0]⟩])
               (.skip))))))))))
      (.seq (.seq (.region false [⟨(some 62), .mv (.t 0), none, []⟩,
         ⟨(some 63), .nilchk (.t 62), none, [0]⟩,
         ⟨(some 64), .faddr (.t 63) 2, none, [1]⟩,
         ⟨(some 65), .load (.t 64) 1 false, none, [2]⟩,
         ⟨(some 66), .bin .neq (.t 65) (.k (.d (.int .i64 0))), none, [3]⟩])
        (.cond (.t 66) (.seq (.region false [⟨(some 4), .mv (.k .nils), none, []⟩])
          .ret)
         (.skip)))
       (.seq (.region false [⟨(some 67), .mv (.t 0), none, []⟩,
         ⟨(some 68), .nilchk (.t 67), none, [0]⟩,
         ⟨(some 69), .faddr (.t 68) 1, none, [1]⟩,
         ⟨(some 70), .load (.t 69) 1 false, none, [2]⟩,
         ⟨(some 71), .mv (.t 6), none, []⟩,
         ⟨(some 72), .bin .add (.t 70) (.t 71), none, [3, 4]⟩,
         ⟨(some 9), .mv (.t 72), none, [5, 0, 1, 2, 3, 4]⟩])
        (.seq (.region false [⟨(some 73), .mv (.t 0), none, []⟩,
          ⟨(some 74), .mv (.t 9), none, []⟩,
          ⟨(some 75), .mv (.t 8), none, []⟩,
          ⟨(some 76), .bin .add (.t 74) (.t 75), none, [1, 2]⟩,
          ⟨(some 77), .nilchk (.t 73), none, [0, 1, 2, 3]⟩,
          ⟨(some 78), .faddr (.t 77) 1, none, [4, 0, 1, 2, 3]⟩,
          ⟨none, .store (.t 78) (.t 76) 1, none, [5, 3, 0, 1, 2]⟩])
         (.seq (.region true [⟨(some 79), .mv (.t 0), none, []⟩,
           ⟨(some 80), .nilchk (.t 79), none, [0]⟩,
           ⟨(some 81), .faddr (.t 80) 0, none, [1]⟩,
           ⟨(some 82), .load (.t 81) 1 false, none, [2]⟩,
           ⟨(some 83), .mv (.t 9), none, []⟩,
           ⟨(some 84), .mv (.t 0), none, []⟩,
           ⟨(some 85), .nilchk (.t 84), none, [5]⟩,
           ⟨(some 86), .faddr (.t 85) 1, none, [6]⟩,
           ⟨(some 87), .load (.t 86) 1 false, none, [7]⟩,
           ⟨(some 88), .slc (.t 82) (some (.t 83)) (some (.t 87)) none 1, none, [3, 4, 8]⟩,
           ⟨(some 89), .app (.k .nils) (.t 88) 1 1 [(.int .u8 0)], none, [9]⟩,
           ⟨(some 4), .mv (.t 89), none, [10, 0, 1, 2, 3, 4, 5, 6, 7, 8, 9]⟩])
          .ret))))))))) }
def HC48 (P : Program) (N : Nat → Nat) : Prop := HasF P (N 48) (C48 N) ∧ HC89 P N ∧ HC90 P N
def f48_j109 (k : Nat) (a1 : Int) (r25 : (Int × Int × Int)) (r37 : Int) (a0 : (List UInt8)) (j109_1 : Int) : Option ((List UInt8) × Int × Int) := cond (decide (j109_1 ≠ (0 : Int))) (some (([] : List UInt8), a1, j109_1)) (gd (0 ≤ (IntKind.i64.wrap (a1 + r25.2.1)) ∧ (IntKind.i64.wrap (a1 + r25.2.1)) ≤ (IntKind.i64.wrap ((IntKind.i64.wrap (a1 + r25.2.1)) + r37)) ∧ (IntKind.i64.wrap ((IntKind.i64.wrap (a1 + r25.2.1)) + r37)) ≤ ((a0.length : Nat) : Int)) (gd ((sl a0 (IntKind.i64.wrap (a1 + r25.2.1)) (IntKind.i64.wrap ((IntKind.i64.wrap (a1 + r25.2.1)) + r37))).length * 1 ≤ 281474976710656) (some ((sl a0 (IntKind.i64.wrap (a1 + r25.2.1)) (IntKind.i64.wrap ((IntKind.i64.wrap (a1 + r25.2.1)) + r37))), (IntKind.i64.wrap ((IntKind.i64.wrap (a1 + r25.2.1)) + r37)), j109_1))))
def f48 (k : Nat) (a0 : (List UInt8)) (a1 : Int) (a2 : Int) (a3 : Int) : Option ((List UInt8) × Int × Int) := cond (decide (a2 ≠ (0 : Int))) (some (([] : List UInt8), a1, a2)) ((f89 k a0 a1 a2).bind fun r25 => (f90 k r25.1).bind fun r37 => cond (decide (r25.2.2 ≠ (0 : Int))) (f48_j109 k a1 r25 r37 a0 r25.2.2) (cond (decide (r37 < (0 : Int))) (f48_j109 k a1 r25 r37 a0 (4 : Int)) (cond (decide (r37 > (max a3 (0 : Int)))) (f48_j109 k a1 r25 r37 a0 (5 : Int)) (cond (decide (r37 > (IntKind.i64.wrap ((IntKind.i64.wrap (((a0.length : Nat) : Int) - a1)) - r25.2.1)))) (f48_j109 k a1 r25 r37 a0 (3 : Int)) (f48_j109 k a1 r25 r37 a0 a2)))))
theorem F48 {P : Program} {N : Nat → Nat} (hmix : P.follows .mixedOrders = true) (hc : HC48 P N) {k : Nat} {a0 : (List UInt8)} {a1 : Int} {a2 : Int} {a3 : Int} {r : ((List UInt8) × Int × Int)} (h : f48 k a0 a1 a2 a3 = some r) :
    ACalls P (N 48) [(.ptr 0 0), (.d (.int .i64 a3))] [(0, (.cells [(.d (.sl (List.map byteD a0))), (.d (.int .i64 a1)), (.d (.int .i64 a2))]))] (.ap 1 1 (List.map byteD r.1)) [(1, (.tok ((List.map byteD r.1).length * 1))), (0, (.cells [(.d (.sl (List.map byteD a0))), (.d (.int .i64 r.2.1)), (.d (.int .i64 r.2.2))]))] := by
  refine acalls_canon (F := C48 N) hc.1 1 2 rfl ?_
  unfold f48 at h
  dsimp only [C48, startL]
  refine AWc.seq ?_
  refine AWc.rg hmix rfl rfl ?_
  refine RegV.p0 rfl rfl rfl ?_
  refine RegV.nil0 ?_
  refine AWc.seq ?_
  refine AWc.seq ?_
  refine AWc.rg hmix rfl rfl ?_
  refine RegV.p0 rfl rfl rfl ?_
  refine RegV.p0 rfl rfl rfl ?_
  refine RegV.p0 (v := (.ptr 0 2)) rfl rfl rfl ?_
  refine RegV.ld (v := (.d (.int .i64 a2))) (H' := [(0, (.cells [(.d (.sl (List.map byteD a0))), (.d (.int .i64 a1)), (.d (.int .i64 a2))]))]) rfl rfl trivial rfl rfl rfl rfl rfl ?_
  refine RegV.p0 (v := (.d (.bool (decide (a2 ≠ (0 : Int)))))) rfl rfl rfl ?_
  refine RegV.nil0 ?_
  refine AWc.cond rfl (fun c14 => ?_) (fun c14 => ?_)
  · have h := cond_pos c14 h
    refine AWc.seq ?_
    refine AWc.rg hmix rfl rfl ?_
    refine RegV.p0 rfl rfl rfl ?_
    refine RegV.nil0 ?_
    have hr := Option.some.inj h
    subst hr
    exact AWc.ret (canQ (N := 90) (k := 2) (l' := [(4, (.ap 1 1 (List.map byteD ([] : List UInt8))))]) (H' := [(1, (.tok ((List.map byteD ([] : List UInt8)).length * 1))), (0, (.cells [(.d (.sl (List.map byteD a0))), (.d (.int .i64 a1)), (.d (.int .i64 a2))]))]) rfl ⟨rfl, [.tok 0], [(1, 1)], rfl, rfl, ⟨⟨_, rfl, .nil⟩, rfl, trivial⟩, ⟨⟨_, rfl, (.refl _)⟩, rfl, rfl, ⟨⟨_, rfl, (.refl _)⟩, rfl, rfl, trivial⟩⟩⟩ (doneA (.inr rfl) rfl ⟨trivial, trivial⟩ (.refl _) (hasCons rfl (hasCons rfl hasNil))))
  · have h := cond_neg c14 h
    refine AWc.skip ?_
    refine AWc.seq ?_
    refine AWc.rg hmix rfl rfl ?_
    refine RegV.p0 rfl rfl rfl ?_
    obtain ⟨r25, e25, h⟩ := bind_some h
    refine RegV.callS (q := true) (H' := [(0, (.cells [(.d (.sl (List.map byteD a0))), (.d (.int .i64 a1)), (.d (.int .i64 a2))]))]) (c' := 1) (show ACalls P (N 89) [(.ptr 0 0)] [(0, (.cells [(.d (.sl (List.map byteD a0))), (.d (.int .i64 a1)), (.d (.int .i64 a2))]))] (.tup [(.d (.int .u64 r25.1)), (.d (.int .i64 r25.2.1)), (.d (.int .i64 r25.2.2))]) [(0, (.cells [(.d (.sl (List.map byteD a0))), (.d (.int .i64 a1)), (.d (.int .i64 a2))]))] from ACalls.use (F89 hmix hc.2.1 e25) [(0, 0)] 1 rfl) rfl rfl rfl rfl (.cons (.refl _) .nil) (.refl _) (fun _ => rfl) rfl (hasCons rfl hasNil) rfl rfl rfl rfl ?_
    refine RegV.p0 rfl rfl rfl ?_
    refine RegV.p0 rfl rfl rfl ?_
    refine RegV.p0 rfl rfl rfl ?_
    refine RegV.p0 rfl rfl rfl ?_
    refine RegV.p0 rfl rfl rfl ?_
    refine RegV.p0 rfl rfl rfl ?_
    refine RegV.p0 rfl rfl rfl ?_
    refine RegV.nil0 ?_
    refine AWc.seq ?_
    refine AWc.rg hmix rfl rfl ?_
    refine RegV.p0 rfl rfl rfl ?_
    obtain ⟨r37, e37, h⟩ := bind_some h
    refine RegV.call0 (F90 hmix hc.2.2 e37) rfl rfl rfl rfl (.cons (.refl _) .nil) rfl ?_
    refine RegV.p0 rfl rfl rfl ?_
    refine RegV.nil0 ?_
    refine AWc.seqS (N := 90) 1 (fun (z : Int) => [(0, (.ptr 0 0)), (6, (.d (.int .i64 r25.2.1))), (8, (.d (.int .i64 r37)))]) (fun z => [(0, (.cells [(.d (.sl (List.map byteD a0))), (.d (.int .i64 a1)), (.d (.int .i64 z))]))]) (fun z => f48_j109 k a1 r25 r37 a0 z = some r) rfl_le ?_ ?_
    · refine AWc.block ?_
      refine AWc.seq ?_
      refine AWc.rg hmix rfl rfl ?_
      refine RegV.p0 rfl rfl rfl ?_
      refine RegV.p0 (v := (.d (.bool (decide (r25.2.2 ≠ (0 : Int)))))) rfl rfl rfl ?_
      refine RegV.p0 rfl rfl rfl ?_
      refine RegV.nil0 ?_
      refine AWc.cond rfl (fun c47 => ?_) (fun c47 => ?_)
      · have h := cond_pos c47 h
        refine AWc.rg hmix rfl rfl ?_
        refine RegV.p0 rfl rfl rfl ?_
        refine RegV.p0 rfl rfl rfl ?_
        refine RegV.p0 rfl rfl rfl ?_
        refine RegV.p0 (v := (.ptr 0 2)) rfl rfl rfl ?_
        refine RegV.evN (own := false) (H' := [(0, (.cells [(.d (.sl (List.map byteD a0))), (.d (.int .i64 a1)), (.d (.int .i64 r25.2.2))]))]) (c' := 1) rfl rfl (by exact ⟨rfl, Nat.le_of_ble_eq_true rfl, rfl⟩) rfl rfl rfl rfl ?_
        refine RegV.nil0 ?_
        exact ⟨r25.2.2, h, ⟨rfl, [], [], rfl, rfl, ⟨⟨_, rfl, (.refl _)⟩, rfl, ⟨⟨_, rfl, (.refl _)⟩, rfl, ⟨⟨_, rfl, (.refl _)⟩, rfl, trivial⟩⟩⟩, ⟨⟨_, rfl, (.refl _)⟩, rfl, rfl, trivial⟩⟩⟩
      · have h := cond_neg c47 h
        refine AWc.seq ?_
        refine AWc.rg hmix rfl rfl ?_
        refine RegV.p0 rfl rfl rfl ?_
        refine RegV.p0 (v := (.d (.bool (decide (r37 < (0 : Int)))))) rfl rfl rfl ?_
        refine RegV.p0 rfl rfl rfl ?_
        refine RegV.nil0 ?_
        refine AWc.cond rfl (fun c61 => ?_) (fun c61 => ?_)
        · have h := cond_pos c61 h
          refine AWc.rg hmix rfl rfl ?_
          refine RegV.p0 rfl rfl rfl ?_
          refine RegV.p0 rfl rfl rfl ?_
          refine RegV.p0 (v := (.ptr 0 2)) rfl rfl rfl ?_
          refine RegV.evN (own := false) (H' := [(0, (.cells [(.d (.sl (List.map byteD a0))), (.d (.int .i64 a1)), (.d (.int .i64 (4 : Int)))]))]) (c' := 1) rfl rfl (by exact ⟨rfl, Nat.le_of_ble_eq_true rfl, rfl⟩) rfl rfl rfl rfl ?_
          refine RegV.nil0 ?_
          exact ⟨(4 : Int), h, ⟨rfl, [], [], rfl, rfl, ⟨⟨_, rfl, (.refl _)⟩, rfl, ⟨⟨_, rfl, (.refl _)⟩, rfl, ⟨⟨_, rfl, (.refl _)⟩, rfl, trivial⟩⟩⟩, ⟨⟨_, rfl, (.refl _)⟩, rfl, rfl, trivial⟩⟩⟩
        · have h := cond_neg c61 h
          refine AWc.seq ?_
          refine AWc.rg hmix rfl rfl ?_
          refine RegV.p0 rfl rfl rfl ?_
          refine RegV.p0 rfl rfl rfl ?_
          refine RegV.p0 (v := (.d (.int .i64 (max a3 (0 : Int))))) rfl rfl rfl ?_
          refine RegV.p0 (v := (.d (.bool (decide (r37 > (max a3 (0 : Int))))))) rfl rfl rfl ?_
          refine RegV.p0 rfl rfl rfl ?_
          refine RegV.nil0 ?_
          refine AWc.cond rfl (fun c76 => ?_) (fun c76 => ?_)
          · have h := cond_pos c76 h
            refine AWc.rg hmix rfl rfl ?_
            refine RegV.p0 rfl rfl rfl ?_
            refine RegV.p0 rfl rfl rfl ?_
            refine RegV.p0 (v := (.ptr 0 2)) rfl rfl rfl ?_
            refine RegV.evN (own := false) (H' := [(0, (.cells [(.d (.sl (List.map byteD a0))), (.d (.int .i64 a1)), (.d (.int .i64 (5 : Int)))]))]) (c' := 1) rfl rfl (by exact ⟨rfl, Nat.le_of_ble_eq_true rfl, rfl⟩) rfl rfl rfl rfl ?_
            refine RegV.nil0 ?_
            exact ⟨(5 : Int), h, ⟨rfl, [], [], rfl, rfl, ⟨⟨_, rfl, (.refl _)⟩, rfl, ⟨⟨_, rfl, (.refl _)⟩, rfl, ⟨⟨_, rfl, (.refl _)⟩, rfl, trivial⟩⟩⟩, ⟨⟨_, rfl, (.refl _)⟩, rfl, rfl, trivial⟩⟩⟩
          · have h := cond_neg c76 h
            refine AWc.seq ?_
            refine AWc.rg hmix rfl rfl ?_
            refine RegV.p0 rfl rfl rfl ?_
            refine RegV.p0 rfl rfl rfl ?_
            refine RegV.p0 rfl rfl rfl ?_
            refine RegV.p0 (v := (.ptr 0 0)) rfl rfl rfl ?_
            refine RegV.ld (v := (.d (.sl (List.map byteD a0)))) (H' := [(0, (.cells [(.d (.sl (List.map byteD a0))), (.d (.int .i64 a1)), (.d (.int .i64 a2))]))]) rfl rfl trivial rfl rfl rfl rfl rfl ?_
            refine RegV.len (xs := a0) (e := byteD) rfl rfl rfl rfl ?_
            refine RegV.p0 rfl rfl rfl ?_
            refine RegV.p0 rfl rfl rfl ?_
            refine RegV.p0 (v := (.ptr 0 1)) rfl rfl rfl ?_
            refine RegV.ld (v := (.d (.int .i64 a1))) (H' := [(0, (.cells [(.d (.sl (List.map byteD a0))), (.d (.int .i64 a1)), (.d (.int .i64 a2))]))]) rfl rfl trivial rfl rfl rfl rfl rfl ?_
            refine RegV.p0 (v := (.d (.int .i64 (IntKind.i64.wrap (((a0.length : Nat) : Int) - a1))))) rfl rfl rfl ?_
            refine RegV.p0 rfl rfl rfl ?_
            refine RegV.p0 (v := (.d (.int .i64 (IntKind.i64.wrap ((IntKind.i64.wrap (((a0.length : Nat) : Int) - a1)) - r25.2.1))))) rfl rfl rfl ?_
            refine RegV.p0 (v := (.d (.bool (decide (r37 > (IntKind.i64.wrap ((IntKind.i64.wrap (((a0.length : Nat) : Int) - a1)) - r25.2.1))))))) rfl rfl rfl ?_
            refine RegV.p0 rfl rfl rfl ?_
            refine RegV.nil1 (by kernel_rfl) ?_
            refine AWc.cond rfl (fun c101 => ?_) (fun c101 => ?_)
            · have h := cond_pos c101 h
              refine AWc.rg hmix rfl rfl ?_
              refine RegV.p0 rfl rfl rfl ?_
              refine RegV.p0 rfl rfl rfl ?_
              refine RegV.p0 (v := (.ptr 0 2)) rfl rfl rfl ?_
              refine RegV.evN (own := false) (H' := [(0, (.cells [(.d (.sl (List.map byteD a0))), (.d (.int .i64 a1)), (.d (.int .i64 (3 : Int)))]))]) (c' := 1) rfl rfl (by exact ⟨rfl, Nat.le_of_ble_eq_true rfl, rfl⟩) rfl rfl rfl rfl ?_
              refine RegV.nil0 ?_
              exact ⟨(3 : Int), h, ⟨rfl, [], [], rfl, rfl, ⟨⟨_, rfl, (.refl _)⟩, rfl, ⟨⟨_, rfl, (.refl _)⟩, rfl, ⟨⟨_, rfl, (.refl _)⟩, rfl, trivial⟩⟩⟩, ⟨⟨_, rfl, (.refl _)⟩, rfl, rfl, trivial⟩⟩⟩
            · have h := cond_neg c101 h
              refine AWc.skip ?_
              exact ⟨a2, h, ⟨rfl, [], [], rfl, rfl, ⟨⟨_, rfl, (.refl _)⟩, rfl, ⟨⟨_, rfl, (.refl _)⟩, rfl, ⟨⟨_, rfl, (.refl _)⟩, rfl, trivial⟩⟩⟩, ⟨⟨_, rfl, (.refl _)⟩, rfl, rfl, trivial⟩⟩⟩
    · intro j109_1 h
      unfold f48_j109 at h
      refine AWc.seq ?_
      refine AWc.seq ?_
      refine AWc.rg hmix rfl rfl ?_
      refine RegV.p0 rfl rfl rfl ?_
      refine RegV.p0 rfl rfl rfl ?_
      refine RegV.p0 (v := (.ptr 0 2)) rfl rfl rfl ?_
      refine RegV.ld (v := (.d (.int .i64 j109_1))) (H' := [(0, (.cells [(.d (.sl (List.map byteD a0))), (.d (.int .i64 a1)), (.d (.int .i64 j109_1))]))]) rfl rfl trivial rfl rfl rfl rfl rfl ?_
      refine RegV.p0 (v := (.d (.bool (decide (j109_1 ≠ (0 : Int)))))) rfl rfl rfl ?_
      refine RegV.nil0 ?_
      refine AWc.cond rfl (fun c118 => ?_) (fun c118 => ?_)
      · have h := cond_pos c118 h
        refine AWc.seq ?_
        refine AWc.rg hmix rfl rfl ?_
        refine RegV.p0 rfl rfl rfl ?_
        refine RegV.nil0 ?_
        have hr := Option.some.inj h
        subst hr
        exact AWc.ret (canQ (N := 90) (k := 2) (l' := [(4, (.ap 1 1 (List.map byteD ([] : List UInt8))))]) (H' := [(1, (.tok ((List.map byteD ([] : List UInt8)).length * 1))), (0, (.cells [(.d (.sl (List.map byteD a0))), (.d (.int .i64 a1)), (.d (.int .i64 j109_1))]))]) rfl ⟨rfl, [.tok 0], [(1, 1)], rfl, rfl, ⟨⟨_, rfl, .nil⟩, rfl, trivial⟩, ⟨⟨_, rfl, (.refl _)⟩, rfl, rfl, ⟨⟨_, rfl, (.refl _)⟩, rfl, rfl, trivial⟩⟩⟩ (doneA (.inr rfl) rfl ⟨trivial, trivial⟩ (.refl _) (hasCons rfl (hasCons rfl hasNil))))
      · have h := cond_neg c118 h
        refine AWc.skip ?_
        refine AWc.seq ?_
        refine AWc.rg hmix rfl rfl ?_
        refine RegV.p0 rfl rfl rfl ?_
        refine RegV.p0 rfl rfl rfl ?_
        refine RegV.p0 (v := (.ptr 0 1)) rfl rfl rfl ?_
        refine RegV.ld (v := (.d (.int .i64 a1))) (H' := [(0, (.cells [(.d (.sl (List.map byteD a0))), (.d (.int .i64 a1)), (.d (.int .i64 j109_1))]))]) rfl rfl trivial rfl rfl rfl rfl rfl ?_
        refine RegV.p0 rfl rfl rfl ?_
        refine RegV.p0 (v := (.d (.int .i64 (IntKind.i64.wrap (a1 + r25.2.1))))) rfl rfl rfl ?_
        refine RegV.p0 rfl rfl rfl ?_
        refine RegV.nil0 ?_
        refine AWc.seq ?_
        refine AWc.rg hmix rfl rfl ?_
        refine RegV.p0 rfl rfl rfl ?_
        refine RegV.p0 rfl rfl rfl ?_
        refine RegV.p0 rfl rfl rfl ?_
        refine RegV.p0 (v := (.d (.int .i64 (IntKind.i64.wrap ((IntKind.i64.wrap (a1 + r25.2.1)) + r37))))) rfl rfl rfl ?_
        refine RegV.p0 rfl rfl rfl ?_
        refine RegV.p0 (v := (.ptr 0 1)) rfl rfl rfl ?_
        refine RegV.evN (own := false) (H' := [(0, (.cells [(.d (.sl (List.map byteD a0))), (.d (.int .i64 (IntKind.i64.wrap ((IntKind.i64.wrap (a1 + r25.2.1)) + r37)))), (.d (.int .i64 j109_1))]))]) (c' := 1) rfl rfl (by exact ⟨rfl, Nat.le_of_ble_eq_true rfl, rfl⟩) rfl rfl rfl rfl ?_
        refine RegV.nil0 ?_
        refine AWc.seq ?_
        refine AWc.rg hmix rfl rfl ?_
        refine RegV.p0 rfl rfl rfl ?_
        refine RegV.p0 rfl rfl rfl ?_
        refine RegV.p0 (v := (.ptr 0 0)) rfl rfl rfl ?_
        refine RegV.ld (v := (.d (.sl (List.map byteD a0)))) (H' := [(0, (.cells [(.d (.sl (List.map byteD a0))), (.d (.int .i64 (IntKind.i64.wrap ((IntKind.i64.wrap (a1 + r25.2.1)) + r37)))), (.d (.int .i64 j109_1))]))]) rfl rfl trivial rfl rfl rfl rfl rfl ?_
        refine RegV.p0 rfl rfl rfl ?_
        refine RegV.p0 rfl rfl rfl ?_
        refine RegV.p0 rfl rfl rfl ?_
        refine RegV.p0 (v := (.ptr 0 1)) rfl rfl rfl ?_
        refine RegV.ld (v := (.d (.int .i64 (IntKind.i64.wrap ((IntKind.i64.wrap (a1 + r25.2.1)) + r37))))) (H' := [(0, (.cells [(.d (.sl (List.map byteD a0))), (.d (.int .i64 (IntKind.i64.wrap ((IntKind.i64.wrap (a1 + r25.2.1)) + r37)))), (.d (.int .i64 j109_1))]))]) rfl rfl trivial rfl rfl rfl rfl rfl ?_
        obtain ⟨b157, h⟩ := gd_some h
        refine RegV.slc (xs := a0) (e := byteD) (lo := (IntKind.i64.wrap (a1 + r25.2.1))) (hi := (IntKind.i64.wrap ((IntKind.i64.wrap (a1 + r25.2.1)) + r37))) rfl rfl rfl b157 (fun _ => rfl) rfl ?_
        obtain ⟨b158, h⟩ := gd_some h
        refine RegV.appN (ys := (sl a0 (IntKind.i64.wrap (a1 + r25.2.1)) (IntKind.i64.wrap ((IntKind.i64.wrap (a1 + r25.2.1)) + r37)))) (e := byteD) rfl rfl rfl (fun _ => rfl) rfl rfl b158 rfl rfl ?_
        refine RegV.p0 rfl rfl rfl ?_
        refine RegV.nil1 (by kernel_rfl) ?_
        have hr := Option.some.inj h
        subst hr
        exact AWc.ret (canQ (N := 90) (k := 2) (l' := [(4, (.ap 1 1 (List.map byteD (sl a0 (IntKind.i64.wrap (a1 + r25.2.1)) (IntKind.i64.wrap ((IntKind.i64.wrap (a1 + r25.2.1)) + r37))))))]) (H' := [(1, (.tok ((List.map byteD (sl a0 (IntKind.i64.wrap (a1 + r25.2.1)) (IntKind.i64.wrap ((IntKind.i64.wrap (a1 + r25.2.1)) + r37)))).length * 1))), (0, (.cells [(.d (.sl (List.map byteD a0))), (.d (.int .i64 (IntKind.i64.wrap ((IntKind.i64.wrap (a1 + r25.2.1)) + r37)))), (.d (.int .i64 j109_1))]))]) rfl ⟨rfl, [], [], rfl, rfl, ⟨⟨_, rfl, (.refl _)⟩, rfl, trivial⟩, ⟨⟨_, rfl, (.refl _)⟩, rfl, rfl, ⟨⟨_, rfl, (.refl _)⟩, rfl, rfl, trivial⟩⟩⟩ (doneA (.inr rfl) rfl ⟨trivial, trivial⟩ (.refl _) (hasCons rfl (hasCons rfl hasNil))))
/-- courant/couranthelp.Bytes -/
def C22 (N : Nat → Nat) : AFunc := { n := 10, params := 2, res := [.tmp 4], body :=
 (.seq (.region false [⟨(some 4), .mv (.k (.d (.bool false))), none, []⟩])
  (.seq (.region false [⟨(some 5), .mv (.t 0), none, []⟩,
    ⟨(some 6), .bs2s (.t 5), none, [0]⟩,
    ⟨(some 7), .mv (.t 1), none, []⟩,
    ⟨(some 8), .bs2s (.t 7), none, [2]⟩,
    ⟨(some 9), .bin .eql (.t 6) (.t 8), none, [1, 3]⟩,
    ⟨(some 4), .mv (.t 9), none, [4, 0, 1, 2, 3]⟩])
   .ret)) }
def HC22 (P : Program) (N : Nat → Nat) : Prop := HasF P (N 22) (C22 N)
def f22 (k : Nat) (a0 : (List UInt8)) (a1 : (List UInt8)) : Option Unit := some ()
theorem F22 {P : Program} {N : Nat → Nat} (hmix : P.follows .mixedOrders = true) (hc : HC22 P N) {k : Nat} {a0 : (List UInt8)} {a1 : (List UInt8)} {r : Unit} (h : f22 k a0 a1 = some r) :
    ACalls P (N 22) [(.d (.sl (List.map byteD a0))), (.d (.sl (List.map byteD a1)))] [] (.d (.bool (decide (a0 = a1)))) [] := by
  refine acalls_canon (F := C22 N) hc 0 0 rfl ?_
  unfold f22 at h
  dsimp only [C22, startL]
  refine AWc.seq ?_
  refine AWc.rg hmix rfl rfl ?_
  refine RegV.p0 rfl rfl rfl ?_
  refine RegV.nil0 ?_
  refine AWc.seq ?_
  refine AWc.rg hmix rfl rfl ?_
  refine RegV.p0 rfl rfl rfl ?_
  refine RegV.bs2s (b := a0) rfl rfl rfl ?_
  refine RegV.p0 rfl rfl rfl ?_
  refine RegV.bs2s (b := a1) rfl rfl rfl ?_
  refine RegV.p0 (v := (.d (.bool (decide (a0 = a1))))) rfl rfl rfl ?_
  refine RegV.p0 rfl rfl rfl ?_
  refine RegV.nil0 ?_
  have hr := Option.some.inj h
  subst hr
  exact AWc.ret (canQ (N := 10) (k := 0) (l' := [(4, (.d (.bool (decide (a0 = a1)))))]) (H' := []) rfl ⟨rfl, [], [], rfl, rfl, ⟨⟨_, rfl, (.refl _)⟩, rfl, trivial⟩,  trivial⟩ (doneA (.inr rfl) rfl ⟨trivial, trivial⟩ (.refl _) hasNil))
def HC45v2 (P : Program) (N : Nat → Nat) : Prop := HasF P (N 45) (C45 N)
def f45v2_l5 (a1 : Nat) : Nat → Int → (List UInt8) → Option (LR2 (List UInt8) Unit (List UInt8))
  | 0, _, _ => none
  | k + 1, y5_1, y5_2 => cond (decide (y5_1 < ((a1 : Nat) : Int))) (gd (0 ≤ y5_1 ∧ y5_1 < ((a1 : Nat) : Int)) (gd ((y5_1).toNat < y5_2.length) (gd (0 ≤ y5_1 ∧ y5_1 < ((a1 : Nat) : Int)) (gd ((y5_1).toNat < y5_2.length) (f45v2_l5 a1 k (IntKind.i64.wrap (y5_1 + (1 : Int))) (List.set y5_2 (y5_1).toNat (u8 (bitsA .xor .u8 (((List.getD y5_2 (y5_1).toNat default).toNat : Nat) : Int) (85 : Int))))))))) (some (.b0 y5_2))
def f45v2 (k : Nat) (a0 : (List UInt8)) (a1 : Nat) : Option (List UInt8) := (f45v2_l5 a1 k (0 : Int) a0).bind fun o5 => match o5 with | .b0 x5_1 => some x5_1 | _ => none
theorem F45v2 {P : Program} {N : Nat → Nat} (hmix : P.follows .mixedOrders = true) (hc : HC45v2 P N) {k : Nat} {a0 : (List UInt8)} {a1 : Nat} {r : (List UInt8)} (h : f45v2 k a0 a1 = some r) :
    ACalls P (N 45) [(.row 0 1 a1)] [(0, (rowO byteD a0))] (.tup []) [(0, (rowO byteD r))] := by
  refine acalls_canon (F := C45 N) hc 1 1 rfl ?_
  unfold f45v2 at h
  dsimp only [C45, startL]
  refine AWc.seq ?_
  refine AWc.rg hmix rfl rfl ?_
  refine RegV.p0 rfl rfl rfl ?_
  refine RegV.nil0 ?_
  obtain ⟨o5, h5, h⟩ := bind_some h
  refine AWc.block ?_
  refine AWc.loopK (N := 17) 1 (fun (x : (Int × (List UInt8))) => [(0, (.row 0 1 a1)), (2, (.d (.int .i64 x.1)))]) (fun x => [(0, (rowO byteD x.2))]) (fun k x => f45v2_l5 a1 k x.1 x.2 = some o5) k ((0 : Int), a0) rfl_le (fun x hx => by cases hx) h5 ⟨rfl, [], [], rfl, rfl, ⟨⟨_, rfl, (.refl _)⟩, rfl, ⟨⟨_, rfl, (.refl _)⟩, rfl, trivial⟩⟩, ⟨⟨_, rfl, (.refl _)⟩, rfl, rfl, trivial⟩⟩ ?_
  clear h5
  intro k
  rintro ⟨y5_1, y5_2⟩ h5
  dsimp only at h5 ⊢
  rw [f45v2_l5] at h5
  refine AWc.seq ?_
  refine AWc.seq ?_
  refine AWc.rg hmix rfl rfl ?_
  refine RegV.p0 rfl rfl rfl ?_
  refine RegV.p0 rfl rfl rfl ?_
  refine RegV.lenR (len := a1) rfl rfl rfl ?_
  refine RegV.p0 (v := (.d (.bool (decide (y5_1 < ((a1 : Nat) : Int)))))) rfl rfl rfl ?_
  refine RegV.nil0 ?_
  refine AWc.cond rfl (fun c15 => ?_) (fun c15 => ?_)
  · have h5 := cond_pos c15 h5
    refine AWc.skip ?_
    refine AWc.seq ?_
    refine AWc.block ?_
    refine AWc.rg hmix rfl rfl ?_
    refine RegV.p0 rfl rfl rfl ?_
    refine RegV.p0 rfl rfl rfl ?_
    refine RegV.p0 rfl rfl rfl ?_
    refine RegV.p0 rfl rfl rfl ?_
    obtain ⟨b26, h5⟩ := gd_some h5
    refine RegV.iaR (z := 1) rfl rfl (fun _ => rfl) b26 rfl ?_
    obtain ⟨b27, h5⟩ := gd_some h5
    refine RegV.ldR (e := byteD) (xs := y5_2) (i := (y5_1).toNat) (H' := [(0, (rowO byteD y5_2))]) rfl rfl rfl byteD_ok rfl b27 rfl rfl rfl rfl ?_
    refine RegV.p0 (v := (.d (.int .u8 (bitsA .xor .u8 (((List.getD y5_2 (y5_1).toNat default).toNat : Nat) : Int) (85 : Int))))) rfl rfl rfl ?_
    obtain ⟨b29, h5⟩ := gd_some h5
    refine RegV.iaR (z := 1) rfl rfl (fun _ => rfl) b29 rfl ?_
    obtain ⟨b30, h5⟩ := gd_some h5
    refine RegV.stR (e := byteD) (xs := y5_2) (i := (y5_1).toNat) (v := (u8 (bitsA .xor .u8 (((List.getD y5_2 (y5_1).toNat default).toNat : Nat) : Int) (85 : Int)))) (H' := [(0, (rowO byteD (List.set y5_2 (y5_1).toNat (u8 (bitsA .xor .u8 (((List.getD y5_2 (y5_1).toNat default).toNat : Nat) : Int) (85 : Int))))))]) rfl rfl rfl rfl (cellsU8 (u8_bits _ _ _)) byteD_ok rfl b30 rfl rfl rfl ?_
    refine RegV.nil0 ?_
    refine AWc.rg hmix rfl rfl ?_
    refine RegV.p0 rfl rfl rfl ?_
    refine RegV.p0 (v := (.d (.int .i64 (IntKind.i64.wrap (y5_1 + (1 : Int)))))) rfl rfl rfl ?_
    refine RegV.p0 rfl rfl rfl ?_
    refine RegV.nil0 ?_
    exact ⟨((IntKind.i64.wrap (y5_1 + (1 : Int))), (List.set y5_2 (y5_1).toNat (u8 (bitsA .xor .u8 (((List.getD y5_2 (y5_1).toNat default).toNat : Nat) : Int) (85 : Int))))), h5, ⟨rfl, [], [], rfl, rfl, ⟨⟨_, rfl, (.refl _)⟩, rfl, ⟨⟨_, rfl, (.refl _)⟩, rfl, trivial⟩⟩, ⟨⟨_, rfl, (.refl _)⟩, rfl, rfl, trivial⟩⟩⟩
  · have h5 := cond_neg c15 h5
    cases h5
    dsimp only at h
    refine AWc.exit ?_
    refine inBlk_eq ?_
    have hr := Option.some.inj h
    subst hr
    exact canQ (N := 17) (k := 1) (l' := []) (H' := [(0, (rowO byteD y5_2))]) rfl ⟨rfl, [], [], rfl, rfl,  trivial, ⟨⟨_, rfl, (.refl _)⟩, rfl, rfl, trivial⟩⟩ (doneA (.inl rfl) rfl trivial (.refl _) (hasCons rfl hasNil))
/-- (*courant/courantref01.Reader).Raw -/
def C49 (N : Nat → Nat) : AFunc := { n := 52, params := 2, res := [.tmp 4], body :=
 (.seq (.region false [⟨(some 4), .mv (.k .nils), none, []⟩])
  (.seq (.region false [⟨(some 5), .mv (.t 1), none, []⟩,
    ⟨(some 6), .mm true [(.t 5), (.k (.d (.int .i64 0)))], none, [0]⟩,
    ⟨(some 1), .mv (.t 6), none, [1, 0]⟩])
   (.seq (.seq (.region false [⟨(some 7), .mv (.t 0), none, []⟩,
      ⟨(some 8), .nilchk (.t 7), none, [0]⟩,
      ⟨(some 9), .faddr (.t 8) 2, none, [1]⟩,
      ⟨(some 10), .load (.t 9) 1 false, none, [2]⟩,
      ⟨(some 11), .bin .neq (.t 10) (.k (.d (.int .i64 0))), none, [3]⟩])
     (.cond (.t 11) (.seq (.region false [⟨(some 4), .mv (.k .nils), none, []⟩])
       .ret)
      (.skip)))
    (.seq (.seq (.region true [⟨(some 12), .mv (.t 1), none, []⟩,
       ⟨(some 13), .mv (.t 0), none, []⟩,
       ⟨(some 14), .nilchk (.t 13), none, [1]⟩,
       ⟨(some 15), .faddr (.t 14) 0, none, [2]⟩,
       ⟨(some 16), .load (.t 15) 1 false, none, [3]⟩,
       ⟨(some 17), .len (.t 16), none, [4]⟩,
       ⟨(some 18), .mv (.t 0), none, []⟩,
       ⟨(some 19), .nilchk (.t 18), none, [6]⟩,
       ⟨(some 20), .faddr (.t 19) 1, none, [7]⟩,
       ⟨(some 21), .load (.t 20) 1 false, none, [8]⟩,
       ⟨(some 22), .bin .sub (.t 17) (.t 21), none, [5, 9]⟩,
       ⟨(some 23), .bin .gtr (.t 12) (.t 22), none, [0, 10]⟩])
      (.cond (.t 23) (.seq (.region false [⟨(some 24), .mv (.t 0), none, []⟩,
         ⟨(some 25), .nilchk (.t 24), none, [0]⟩,
         ⟨(some 26), .faddr (.t 25) 2, none, [1, 0]⟩,
         ⟨none, .store (.t 26) (.k (.d (.int .i64 3))) 1, none, [2, 0]⟩])
        (.seq (.region false [⟨(some 4), .mv (.k .nils), none, []⟩])
         .ret))
       (.skip)))
     (.seq (.region false [⟨(some 27), .mv (.t 0), none, []⟩,
       ⟨(some 28), .mv (.t 0), none, []⟩,
       ⟨(some 29), .nilchk (.t 28), none, [1]⟩,
       ⟨(some 30), .faddr (.t 29) 1, none, [2]⟩,
       ⟨(some 31), .load (.t 30) 1 false, none, [3]⟩,
       ⟨(some 32), .mv (.t 1), none, []⟩,
       ⟨(some 33), .bin .add (.t 31) (.t 32), none, [4, 5]⟩,
       ⟨(some 34), .nilchk (.t 27), none, [0, 1, 2, 3, 4, 5, 6]⟩,
       ⟨(some 35), .faddr (.t 34) 1, none, [7, 0, 1, 2, 3, 4, 5, 6]⟩,
       ⟨none, .store (.t 35) (.t 33) 1, none, [8, 6, 0, 1, 2, 3, 4, 5]⟩])
      (.seq (.region true [⟨(some 36), .mv (.t 0), none, []⟩,
        ⟨(some 37), .nilchk (.t 36), none, [0]⟩,
        ⟨(some 38), .faddr (.t 37) 0, none, [1]⟩,
        ⟨(some 39), .load (.t 38) 1 false, none, [2]⟩,
        ⟨(some 40), .mv (.t 0), none, []⟩,
        ⟨(some 41), .nilchk (.t 40), none, [4]⟩,
        ⟨(some 42), .faddr (.t 41) 1, none, [5]⟩,
        ⟨(some 43), .load (.t 42) 1 false, none, [6]⟩,
        ⟨(some 44), .mv (.t 1), none, []⟩,
        ⟨(some 45), .bin .sub (.t 43) (.t 44), none, [7, 8]⟩,
        ⟨(some 46), .mv (.t 0), none, []⟩,
        ⟨(some 47), .nilchk (.t 46), none, [10]⟩,
        ⟨(some 48), .faddr (.t 47) 1, none, [11]⟩,
        ⟨(some 49), .load (.t 48) 1 false, none, [12]⟩,
        ⟨(some 50), .slc (.t 39) (some (.t 45)) (some (.t 49)) none 1, none, [3, 9, 13]⟩,
        ⟨(some 51), .app (.k .nils) (.t 50) 1 1 [(.int .u8 0)], none, [14]⟩,
        ⟨(some 4), .mv (.t 51), none, [15, 0, 1, 2, 3, 4, 5, 6, 7, 8, 9, 10, 11, 12, 13, 14]⟩])
       .ret)))))) }
def HC49 (P : Program) (N : Nat → Nat) : Prop := HasF P (N 49) (C49 N)
def f49 (k : Nat) (a0 : (List UInt8)) (a1 : Int) (a2 : Int) (a3 : Int) : Option ((List UInt8) × Int × Int) := cond (decide (a2 ≠ (0 : Int))) (some (([] : List UInt8), a1, a2)) (cond (decide ((max a3 (0 : Int)) > (IntKind.i64.wrap (((a0.length : Nat) : Int) - a1)))) (some (([] : List UInt8), a1, (3 : Int))) (gd (0 ≤ (IntKind.i64.wrap ((IntKind.i64.wrap (a1 + (max a3 (0 : Int)))) - (max a3 (0 : Int)))) ∧ (IntKind.i64.wrap ((IntKind.i64.wrap (a1 + (max a3 (0 : Int)))) - (max a3 (0 : Int)))) ≤ (IntKind.i64.wrap (a1 + (max a3 (0 : Int)))) ∧ (IntKind.i64.wrap (a1 + (max a3 (0 : Int)))) ≤ ((a0.length : Nat) : Int)) (gd ((sl a0 (IntKind.i64.wrap ((IntKind.i64.wrap (a1 + (max a3 (0 : Int)))) - (max a3 (0 : Int)))) (IntKind.i64.wrap (a1 + (max a3 (0 : Int))))).length * 1 ≤ 281474976710656) (some ((sl a0 (IntKind.i64.wrap ((IntKind.i64.wrap (a1 + (max a3 (0 : Int)))) - (max a3 (0 : Int)))) (IntKind.i64.wrap (a1 + (max a3 (0 : Int))))), (IntKind.i64.wrap (a1 + (max a3 (0 : Int)))), a2)))))
theorem F49 {P : Program} {N : Nat → Nat} (hmix : P.follows .mixedOrders = true) (hc : HC49 P N) {k : Nat} {a0 : (List UInt8)} {a1 : Int} {a2 : Int} {a3 : Int} {r : ((List UInt8) × Int × Int)} (h : f49 k a0 a1 a2 a3 = some r) :
    ACalls P (N 49) [(.ptr 0 0), (.d (.int .i64 a3))] [(0, (.cells [(.d (.sl (List.map byteD a0))), (.d (.int .i64 a1)), (.d (.int .i64 a2))]))] (.ap 1 1 (List.map byteD r.1)) [(1, (.tok ((List.map byteD r.1).length * 1))), (0, (.cells [(.d (.sl (List.map byteD a0))), (.d (.int .i64 r.2.1)), (.d (.int .i64 r.2.2))]))] := by
  refine acalls_canon (F := C49 N) hc 1 2 rfl ?_
  unfold f49 at h
  dsimp only [C49, startL]
  refine AWc.seq ?_
  refine AWc.rg hmix rfl rfl ?_
  refine RegV.p0 rfl rfl rfl ?_
  refine RegV.nil0 ?_
  refine AWc.seq ?_
  refine AWc.rg hmix rfl rfl ?_
  refine RegV.p0 rfl rfl rfl ?_
  refine RegV.p0 (v := (.d (.int .i64 (max a3 (0 : Int))))) rfl rfl rfl ?_
  refine RegV.p0 rfl rfl rfl ?_
  refine RegV.nil0 ?_
  refine AWc.seq ?_
  refine AWc.seq ?_
  refine AWc.rg hmix rfl rfl ?_
  refine RegV.p0 rfl rfl rfl ?_
  refine RegV.p0 rfl rfl rfl ?_
  refine RegV.p0 (v := (.ptr 0 2)) rfl rfl rfl ?_
  refine RegV.ld (v := (.d (.int .i64 a2))) (H' := [(0, (.cells [(.d (.sl (List.map byteD a0))), (.d (.int .i64 a1)), (.d (.int .i64 a2))]))]) rfl rfl trivial rfl rfl rfl rfl rfl ?_
  refine RegV.p0 (v := (.d (.bool (decide (a2 ≠ (0 : Int)))))) rfl rfl rfl ?_
  refine RegV.nil0 ?_
  refine AWc.cond rfl (fun c20 => ?_) (fun c20 => ?_)
  · have h := cond_pos c20 h
    refine AWc.seq ?_
    refine AWc.rg hmix rfl rfl ?_
    refine RegV.p0 rfl rfl rfl ?_
    refine RegV.nil0 ?_
    have hr := Option.some.inj h
    subst hr
    exact AWc.ret (canQ (N := 52) (k := 2) (l' := [(4, (.ap 1 1 (List.map byteD ([] : List UInt8))))]) (H' := [(1, (.tok ((List.map byteD ([] : List UInt8)).length * 1))), (0, (.cells [(.d (.sl (List.map byteD a0))), (.d (.int .i64 a1)), (.d (.int .i64 a2))]))]) rfl ⟨rfl, [.tok 0], [(1, 1)], rfl, rfl, ⟨⟨_, rfl, .nil⟩, rfl, trivial⟩, ⟨⟨_, rfl, (.refl _)⟩, rfl, rfl, ⟨⟨_, rfl, (.refl _)⟩, rfl, rfl, trivial⟩⟩⟩ (doneA (.inr rfl) rfl ⟨trivial, trivial⟩ (.refl _) (hasCons rfl (hasCons rfl hasNil))))
  · have h := cond_neg c20 h
    refine AWc.skip ?_
    refine AWc.seq ?_
    refine AWc.seq ?_
    refine AWc.rg hmix rfl rfl ?_
    refine RegV.p0 rfl rfl rfl ?_
    refine RegV.p0 rfl rfl rfl ?_
    refine RegV.p0 rfl rfl rfl ?_
    refine RegV.p0 (v := (.ptr 0 0)) rfl rfl rfl ?_
    refine RegV.ld (v := (.d (.sl (List.map byteD a0)))) (H' := [(0, (.cells [(.d (.sl (List.map byteD a0))), (.d (.int .i64 a1)), (.d (.int .i64 a2))]))]) rfl rfl trivial rfl rfl rfl rfl rfl ?_
    refine RegV.len (xs := a0) (e := byteD) rfl rfl rfl rfl ?_
    refine RegV.p0 rfl rfl rfl ?_
    refine RegV.p0 rfl rfl rfl ?_
    refine RegV.p0 (v := (.ptr 0 1)) rfl rfl rfl ?_
    refine RegV.ld (v := (.d (.int .i64 a1))) (H' := [(0, (.cells [(.d (.sl (List.map byteD a0))), (.d (.int .i64 a1)), (.d (.int .i64 a2))]))]) rfl rfl trivial rfl rfl rfl rfl rfl ?_
    refine RegV.p0 (v := (.d (.int .i64 (IntKind.i64.wrap (((a0.length : Nat) : Int) - a1))))) rfl rfl rfl ?_
    refine RegV.p0 (v := (.d (.bool (decide ((max a3 (0 : Int)) > (IntKind.i64.wrap (((a0.length : Nat) : Int) - a1))))))) rfl rfl rfl ?_
    refine RegV.nil1 (by kernel_rfl) ?_
    refine AWc.cond rfl (fun c43 => ?_) (fun c43 => ?_)
    · have h := cond_pos c43 h
      refine AWc.seq ?_
      refine AWc.rg hmix rfl rfl ?_
      refine RegV.p0 rfl rfl rfl ?_
      refine RegV.p0 rfl rfl rfl ?_
      refine RegV.p0 (v := (.ptr 0 2)) rfl rfl rfl ?_
      refine RegV.evN (own := false) (H' := [(0, (.cells [(.d (.sl (List.map byteD a0))), (.d (.int .i64 a1)), (.d (.int .i64 (3 : Int)))]))]) (c' := 1) rfl rfl (by exact ⟨rfl, Nat.le_of_ble_eq_true rfl, rfl⟩) rfl rfl rfl rfl ?_
      refine RegV.nil0 ?_
      refine AWc.seq ?_
      refine AWc.rg hmix rfl rfl ?_
      refine RegV.p0 rfl rfl rfl ?_
      refine RegV.nil0 ?_
      have hr := Option.some.inj h
      subst hr
      exact AWc.ret (canQ (N := 52) (k := 2) (l' := [(4, (.ap 1 1 (List.map byteD ([] : List UInt8))))]) (H' := [(1, (.tok ((List.map byteD ([] : List UInt8)).length * 1))), (0, (.cells [(.d (.sl (List.map byteD a0))), (.d (.int .i64 a1)), (.d (.int .i64 (3 : Int)))]))]) rfl ⟨rfl, [.tok 0], [(1, 1)], rfl, rfl, ⟨⟨_, rfl, .nil⟩, rfl, trivial⟩, ⟨⟨_, rfl, (.refl _)⟩, rfl, rfl, ⟨⟨_, rfl, (.refl _)⟩, rfl, rfl, trivial⟩⟩⟩ (doneA (.inr rfl) rfl ⟨trivial, trivial⟩ (.refl _) (hasCons rfl (hasCons rfl hasNil))))
    · have h := cond_neg c43 h
      refine AWc.skip ?_
      refine AWc.seq ?_
      refine AWc.rg hmix rfl rfl ?_
      refine RegV.p0 rfl rfl rfl ?_
      refine RegV.p0 rfl rfl rfl ?_
      refine RegV.p0 rfl rfl rfl ?_
      refine RegV.p0 (v := (.ptr 0 1)) rfl rfl rfl ?_
      refine RegV.ld (v := (.d (.int .i64 a1))) (H' := [(0, (.cells [(.d (.sl (List.map byteD a0))), (.d (.int .i64 a1)), (.d (.int .i64 a2))]))]) rfl rfl trivial rfl rfl rfl rfl rfl ?_
      refine RegV.p0 rfl rfl rfl ?_
      refine RegV.p0 (v := (.d (.int .i64 (IntKind.i64.wrap (a1 + (max a3 (0 : Int))))))) rfl rfl rfl ?_
      refine RegV.p0 rfl rfl rfl ?_
      refine RegV.p0 (v := (.ptr 0 1)) rfl rfl rfl ?_
      refine RegV.evN (own := false) (H' := [(0, (.cells [(.d (.sl (List.map byteD a0))), (.d (.int .i64 (IntKind.i64.wrap (a1 + (max a3 (0 : Int)))))), (.d (.int .i64 a2))]))]) (c' := 1) rfl rfl (by exact ⟨rfl, Nat.le_of_ble_eq_true rfl, rfl⟩) rfl rfl rfl rfl ?_
      refine RegV.nil0 ?_
      refine AWc.seq ?_
      refine AWc.rg hmix rfl rfl ?_
      refine RegV.p0 rfl rfl rfl ?_
      refine RegV.p0 rfl rfl rfl ?_
      refine RegV.p0 (v := (.ptr 0 0)) rfl rfl rfl ?_
      refine RegV.ld (v := (.d (.sl (List.map byteD a0)))) (H' := [(0, (.cells [(.d (.sl (List.map byteD a0))), (.d (.int .i64 (IntKind.i64.wrap (a1 + (max a3 (0 : Int)))))), (.d (.int .i64 a2))]))]) rfl rfl trivial rfl rfl rfl rfl rfl ?_
      refine RegV.p0 rfl rfl rfl ?_
      refine RegV.p0 rfl rfl rfl ?_
      refine RegV.p0 (v := (.ptr 0 1)) rfl rfl rfl ?_
      refine RegV.ld (v := (.d (.int .i64 (IntKind.i64.wrap (a1 + (max a3 (0 : Int))))))) (H' := [(0, (.cells [(.d (.sl (List.map byteD a0))), (.d (.int .i64 (IntKind.i64.wrap (a1 + (max a3 (0 : Int)))))), (.d (.int .i64 a2))]))]) rfl rfl trivial rfl rfl rfl rfl rfl ?_
      refine RegV.p0 rfl rfl rfl ?_
      refine RegV.p0 (v := (.d (.int .i64 (IntKind.i64.wrap ((IntKind.i64.wrap (a1 + (max a3 (0 : Int)))) - (max a3 (0 : Int))))))) rfl rfl rfl ?_
      refine RegV.p0 rfl rfl rfl ?_
      refine RegV.p0 rfl rfl rfl ?_
      refine RegV.p0 (v := (.ptr 0 1)) rfl rfl rfl ?_
      refine RegV.ld (v := (.d (.int .i64 (IntKind.i64.wrap (a1 + (max a3 (0 : Int))))))) (H' := [(0, (.cells [(.d (.sl (List.map byteD a0))), (.d (.int .i64 (IntKind.i64.wrap (a1 + (max a3 (0 : Int)))))), (.d (.int .i64 a2))]))]) rfl rfl trivial rfl rfl rfl rfl rfl ?_
      obtain ⟨b87, h⟩ := gd_some h
      refine RegV.slc (xs := a0) (e := byteD) (lo := (IntKind.i64.wrap ((IntKind.i64.wrap (a1 + (max a3 (0 : Int)))) - (max a3 (0 : Int))))) (hi := (IntKind.i64.wrap (a1 + (max a3 (0 : Int))))) rfl rfl rfl b87 (fun _ => rfl) rfl ?_
      obtain ⟨b88, h⟩ := gd_some h
      refine RegV.appN (ys := (sl a0 (IntKind.i64.wrap ((IntKind.i64.wrap (a1 + (max a3 (0 : Int)))) - (max a3 (0 : Int)))) (IntKind.i64.wrap (a1 + (max a3 (0 : Int)))))) (e := byteD) rfl rfl rfl (fun _ => rfl) rfl rfl b88 rfl rfl ?_
      refine RegV.p0 rfl rfl rfl ?_
      refine RegV.nil1 (by kernel_rfl) ?_
      have hr := Option.some.inj h
      subst hr
      exact AWc.ret (canQ (N := 52) (k := 2) (l' := [(4, (.ap 1 1 (List.map byteD (sl a0 (IntKind.i64.wrap ((IntKind.i64.wrap (a1 + (max a3 (0 : Int)))) - (max a3 (0 : Int)))) (IntKind.i64.wrap (a1 + (max a3 (0 : Int))))))))]) (H' := [(1, (.tok ((List.map byteD (sl a0 (IntKind.i64.wrap ((IntKind.i64.wrap (a1 + (max a3 (0 : Int)))) - (max a3 (0 : Int)))) (IntKind.i64.wrap (a1 + (max a3 (0 : Int)))))).length * 1))), (0, (.cells [(.d (.sl (List.map byteD a0))), (.d (.int .i64 (IntKind.i64.wrap (a1 + (max a3 (0 : Int)))))), (.d (.int .i64 a2))]))]) rfl ⟨rfl, [], [], rfl, rfl, ⟨⟨_, rfl, (.refl _)⟩, rfl, trivial⟩, ⟨⟨_, rfl, (.refl _)⟩, rfl, rfl, ⟨⟨_, rfl, (.refl _)⟩, rfl, rfl, trivial⟩⟩⟩ (doneA (.inr rfl) rfl ⟨trivial, trivial⟩ (.refl _) (hasCons rfl (hasCons rfl hasNil))))
/-- (*courant/courantref01.Reader).Left -/
def C50 (N : Nat → Nat) : AFunc := { n := 13, params := 1, res := [.tmp 2], body :=
 (.seq (.region false [⟨(some 2), .mv (.k (.d (.int .i64 0))), none, []⟩])
  (.seq (.region true [⟨(some 3), .mv (.t 0), none, []⟩,
    ⟨(some 4), .nilchk (.t 3), none, [0]⟩,
    ⟨(some 5), .faddr (.t 4) 0, none, [1]⟩,
    ⟨(some 6), .load (.t 5) 1 false, none, [2]⟩,
    ⟨(some 7), .len (.t 6), none, [3]⟩,
    ⟨(some 8), .mv (.t 0), none, []⟩,
    ⟨(some 9), .nilchk (.t 8), none, [5]⟩,
    ⟨(some 10), .faddr (.t 9) 1, none, [6]⟩,
    ⟨(some 11), .load (.t 10) 1 false, none, [7]⟩,
    ⟨(some 12), .bin .sub (.t 7) (.t 11), none, [4, 8]⟩,
    ⟨(some 2), .mv (.t 12), none, [9, 0, 1, 2, 3, 4, 5, 6, 7, 8]⟩])
   .ret)) }
def HC50 (P : Program) (N : Nat → Nat) : Prop := HasF P (N 50) (C50 N)
def f50 (k : Nat) (a0 : (List UInt8)) (a1 : Int) (a2 : Int) : Option Unit := some ()
theorem F50 {P : Program} {N : Nat → Nat} (hmix : P.follows .mixedOrders = true) (hc : HC50 P N) {k : Nat} {a0 : (List UInt8)} {a1 : Int} {a2 : Int} {r : Unit} (h : f50 k a0 a1 a2 = some r) :
    ACalls P (N 50) [(.ptr 0 0)] [(0, (.cells [(.d (.sl (List.map byteD a0))), (.d (.int .i64 a1)), (.d (.int .i64 a2))]))] (.d (.int .i64 (IntKind.i64.wrap (((a0.length : Nat) : Int) - a1)))) [(0, (.cells [(.d (.sl (List.map byteD a0))), (.d (.int .i64 a1)), (.d (.int .i64 a2))]))] := by
  refine acalls_canon (F := C50 N) hc 1 1 rfl ?_
  unfold f50 at h
  dsimp only [C50, startL]
  refine AWc.seq ?_
  refine AWc.rg hmix rfl rfl ?_
  refine RegV.p0 rfl rfl rfl ?_
  refine RegV.nil0 ?_
  refine AWc.seq ?_
  refine AWc.rg hmix rfl rfl ?_
  refine RegV.p0 rfl rfl rfl ?_
  refine RegV.p0 rfl rfl rfl ?_
  refine RegV.p0 (v := (.ptr 0 0)) rfl rfl rfl ?_
  refine RegV.ld (v := (.d (.sl (List.map byteD a0)))) (H' := [(0, (.cells [(.d (.sl (List.map byteD a0))), (.d (.int .i64 a1)), (.d (.int .i64 a2))]))]) rfl rfl trivial rfl rfl rfl rfl rfl ?_
  refine RegV.len (xs := a0) (e := byteD) rfl rfl rfl rfl ?_
  refine RegV.p0 rfl rfl rfl ?_
  refine RegV.p0 rfl rfl rfl ?_
  refine RegV.p0 (v := (.ptr 0 1)) rfl rfl rfl ?_
  refine RegV.ld (v := (.d (.int .i64 a1))) (H' := [(0, (.cells [(.d (.sl (List.map byteD a0))), (.d (.int .i64 a1)), (.d (.int .i64 a2))]))]) rfl rfl trivial rfl rfl rfl rfl rfl ?_
  refine RegV.p0 (v := (.d (.int .i64 (IntKind.i64.wrap (((a0.length : Nat) : Int) - a1))))) rfl rfl rfl ?_
  refine RegV.p0 rfl rfl rfl ?_
  refine RegV.nil1 (by kernel_rfl) ?_
  have hr := Option.some.inj h
  subst hr
  exact AWc.ret (canQ (N := 13) (k := 1) (l' := [(2, (.d (.int .i64 (IntKind.i64.wrap (((a0.length : Nat) : Int) - a1)))))]) (H' := [(0, (.cells [(.d (.sl (List.map byteD a0))), (.d (.int .i64 a1)), (.d (.int .i64 a2))]))]) rfl ⟨rfl, [], [], rfl, rfl, ⟨⟨_, rfl, (.refl _)⟩, rfl, trivial⟩, ⟨⟨_, rfl, (.refl _)⟩, rfl, rfl, trivial⟩⟩ (doneA (.inr rfl) rfl ⟨trivial, trivial⟩ (.refl _) (hasCons rfl hasNil)))
/-- (*courant/code.Reader).Err -/
def C42 (N : Nat → Nat) : AFunc := { n := 9, params := 1, res := [.tmp 2], body :=
 (.seq (.region false [⟨(some 2), .mv (.k (.d (.int .i64 0))), none, []⟩])
  (.seq (.seq (.region false [⟨(some 3), .mv (.t 0), none, []⟩,
     ⟨(some 4), .nileq 1 false (.t 3) (.k (.d .nilp)), none, [0]⟩])
    (.cond (.t 4) (.seq (.region false [⟨(some 2), .mv (.k (.d (.int .i64 2))), none, []⟩])
      .ret)
     (.skip)))
   (.seq (.region false [⟨(some 5), .mv (.t 0), none, []⟩,
     ⟨(some 6), .nilchk (.t 5), none, [0]⟩,
     ⟨(some 7), .faddr (.t 6) 2, none, [1]⟩,
     ⟨(some 8), .load (.t 7) 1 false, none, [2]⟩,
     ⟨(some 2), .mv (.t 8), none, [3, 0, 1, 2]⟩])
    .ret))) }
def HC42 (P : Program) (N : Nat → Nat) : Prop := HasF P (N 42) (C42 N)
def f42 (k : Nat) (a0 : (List UInt8)) (a1 : Int) (a2 : Int) : Option Unit := some ()
theorem F42 {P : Program} {N : Nat → Nat} (hmix : P.follows .mixedOrders = true) (hc : HC42 P N) {k : Nat} {a0 : (List UInt8)} {a1 : Int} {a2 : Int} {r : Unit} (h : f42 k a0 a1 a2 = some r) :
    ACalls P (N 42) [(.ptr 0 0)] [(0, (.cells [(.d (.sl (List.map byteD a0))), (.d (.int .i64 a1)), (.d (.int .i64 a2))]))] (.d (.int .i64 a2)) [(0, (.cells [(.d (.sl (List.map byteD a0))), (.d (.int .i64 a1)), (.d (.int .i64 a2))]))] := by
  refine acalls_canon (F := C42 N) hc 1 1 rfl ?_
  unfold f42 at h
  dsimp only [C42, startL]
  refine AWc.seq ?_
  refine AWc.rg hmix rfl rfl ?_
  refine RegV.p0 rfl rfl rfl ?_
  refine RegV.nil0 ?_
  refine AWc.seq ?_
  refine AWc.seq ?_
  refine AWc.rg hmix rfl rfl ?_
  refine RegV.p0 rfl rfl rfl ?_
  refine RegV.p0 (v := (.d (.bool false))) rfl rfl rfl ?_
  refine RegV.nil0 ?_
  refine AWc.cond rfl (fun hc => by cases hc) (fun _ => ?_)
  refine AWc.skip ?_
  refine AWc.seq ?_
  refine AWc.rg hmix rfl rfl ?_
  refine RegV.p0 rfl rfl rfl ?_
  refine RegV.p0 rfl rfl rfl ?_
  refine RegV.p0 (v := (.ptr 0 2)) rfl rfl rfl ?_
  refine RegV.ld (v := (.d (.int .i64 a2))) (H' := [(0, (.cells [(.d (.sl (List.map byteD a0))), (.d (.int .i64 a1)), (.d (.int .i64 a2))]))]) rfl rfl trivial rfl rfl rfl rfl rfl ?_
  refine RegV.p0 rfl rfl rfl ?_
  refine RegV.nil0 ?_
  have hr := Option.some.inj h
  subst hr
  exact AWc.ret (canQ (N := 9) (k := 1) (l' := [(2, (.d (.int .i64 a2)))]) (H' := [(0, (.cells [(.d (.sl (List.map byteD a0))), (.d (.int .i64 a1)), (.d (.int .i64 a2))]))]) rfl ⟨rfl, [], [], rfl, rfl, ⟨⟨_, rfl, (.refl _)⟩, rfl, trivial⟩, ⟨⟨_, rfl, (.refl _)⟩, rfl, rfl, trivial⟩⟩ (doneA (.inr rfl) rfl ⟨trivial, trivial⟩ (.refl _) (hasCons rfl hasNil)))
end Go.Proofs.Abs
