/- Written by gen.py: functions of the program as Lean functions, and that the code comes to them. -/
import Derived.Test.YtojmpoboidomeaaAbsxc
set_option linter.unusedVariables false
set_option linter.unusedSimpArgs false
set_option maxRecDepth 100000
set_option maxHeartbeats 4000000
namespace Go.Proofs.Abs
open Go
structure TMessage where
  fOffset : Int
  fProducer : Int
  fSeq : Int
  fVersion : Int
  fData : (List UInt8)
instance : Inhabited TMessage := ⟨⟨default, default, default, default, default⟩⟩
instance : DecidableEq TMessage := fun a b => decidable_of_iff (a.fOffset = b.fOffset ∧ a.fProducer = b.fProducer ∧ a.fSeq = b.fSeq ∧ a.fVersion = b.fVersion ∧ a.fData = b.fData ∧ True) ⟨fun h => by cases a; cases b; simp_all, fun h => by subst h; simp⟩
def TMessage.enc (x : TMessage) : D := .agg [.int .u64 x.fOffset, .int .u64 x.fProducer, .int .u64 x.fSeq, .int .i64 x.fVersion, .sl (List.map byteD x.fData)]
theorem TMessage.ok : EncOK TMessage.enc 5 true := ⟨fun _ => rfl, fun _ c hc => by simp only [TMessage.enc, D.cells, List.mem_cons, List.not_mem_nil, or_false] at hc; rcases hc with rfl | rfl | rfl | rfl | rfl <;> rfl, fun _ => rfl⟩
def TMessage.wf (x : TMessage) : Prop := (0 ≤ x.fOffset ∧ x.fOffset ≤ 18446744073709551615) ∧ (0 ≤ x.fProducer ∧ x.fProducer ≤ 18446744073709551615) ∧ (0 ≤ x.fSeq ∧ x.fSeq ≤ 18446744073709551615) ∧ (-9223372036854775808 ≤ x.fVersion ∧ x.fVersion ≤ 9223372036854775807) ∧ (∀ e0 ∈ x.fData, True) ∧ True
def TMessage.sz (x : TMessage) : Nat := (1 + (1 + (1 + (1 + (((x.fData.map (fun _ => 1)).sum + 1) + 0))))) + 1
/-- courant/code.Num -/
def C23 (N : Nat → Nat) : AFunc := { n := 19, params := 1, res := [.tmp 2], body :=
 (.seq (.region false [⟨(some 2), .mv (.k .nils), none, []⟩])
  (.seq (.region false [⟨(some 3), .mv (.k .nils), none, []⟩])
   (.seq (.block 0 (.loop (.seq (.seq (.region false [⟨(some 4), .mv (.t 0), none, []⟩,
         ⟨(some 5), .bin .geq (.t 4) (.k (.d (.int .u64 128))), none, [0]⟩])
        (.cond (.t 5) (.skip)
         (.exit 0)))
       (.seq (.block 1 (.region false [⟨(some 8), .mv (.t 3), none, []⟩,
          ⟨(some 9), .mv (.t 0), none, []⟩,
          ⟨(some 10), .cvi .u8 (.t 9), none, [1]⟩,
          ⟨(some 11), .bin .or (.t 10) (.k (.d (.int .u8 128))), none, [2]⟩,
          ⟨(some 12), .bslice 1 1 [(.int .u8 0)] [(0, (.t 11))], none, [3]⟩,
          ⟨(some 13), .app (.t 8) (.t 12) 1 1 [(.int .u8 0)], none, [0, 4]⟩,
          ⟨(some 3), .mv (.t 13), none, [5, 0, 1, 2, 3, 4]⟩]))
        (.region false [⟨(some 6), .mv (.t 0), none, []⟩,
         ⟨(some 7), .bin .shr (.t 6) (.k (.d (.int .u64 7))), none, [0]⟩,
         ⟨(some 0), .mv (.t 7), none, [1, 0]⟩])))))
    (.seq (.region false [⟨(some 14), .mv (.t 3), none, []⟩,
      ⟨(some 15), .mv (.t 0), none, []⟩,
      ⟨(some 16), .cvi .u8 (.t 15), none, [1]⟩,
      ⟨(some 17), .bslice 1 1 [(.int .u8 0)] [(0, (.t 16))], none, [2]⟩,
      ⟨(some 18), .app (.t 14) (.t 17) 1 1 [(.int .u8 0)], none, [0, 3]⟩,
      ⟨(some 2), .mv (.t 18), none, [4, 0, 1, 2, 3]⟩])
     .ret)))) }
def HC23 (P : Program) (N : Nat → Nat) : Prop := HasF P (N 23) (C23 N)
def f23_l10 : Nat → Int → (List UInt8) → Option (LR2 (Int × (List UInt8)) Unit (List UInt8))
  | 0, _, _ => none
  | k + 1, y10_1, y10_2 => cond (decide (y10_1 ≥ (128 : Int))) (gd ((y10_2.length + ([(u8 (bitsA .or .u8 (IntKind.u8.wrap y10_1) (128 : Int)))] : List UInt8).length) * 2 * 1 ≤ 281474976710656) (f23_l10 k (Int.fdiv y10_1 (2 ^ (min ((7 : Int)).toNat IntKind.u64.bits))) (y10_2 ++ ([(u8 (bitsA .or .u8 (IntKind.u8.wrap y10_1) (128 : Int)))] : List UInt8)))) (some (.b0 (y10_1, y10_2)))
def f23 (k : Nat) (a0 : Int) : Option (List UInt8) := (f23_l10 k a0 ([] : List UInt8)).bind fun o10 => match o10 with | .b0 (x10_1, x10_2) => gd ((x10_2.length + ([(u8 (IntKind.u8.wrap x10_1))] : List UInt8).length) * 2 * 1 ≤ 281474976710656) (some (x10_2 ++ ([(u8 (IntKind.u8.wrap x10_1))] : List UInt8))) | _ => none
theorem F23 {P : Program} {N : Nat → Nat} (hmix : P.follows .mixedOrders = true) (hc : HC23 P N) {k : Nat} {a0 : Int} {r : (List UInt8)} (h : f23 k a0 = some r) :
    ACalls P (N 23) [(.d (.int .u64 a0))] [] (.ap 0 1 (List.map byteD r)) [(0, (.tok ((List.map byteD r).length * 1)))] := by
  refine acalls_canon (F := C23 N) hc 0 1 rfl ?_
  unfold f23 at h
  dsimp only [C23, startL]
  refine AWc.seq ?_
  refine AWc.rg hmix rfl rfl ?_
  refine RegV.p0 rfl rfl rfl ?_
  refine RegV.nil0 ?_
  refine AWc.seq ?_
  refine AWc.rg hmix rfl rfl ?_
  refine RegV.p0 rfl rfl rfl ?_
  refine RegV.nil0 ?_
  obtain ⟨o10, h10, h⟩ := bind_some h
  refine AWc.seqS (N := 19) 1 (fun (z : (Int × (List UInt8))) => [(0, (.d (.int .u64 z.1))), (3, (.ap 0 1 (List.map byteD z.2)))]) (fun z => [(0, (.tok ((List.map byteD z.2).length * 1)))]) (fun z => o10 = .b0 z) rfl_le ?_ ?_
  · refine AWc.block ?_
    refine AWc.loopK (N := 19) 1 (fun (x : (Int × (List UInt8))) => [(0, (.d (.int .u64 x.1))), (3, (.ap 0 1 (List.map byteD x.2)))]) (fun x => [(0, (.tok ((List.map byteD x.2).length * 1)))]) (fun k x => f23_l10 k x.1 x.2 = some o10) k (a0, ([] : List UInt8)) rfl_le (fun x hx => by cases hx) h10 ⟨rfl, [.tok 0], [(0, 0)], rfl, rfl, ⟨⟨_, rfl, (.refl _)⟩, rfl, ⟨⟨_, rfl, .nil⟩, rfl, trivial⟩⟩, ⟨⟨_, rfl, (.refl _)⟩, rfl, rfl, trivial⟩⟩ ?_
    clear h10
    intro k
    rintro ⟨y10_1, y10_2⟩ h10
    dsimp only at h10 ⊢
    rw [f23_l10] at h10
    refine AWc.seq ?_
    refine AWc.seq ?_
    refine AWc.rg hmix rfl rfl ?_
    refine RegV.p0 rfl rfl rfl ?_
    refine RegV.p0 (v := (.d (.bool (decide (y10_1 ≥ (128 : Int)))))) rfl rfl rfl ?_
    refine RegV.nil0 ?_
    refine AWc.cond rfl (fun c18 => ?_) (fun c18 => ?_)
    · have h10 := cond_pos c18 h10
      refine AWc.skip ?_
      refine AWc.seq ?_
      refine AWc.block ?_
      refine AWc.rg hmix rfl rfl ?_
      refine RegV.p0 rfl rfl rfl ?_
      refine RegV.p0 rfl rfl rfl ?_
      refine RegV.p0 (v := (.d (.int .u8 (IntKind.u8.wrap y10_1)))) rfl rfl rfl ?_
      refine RegV.p0 (v := (.d (.int .u8 (bitsA .or .u8 (IntKind.u8.wrap y10_1) (128 : Int))))) rfl rfl rfl ?_
      refine RegV.p1 (v := .d (.sl [(.int .u8 (bitsA .or .u8 (IntKind.u8.wrap y10_1) (128 : Int)))])) (v' := (.d (.sl (List.map byteD ([(u8 (bitsA .or .u8 (IntKind.u8.wrap y10_1) (128 : Int)))] : List UInt8))))) (s := ([(.int .u8 0)] : List D).length = 1 ∧ 1 * 1 ≤ 16777216 ∧ ∀ d ∈ ([(.int .u8 (bitsA .or .u8 (IntKind.u8.wrap y10_1) (128 : Int)))] : List D), d.cells.length = 1) rfl rfl ⟨rfl, Nat.le_of_ble_eq_true rfl, by simp [D.cells]⟩ rfl (by simp only [List.map_cons, List.map_nil, byteD, ← u8_eq (u8_wrap _), ← u8_eq (u8_bits _ _ _)]) ?_
      obtain ⟨b30, h10⟩ := gd_some h10
      refine RegV.appA (xs := y10_2) (ys := ([(u8 (bitsA .or .u8 (IntKind.u8.wrap y10_1) (128 : Int)))] : List UInt8)) (e := byteD) (H1 := []) rfl rfl rfl rfl (fun _ => rfl) rfl rfl b30 rfl rfl rfl ?_
      refine RegV.p0 rfl rfl rfl ?_
      refine RegV.nil0 ?_
      refine AWc.rg hmix rfl rfl ?_
      refine RegV.p0 rfl rfl rfl ?_
      refine RegV.p1 (v := (.d (.int .u64 (Int.fdiv y10_1 (2 ^ (min ((7 : Int)).toNat IntKind.u64.bits)))))) rfl rfl (by decide) rfl rfl ?_
      refine RegV.p0 rfl rfl rfl ?_
      refine RegV.nil0 ?_
      exact ⟨((Int.fdiv y10_1 (2 ^ (min ((7 : Int)).toNat IntKind.u64.bits))), (y10_2 ++ ([(u8 (bitsA .or .u8 (IntKind.u8.wrap y10_1) (128 : Int)))] : List UInt8))), h10, ⟨rfl, [], [(0, 1)], rfl, rfl, ⟨⟨_, rfl, (.refl _)⟩, rfl, ⟨⟨_, rfl, (.refl _)⟩, rfl, trivial⟩⟩, ⟨⟨_, rfl, (.refl _)⟩, rfl, rfl, trivial⟩⟩⟩
    · have h10 := cond_neg c18 h10
      cases h10
      dsimp only at h
      refine AWc.exit ?_
      refine inBlk_eq ?_
      exact ⟨(y10_1, y10_2), rfl, ⟨rfl, [], [], rfl, rfl, ⟨⟨_, rfl, (.refl _)⟩, rfl, ⟨⟨_, rfl, (.refl _)⟩, rfl, trivial⟩⟩, ⟨⟨_, rfl, (.refl _)⟩, rfl, rfl, trivial⟩⟩⟩
  · rintro ⟨x10_1, x10_2⟩ ho
    subst ho
    dsimp only at h ⊢
    refine AWc.seq ?_
    refine AWc.rg hmix rfl rfl ?_
    refine RegV.p0 rfl rfl rfl ?_
    refine RegV.p0 rfl rfl rfl ?_
    refine RegV.p0 (v := (.d (.int .u8 (IntKind.u8.wrap x10_1)))) rfl rfl rfl ?_
    refine RegV.p1 (v := .d (.sl [(.int .u8 (IntKind.u8.wrap x10_1))])) (v' := (.d (.sl (List.map byteD ([(u8 (IntKind.u8.wrap x10_1))] : List UInt8))))) (s := ([(.int .u8 0)] : List D).length = 1 ∧ 1 * 1 ≤ 16777216 ∧ ∀ d ∈ ([(.int .u8 (IntKind.u8.wrap x10_1))] : List D), d.cells.length = 1) rfl rfl ⟨rfl, Nat.le_of_ble_eq_true rfl, by simp [D.cells]⟩ rfl (by simp only [List.map_cons, List.map_nil, byteD, ← u8_eq (u8_wrap _), ← u8_eq (u8_bits _ _ _)]) ?_
    obtain ⟨b44, h⟩ := gd_some h
    refine RegV.appA (xs := x10_2) (ys := ([(u8 (IntKind.u8.wrap x10_1))] : List UInt8)) (e := byteD) (H1 := []) rfl rfl rfl rfl (fun _ => rfl) rfl rfl b44 rfl rfl rfl ?_
    refine RegV.p0 rfl rfl rfl ?_
    refine RegV.nil0 ?_
    have hr := Option.some.inj h
    subst hr
    exact AWc.ret (canQ (N := 19) (k := 1) (l' := [(2, (.ap 0 1 (List.map byteD (x10_2 ++ ([(u8 (IntKind.u8.wrap x10_1))] : List UInt8)))))]) (H' := [(0, (.tok ((List.map byteD (x10_2 ++ ([(u8 (IntKind.u8.wrap x10_1))] : List UInt8))).length * 1)))]) rfl ⟨rfl, [], [(0, 1)], rfl, rfl, ⟨⟨_, rfl, (.refl _)⟩, rfl, trivial⟩, ⟨⟨_, rfl, (.refl _)⟩, rfl, rfl, trivial⟩⟩ (doneA (.inr rfl) rfl ⟨trivial, trivial⟩ (.refl _) (hasCons rfl hasNil)))
/-- courant/code.fold -/
def C82 (N : Nat → Nat) : AFunc := { n := 10, params := 1, res := [.tmp 2], body :=
 (.seq (.region false [⟨(some 2), .mv (.k (.d (.int .u64 0))), none, []⟩])
  (.seq (.region false [⟨(some 3), .mv (.t 0), none, []⟩,
    ⟨(some 4), .cvi .u64 (.t 3), none, [0]⟩,
    ⟨(some 5), .bin .shl (.t 4) (.k (.d (.int .u64 1))), none, [1]⟩,
    ⟨(some 6), .mv (.t 0), none, []⟩,
    ⟨(some 7), .bin .shr (.t 6) (.k (.d (.int .u64 63))), none, [3]⟩,
    ⟨(some 8), .cvi .u64 (.t 7), none, [4]⟩,
    ⟨(some 9), .bin .xor (.t 5) (.t 8), none, [2, 5]⟩,
    ⟨(some 2), .mv (.t 9), none, [6, 0, 1, 2, 3, 4, 5]⟩])
   .ret)) }
def HC82 (P : Program) (N : Nat → Nat) : Prop := HasF P (N 82) (C82 N)
def f82 (k : Nat) (a0 : Int) : Option Unit := some ()
theorem F82 {P : Program} {N : Nat → Nat} (hmix : P.follows .mixedOrders = true) (hc : HC82 P N) {k : Nat} {a0 : Int} {r : Unit} (h : f82 k a0 = some r) :
    ACalls P (N 82) [(.d (.int .i64 a0))] [] (.d (.int .u64 (bitsA .xor .u64 (IntKind.u64.wrap ((IntKind.u64.wrap a0) * 2 ^ (min ((1 : Int)).toNat IntKind.u64.bits))) (IntKind.u64.wrap (Int.fdiv a0 (2 ^ (min ((63 : Int)).toNat IntKind.i64.bits))))))) [] := by
  refine acalls_canon (F := C82 N) hc 0 0 rfl ?_
  unfold f82 at h
  dsimp only [C82, startL]
  refine AWc.seq ?_
  refine AWc.rg hmix rfl rfl ?_
  refine RegV.p0 rfl rfl rfl ?_
  refine RegV.nil0 ?_
  refine AWc.seq ?_
  refine AWc.rg hmix rfl rfl ?_
  refine RegV.p0 rfl rfl rfl ?_
  refine RegV.p0 (v := (.d (.int .u64 (IntKind.u64.wrap a0)))) rfl rfl rfl ?_
  refine RegV.p1 (v := (.d (.int .u64 (IntKind.u64.wrap ((IntKind.u64.wrap a0) * 2 ^ (min ((1 : Int)).toNat IntKind.u64.bits)))))) rfl rfl (by decide) rfl rfl ?_
  refine RegV.p0 rfl rfl rfl ?_
  refine RegV.p1 (v := (.d (.int .i64 (Int.fdiv a0 (2 ^ (min ((63 : Int)).toNat IntKind.i64.bits)))))) rfl rfl (by decide) rfl rfl ?_
  refine RegV.p0 (v := (.d (.int .u64 (IntKind.u64.wrap (Int.fdiv a0 (2 ^ (min ((63 : Int)).toNat IntKind.i64.bits))))))) rfl rfl rfl ?_
  refine RegV.p0 (v := (.d (.int .u64 (bitsA .xor .u64 (IntKind.u64.wrap ((IntKind.u64.wrap a0) * 2 ^ (min ((1 : Int)).toNat IntKind.u64.bits))) (IntKind.u64.wrap (Int.fdiv a0 (2 ^ (min ((63 : Int)).toNat IntKind.i64.bits)))))))) rfl rfl rfl ?_
  refine RegV.p0 rfl rfl rfl ?_
  refine RegV.nil0 ?_
  have hr := Option.some.inj h
  subst hr
  exact AWc.ret (canQ (N := 10) (k := 0) (l' := [(2, (.d (.int .u64 (bitsA .xor .u64 (IntKind.u64.wrap ((IntKind.u64.wrap a0) * 2 ^ (min ((1 : Int)).toNat IntKind.u64.bits))) (IntKind.u64.wrap (Int.fdiv a0 (2 ^ (min ((63 : Int)).toNat IntKind.i64.bits))))))))]) (H' := []) rfl ⟨rfl, [], [], rfl, rfl, ⟨⟨_, rfl, (.refl _)⟩, rfl, trivial⟩,  trivial⟩ (doneA (.inr rfl) rfl ⟨trivial, trivial⟩ (.refl _) hasNil))
/-- courant/code.Zig -/
def C25 (N : Nat → Nat) : AFunc := { n := 6, params := 1, res := [.tmp 2], body :=
 (.seq (.region false [⟨(some 2), .mv (.k .nils), none, []⟩])
  (.seq (.region false [⟨(some 3), .mv (.t 0), none, []⟩,
    ⟨(some 4), .call (.k (.d (.fn (N 82)))) [(.t 3)], none, [0]⟩,
    ⟨(some 5), .call (.k (.d (.fn (N 23)))) [(.t 4)], none, [1]⟩,
    ⟨(some 2), .mv (.t 5), none, [2, 0, 1]⟩])
   .ret)) }
def HC25 (P : Program) (N : Nat → Nat) : Prop := HasF P (N 25) (C25 N) ∧ HC82 P N ∧ HC23 P N
def f25 (k : Nat) (a0 : Int) : Option (List UInt8) := (f82 k a0).bind fun r9 => (f23 k (bitsA .xor .u64 (IntKind.u64.wrap ((IntKind.u64.wrap a0) * 2 ^ (min ((1 : Int)).toNat IntKind.u64.bits))) (IntKind.u64.wrap (Int.fdiv a0 (2 ^ (min ((63 : Int)).toNat IntKind.i64.bits)))))).bind fun r10 => some r10
theorem F25 {P : Program} {N : Nat → Nat} (hmix : P.follows .mixedOrders = true) (hc : HC25 P N) {k : Nat} {a0 : Int} {r : (List UInt8)} (h : f25 k a0 = some r) :
    ACalls P (N 25) [(.d (.int .i64 a0))] [] (.ap 0 1 (List.map byteD r)) [(0, (.tok ((List.map byteD r).length * 1)))] := by
  refine acalls_canon (F := C25 N) hc.1 0 1 rfl ?_
  unfold f25 at h
  dsimp only [C25, startL]
  refine AWc.seq ?_
  refine AWc.rg hmix rfl rfl ?_
  refine RegV.p0 rfl rfl rfl ?_
  refine RegV.nil0 ?_
  refine AWc.seq ?_
  refine AWc.rg hmix rfl rfl ?_
  refine RegV.p0 rfl rfl rfl ?_
  obtain ⟨r9, e9, h⟩ := bind_some h
  refine RegV.call0 (F82 hmix hc.2.1 e9) rfl rfl rfl rfl (.cons (.refl _) .nil) rfl ?_
  obtain ⟨r10, e10, h⟩ := bind_some h
  refine RegV.callS (q := false) (H' := [(0, (.tok ((List.map byteD r10).length * 1)))]) (c' := 1) (show ACalls P (N 23) [(.d (.int .u64 (bitsA .xor .u64 (IntKind.u64.wrap ((IntKind.u64.wrap a0) * 2 ^ (min ((1 : Int)).toNat IntKind.u64.bits))) (IntKind.u64.wrap (Int.fdiv a0 (2 ^ (min ((63 : Int)).toNat IntKind.i64.bits)))))))] [] (.ap 0 1 (List.map byteD r10)) [(0, (.tok ((List.map byteD r10).length * 1)))] from ACalls.use (F23 hmix hc.2.2 e10) [(0, 0)] 1 rfl) rfl rfl rfl rfl (.cons (.refl _) .nil) (.refl _) (fun h => by cases h) rfl hasNil rfl rfl rfl rfl ?_
  refine RegV.p0 rfl rfl rfl ?_
  refine RegV.nil0 ?_
  have hr := Option.some.inj h
  subst hr
  exact AWc.ret (canQ (N := 6) (k := 1) (l' := [(2, (.ap 0 1 (List.map byteD r10)))]) (H' := [(0, (.tok ((List.map byteD r10).length * 1)))]) rfl ⟨rfl, [], [], rfl, rfl, ⟨⟨_, rfl, (.refl _)⟩, rfl, trivial⟩, ⟨⟨_, rfl, (.refl _)⟩, rfl, rfl, trivial⟩⟩ (doneA (.inr rfl) rfl ⟨trivial, trivial⟩ (.refl _) (hasCons rfl hasNil)))
/-- courant/code.Text -/
def C27 (N : Nat → Nat) : AFunc := { n := 8, params := 1, res := [.tmp 2], body :=
 (.seq (.region false [⟨(some 2), .mv (.k .nils), none, []⟩])
  (.seq (.region false [⟨(some 3), .mv (.t 0), none, []⟩,
    ⟨(some 4), .len (.t 3), none, [0]⟩,
    ⟨(some 5), .call (.k (.d (.fn (N 25)))) [(.t 4)], none, [1]⟩,
    ⟨(some 6), .mv (.t 0), none, []⟩,
    ⟨(some 7), .app (.t 5) (.t 6) 1 1 [(.int .u8 0)], none, [2, 3]⟩,
    ⟨(some 2), .mv (.t 7), none, [4, 0, 1, 2, 3]⟩])
   .ret)) }
def HC27 (P : Program) (N : Nat → Nat) : Prop := HasF P (N 27) (C27 N) ∧ HC25 P N
def f27 (k : Nat) (a0 : (List UInt8)) : Option (List UInt8) := (f25 k ((a0.length : Nat) : Int)).bind fun r10 => gd ((r10.length + a0.length) * 2 * 1 ≤ 281474976710656) (some (r10 ++ a0))
theorem F27 {P : Program} {N : Nat → Nat} (hmix : P.follows .mixedOrders = true) (hc : HC27 P N) {k : Nat} {a0 : (List UInt8)} {r : (List UInt8)} (h : f27 k a0 = some r) :
    ACalls P (N 27) [(.d (.sl (List.map byteD a0)))] [] (.ap 0 1 (List.map byteD r)) [(0, (.tok ((List.map byteD r).length * 1)))] := by
  refine acalls_canon (F := C27 N) hc.1 0 1 rfl ?_
  unfold f27 at h
  dsimp only [C27, startL]
  refine AWc.seq ?_
  refine AWc.rg hmix rfl rfl ?_
  refine RegV.p0 rfl rfl rfl ?_
  refine RegV.nil0 ?_
  refine AWc.seq ?_
  refine AWc.rg hmix rfl rfl ?_
  refine RegV.p0 rfl rfl rfl ?_
  refine RegV.len (xs := a0) (e := byteD) rfl rfl rfl rfl ?_
  obtain ⟨r10, e10, h⟩ := bind_some h
  refine RegV.callS (q := false) (H' := [(0, (.tok ((List.map byteD r10).length * 1)))]) (c' := 1) (show ACalls P (N 25) [(.d (.int .i64 ((a0.length : Nat) : Int)))] [] (.ap 0 1 (List.map byteD r10)) [(0, (.tok ((List.map byteD r10).length * 1)))] from ACalls.use (F25 hmix hc.2 e10) [(0, 0)] 1 rfl) rfl rfl rfl rfl (.cons (.refl _) .nil) (.refl _) (fun h => by cases h) rfl hasNil rfl rfl rfl rfl ?_
  refine RegV.p0 rfl rfl rfl ?_
  obtain ⟨b12, h⟩ := gd_some h
  refine RegV.appA (xs := r10) (ys := a0) (e := byteD) (H1 := []) rfl rfl rfl rfl (fun _ => rfl) rfl rfl b12 rfl rfl rfl ?_
  refine RegV.p0 rfl rfl rfl ?_
  refine RegV.nil0 ?_
  have hr := Option.some.inj h
  subst hr
  exact AWc.ret (canQ (N := 8) (k := 1) (l' := [(2, (.ap 0 1 (List.map byteD (r10 ++ a0))))]) (H' := [(0, (.tok ((List.map byteD (r10 ++ a0)).length * 1)))]) rfl ⟨rfl, [], [(0, 1)], rfl, rfl, ⟨⟨_, rfl, (.refl _)⟩, rfl, trivial⟩, ⟨⟨_, rfl, (.refl _)⟩, rfl, rfl, trivial⟩⟩ (doneA (.inr rfl) rfl ⟨trivial, trivial⟩ (.refl _) (hasCons rfl hasNil)))
/-- slices.Grow[[]byte,byte] -/
def C111 (N : Nat → Nat) : AFunc := { n := 27, params := 2, res := [.tmp 4], body :=
 (.seq (.region false [⟨(some 4), .mv (.k .nils), none, []⟩])
  (.seq (.seq (.region false [⟨(some 5), .mv (.t 1), none, []⟩,
     ⟨(some 6), .bin .lss (.t 5) (.k (.d (.int .i64 0))), none, [0]⟩])
    (.cond (.t 6) (.region false [⟨(some 7), .bad, none, []⟩,
      ⟨none, .bad, none, [0]⟩])
     (.skip)))
   (.seq (.seq (.region false [⟨(some 8), .mv (.t 1), none, []⟩,
      ⟨(some 9), .mv (.t 0), none, []⟩,
      ⟨(some 10), .cap (.t 9), none, [1]⟩,
      ⟨(some 11), .mv (.t 0), none, []⟩,
      ⟨(some 12), .len (.t 11), none, [3]⟩,
      ⟨(some 13), .bin .sub (.t 10) (.t 12), none, [2, 4]⟩,
      ⟨(some 14), .bin .sub (.t 8) (.t 13), none, [0, 5]⟩,
      ⟨(some 1), .mv (.t 14), none, [6, 0, 1, 2, 3, 4, 5]⟩])
     (.seq (.region false [⟨(some 15), .mv (.t 1), none, []⟩,
       ⟨(some 16), .bin .gtr (.t 15) (.k (.d (.int .i64 0))), none, [0]⟩])
      (.cond (.t 16) (.region false [⟨(some 17), .mv (.t 0), none, []⟩,
        ⟨(some 18), .mv (.t 0), none, []⟩,
        ⟨(some 19), .cap (.t 18), none, [1]⟩,
        ⟨(some 20), .slc (.t 17) none (some (.t 19)) none 1, none, [0, 2]⟩,
        ⟨(some 21), .mv (.t 1), none, []⟩,
        ⟨(some 22), .grow (.t 20) (.t 21) 1 1 [(.int .u8 0)], none, [3, 4]⟩,
        ⟨(some 23), .mv (.t 0), none, []⟩,
        ⟨(some 24), .len (.t 23), none, [6]⟩,
        ⟨(some 25), .slc (.t 22) none (some (.t 24)) none 1, none, [5, 7]⟩,
        ⟨(some 0), .mv (.t 25), none, [8, 5, 0, 1, 2, 3, 4, 6, 7]⟩])
       (.skip))))
    (.seq (.region false [⟨(some 26), .mv (.t 0), none, []⟩,
      ⟨(some 4), .mv (.t 26), none, [0]⟩])
     .ret)))) }
def HC111 (P : Program) (N : Nat → Nat) : Prop := HasF P (N 111) (C111 N)
def f111 (k : Nat) (a0 : Int) : Option Unit := gd (0 ≤ a0 ∧ a0 * 1 ≤ 281474976710656) (some ())
theorem F111 {P : Program} {N : Nat → Nat} (hmix : P.follows .mixedOrders = true) (hc : HC111 P N) {k : Nat} {a0 : Int} {r : Unit} (h : f111 k a0 = some r) :
    ACalls P (N 111) [.nils, .d (.int .i64 a0)] [] (.ap 0 1 (List.map byteD ([] : List UInt8))) [(0, (.tok ((List.map byteD ([] : List UInt8)).length * 1)))] := by
  unfold f111 at h
  obtain ⟨⟨b, b'⟩, h⟩ := gd_some h
  exact grow_gen hmix hc rfl rfl rfl b b' (by omega)
/-- slices.Concat[[]byte,byte] -/
def C91 (N : Nat → Nat) : AFunc := { n := 36, params := 1, res := [.tmp 2], body :=
 (.seq (.region false [⟨(some 2), .mv (.k .nils), none, []⟩])
  (.seq (.region false [⟨(some 3), .mv (.k (.d (.int .i64 0))), none, []⟩])
   (.seq (.seq (.region false [⟨(some 9), .mv (.t 0), none, []⟩,
      ⟨(some 10), .len (.t 9), none, [0]⟩,
      ⟨(some 11), .mv (.k (.d (.int .i64 0))), none, []⟩])
     (.block 0 (.loop (.seq (.region false [⟨(some 12), .bin .lss (.t 11) (.t 10), none, []⟩])
        (.seq (.cond (.t 12) (.skip)
          (.exit 0))
         (.seq (.block 1 (.seq (.region false [⟨(some 13), .iaddr (.t 9) (.t 11) 1, none, []⟩,
             ⟨(some 14), .load (.t 13) 1 false, none, [0]⟩,
             ⟨(some 5), .mv (.t 14), none, [1, 0]⟩])
            (.seq (.region false [⟨(some 15), .mv (.t 3), none, []⟩,
              ⟨(some 16), .mv (.t 5), none, []⟩,
              ⟨(some 17), .len (.t 16), none, [1]⟩,
              ⟨(some 18), .bin .add (.t 15) (.t 17), none, [0, 2]⟩,
              ⟨(some 3), .mv (.t 18), none, [3, 0, 1, 2]⟩])
             (.seq (.region false [⟨(some 19), .mv (.t 3), none, []⟩,
               ⟨(some 20), .bin .lss (.t 19) (.k (.d (.int .i64 0))), none, [0]⟩])
              (.cond (.t 20) (.region false [⟨(some 21), .bad, none, []⟩,
                ⟨none, .bad, none, [0]⟩])
               (.skip))))))
          (.region false [⟨(some 22), .bin .add (.t 11) (.k (.d (.int .i64 1))), none, []⟩,
           ⟨(some 11), .mv (.t 22), none, [0]⟩])))))))
    (.seq (.region false [⟨(some 23), .mv (.t 3), none, []⟩,
      ⟨(some 24), .call (.k (.d (.fn (N 111)))) [(.k .nils), (.t 23)], none, [0]⟩,
      ⟨(some 6), .mv (.t 24), none, [1, 0]⟩])
     (.seq (.seq (.region false [⟨(some 25), .mv (.t 0), none, []⟩,
        ⟨(some 26), .len (.t 25), none, [0]⟩,
        ⟨(some 27), .mv (.k (.d (.int .i64 0))), none, []⟩])
       (.block 2 (.loop (.seq (.region false [⟨(some 28), .bin .lss (.t 27) (.t 26), none, []⟩])
          (.seq (.cond (.t 28) (.skip)
            (.exit 2))
           (.seq (.block 3 (.seq (.region false [⟨(some 29), .iaddr (.t 25) (.t 27) 1, none, []⟩,
               ⟨(some 30), .load (.t 29) 1 false, none, [0]⟩,
               ⟨(some 8), .mv (.t 30), none, [1, 0]⟩])
              (.region false [⟨(some 31), .mv (.t 6), none, []⟩,
               ⟨(some 32), .mv (.t 8), none, []⟩,
               ⟨(some 33), .app (.t 31) (.t 32) 1 1 [(.int .u8 0)], none, [0, 1]⟩,
               ⟨(some 6), .mv (.t 33), none, [2, 0, 1]⟩])))
            (.region false [⟨(some 34), .bin .add (.t 27) (.k (.d (.int .i64 1))), none, []⟩,
             ⟨(some 27), .mv (.t 34), none, [0]⟩])))))))
      (.seq (.region false [⟨(some 35), .mv (.t 6), none, []⟩,
        ⟨(some 2), .mv (.t 35), none, [0]⟩])
       .ret)))))) }
def HC91 (P : Program) (N : Nat → Nat) : Prop := HasF P (N 91) (C91 N) ∧ HC111 P N
def f91_l70 (a0 : (List (List UInt8))) : Nat → (List UInt8) → Int → Option (LR2 (List UInt8) Unit (List UInt8))
  | 0, _, _ => none
  | k + 1, y70_1, y70_2 => cond (decide (y70_2 < ((a0.length : Nat) : Int))) (gd (0 ≤ y70_2 ∧ y70_2 < ((a0.length : Nat) : Int)) (gd ((y70_1.length + (rd a0 y70_2).length) * 2 * 1 ≤ 281474976710656) (f91_l70 a0 k (y70_1 ++ (rd a0 y70_2)) (IntKind.i64.wrap (y70_2 + (1 : Int)))))) (some (.b0 y70_1))
def f91_j57 (k : Nat) (a0 : (List (List UInt8))) (j57_1 : Int) : Option (List UInt8) := (f111 k j57_1).bind fun r61 => (f91_l70 a0 k ([] : List UInt8) (0 : Int)).bind fun o70 => match o70 with | .b0 x70_1 => some x70_1 | _ => none
def f91_l16 (a0 : (List (List UInt8))) : Nat → Int → Int → Option (LR2 Int Unit (List UInt8))
  | 0, _, _ => none
  | k + 1, y16_1, y16_2 => cond (decide (y16_2 < ((a0.length : Nat) : Int))) (gd (0 ≤ y16_2 ∧ y16_2 < ((a0.length : Nat) : Int)) (cond (decide ((IntKind.i64.wrap (y16_1 + (((rd a0 y16_2).length : Nat) : Int))) < (0 : Int))) (none) (f91_l16 a0 k (IntKind.i64.wrap (y16_1 + (((rd a0 y16_2).length : Nat) : Int))) (IntKind.i64.wrap (y16_2 + (1 : Int)))))) (some (.b0 y16_1))
def f91 (k : Nat) (a0 : (List (List UInt8))) : Option (List UInt8) := (f91_l16 a0 k (0 : Int) (0 : Int)).bind fun o16 => match o16 with | .b0 x16_1 => f91_j57 k a0 x16_1 | _ => none
theorem F91 {P : Program} {N : Nat → Nat} (hmix : P.follows .mixedOrders = true) (hc : HC91 P N) {k : Nat} {a0 : (List (List UInt8))} {r : (List UInt8)} (h : f91 k a0 = some r) :
    ACalls P (N 91) [(.d (.sl (List.map (slE byteD) a0)))] [] (.ap 0 1 (List.map byteD r)) [(0, (.tok ((List.map byteD r).length * 1)))] := by
  refine acalls_canon (F := C91 N) hc.1 0 1 rfl ?_
  unfold f91 at h
  dsimp only [C91, startL]
  refine AWc.seq ?_
  refine AWc.rg hmix rfl rfl ?_
  refine RegV.p0 rfl rfl rfl ?_
  refine RegV.nil0 ?_
  refine AWc.seq ?_
  refine AWc.rg hmix rfl rfl ?_
  refine RegV.p0 rfl rfl rfl ?_
  refine RegV.nil0 ?_
  refine AWc.seqS (N := 36) 0 (fun (z : Int) => [(0, (.d (.sl (List.map (slE byteD) a0)))), (3, (.d (.int .i64 z)))]) (fun z => []) (fun z => f91_j57 k a0 z = some r) rfl_le ?_ ?_
  · refine AWc.seq ?_
    refine AWc.rg hmix rfl rfl ?_
    refine RegV.p0 rfl rfl rfl ?_
    refine RegV.len (xs := a0) (e := (slE byteD)) rfl rfl rfl rfl ?_
    refine RegV.p0 rfl rfl rfl ?_
    refine RegV.nil0 ?_
    obtain ⟨o16, h16, h⟩ := bind_some h
    refine AWc.block ?_
    refine AWc.loopK (N := 36) 0 (fun (x : (Int × Int)) => [(0, (.d (.sl (List.map (slE byteD) a0)))), (3, (.d (.int .i64 x.1))), (9, (.d (.sl (List.map (slE byteD) a0)))), (10, (.d (.int .i64 ((a0.length : Nat) : Int)))), (11, (.d (.int .i64 x.2)))]) (fun x => []) (fun k x => f91_l16 a0 k x.1 x.2 = some o16) k ((0 : Int), (0 : Int)) rfl_le (fun x hx => by cases hx) h16 ⟨rfl, [], [], rfl, rfl, ⟨⟨_, rfl, (.refl _)⟩, rfl, ⟨⟨_, rfl, (.refl _)⟩, rfl, ⟨⟨_, rfl, (.refl _)⟩, rfl, ⟨⟨_, rfl, (.refl _)⟩, rfl, ⟨⟨_, rfl, (.refl _)⟩, rfl, trivial⟩⟩⟩⟩⟩,  trivial⟩ ?_
    clear h16
    intro k
    rintro ⟨y16_1, y16_2⟩ h16
    dsimp only at h16 ⊢
    rw [f91_l16] at h16
    refine AWc.seq ?_
    refine AWc.rg hmix rfl rfl ?_
    refine RegV.p0 (v := (.d (.bool (decide (y16_2 < ((a0.length : Nat) : Int)))))) rfl rfl rfl ?_
    refine RegV.nil0 ?_
    refine AWc.seq ?_
    refine AWc.cond rfl (fun c23 => ?_) (fun c23 => ?_)
    · have h16 := cond_pos c23 h16
      refine AWc.skip ?_
      refine AWc.seq ?_
      refine AWc.block ?_
      refine AWc.seq ?_
      refine AWc.rg hmix rfl rfl ?_
      obtain ⟨b31, h16⟩ := gd_some h16
      refine RegV.iad (xs := a0) (e := (slE byteD)) rfl rfl rfl rfl (fun _ => rfl) b31 rfl ?_
      refine RegV.p0 (v := (.d (.sl (List.map byteD (rd a0 y16_2))))) rfl rfl rfl ?_
      refine RegV.p0 rfl rfl rfl ?_
      refine RegV.nil0 ?_
      refine AWc.seq ?_
      refine AWc.rg hmix rfl rfl ?_
      refine RegV.p0 rfl rfl rfl ?_
      refine RegV.p0 rfl rfl rfl ?_
      refine RegV.len (xs := (rd a0 y16_2)) (e := byteD) rfl rfl rfl rfl ?_
      refine RegV.p0 (v := (.d (.int .i64 (IntKind.i64.wrap (y16_1 + (((rd a0 y16_2).length : Nat) : Int)))))) rfl rfl rfl ?_
      refine RegV.p0 rfl rfl rfl ?_
      refine RegV.nil0 ?_
      refine AWc.seq ?_
      refine AWc.rg hmix rfl rfl ?_
      refine RegV.p0 rfl rfl rfl ?_
      refine RegV.p0 (v := (.d (.bool (decide ((IntKind.i64.wrap (y16_1 + (((rd a0 y16_2).length : Nat) : Int))) < (0 : Int)))))) rfl rfl rfl ?_
      refine RegV.nil0 ?_
      refine AWc.cond rfl (fun c47 => ?_) (fun c47 => ?_)
      · have h16 := cond_pos c47 h16
        refine AWc.rg hmix rfl rfl ?_
        cases h16
      · have h16 := cond_neg c47 h16
        refine AWc.skip ?_
        refine AWc.rg hmix rfl rfl ?_
        refine RegV.p0 (v := (.d (.int .i64 (IntKind.i64.wrap (y16_2 + (1 : Int)))))) rfl rfl rfl ?_
        refine RegV.p0 rfl rfl rfl ?_
        refine RegV.nil0 ?_
        exact ⟨((IntKind.i64.wrap (y16_1 + (((rd a0 y16_2).length : Nat) : Int))), (IntKind.i64.wrap (y16_2 + (1 : Int)))), h16, ⟨rfl, [], [], rfl, rfl, ⟨⟨_, rfl, (.refl _)⟩, rfl, ⟨⟨_, rfl, (.refl _)⟩, rfl, ⟨⟨_, rfl, (.refl _)⟩, rfl, ⟨⟨_, rfl, (.refl _)⟩, rfl, ⟨⟨_, rfl, (.refl _)⟩, rfl, trivial⟩⟩⟩⟩⟩,  trivial⟩⟩
    · have h16 := cond_neg c23 h16
      cases h16
      dsimp only at h
      refine AWc.exit ?_
      refine inBlk_eq ?_
      exact ⟨y16_1, h, ⟨rfl, [], [], rfl, rfl, ⟨⟨_, rfl, (.refl _)⟩, rfl, ⟨⟨_, rfl, (.refl _)⟩, rfl, trivial⟩⟩,  trivial⟩⟩
  · intro j57_1 h
    unfold f91_j57 at h
    refine AWc.seq ?_
    refine AWc.rg hmix rfl rfl ?_
    refine RegV.p0 rfl rfl rfl ?_
    obtain ⟨r61, e61, h⟩ := bind_some h
    refine RegV.callS (q := false) (H' := [(0, (.tok ((List.map byteD ([] : List UInt8)).length * 1)))]) (c' := 1) (show ACalls P (N 111) [.nils, (.d (.int .i64 j57_1))] [] (.ap 0 1 (List.map byteD ([] : List UInt8))) [(0, (.tok ((List.map byteD ([] : List UInt8)).length * 1)))] from ACalls.use (F111 hmix hc.2 e61) [(0, 0)] 1 rfl) rfl rfl rfl rfl (.cons (.refl _) (.cons (.refl _) .nil)) (.refl _) (fun h => by cases h) rfl hasNil rfl rfl rfl rfl ?_
    refine RegV.p0 rfl rfl rfl ?_
    refine RegV.nil0 ?_
    refine AWc.seq ?_
    refine AWc.seq ?_
    refine AWc.rg hmix rfl rfl ?_
    refine RegV.p0 rfl rfl rfl ?_
    refine RegV.len (xs := a0) (e := (slE byteD)) rfl rfl rfl rfl ?_
    refine RegV.p0 rfl rfl rfl ?_
    refine RegV.nil0 ?_
    obtain ⟨o70, h70, h⟩ := bind_some h
    refine AWc.block ?_
    refine AWc.loopK (N := 36) 1 (fun (x : ((List UInt8) × Int)) => [(6, (.ap 0 1 (List.map byteD x.1))), (25, (.d (.sl (List.map (slE byteD) a0)))), (26, (.d (.int .i64 ((a0.length : Nat) : Int)))), (27, (.d (.int .i64 x.2)))]) (fun x => [(0, (.tok ((List.map byteD x.1).length * 1)))]) (fun k x => f91_l70 a0 k x.1 x.2 = some o70) k (([] : List UInt8), (0 : Int)) rfl_le (fun x hx => by cases hx) h70 ⟨rfl, [], [], rfl, rfl, ⟨⟨_, rfl, (.refl _)⟩, rfl, ⟨⟨_, rfl, (.refl _)⟩, rfl, ⟨⟨_, rfl, (.refl _)⟩, rfl, ⟨⟨_, rfl, (.refl _)⟩, rfl, trivial⟩⟩⟩⟩, ⟨⟨_, rfl, (.refl _)⟩, rfl, rfl, trivial⟩⟩ ?_
    clear h70
    intro k
    rintro ⟨y70_1, y70_2⟩ h70
    dsimp only at h70 ⊢
    rw [f91_l70] at h70
    refine AWc.seq ?_
    refine AWc.rg hmix rfl rfl ?_
    refine RegV.p0 (v := (.d (.bool (decide (y70_2 < ((a0.length : Nat) : Int)))))) rfl rfl rfl ?_
    refine RegV.nil0 ?_
    refine AWc.seq ?_
    refine AWc.cond rfl (fun c77 => ?_) (fun c77 => ?_)
    · have h70 := cond_pos c77 h70
      refine AWc.skip ?_
      refine AWc.seq ?_
      refine AWc.block ?_
      refine AWc.seq ?_
      refine AWc.rg hmix rfl rfl ?_
      obtain ⟨b85, h70⟩ := gd_some h70
      refine RegV.iad (xs := a0) (e := (slE byteD)) rfl rfl rfl rfl (fun _ => rfl) b85 rfl ?_
      refine RegV.p0 (v := (.d (.sl (List.map byteD (rd a0 y70_2))))) rfl rfl rfl ?_
      refine RegV.p0 rfl rfl rfl ?_
      refine RegV.nil0 ?_
      refine AWc.rg hmix rfl rfl ?_
      refine RegV.p0 rfl rfl rfl ?_
      refine RegV.p0 rfl rfl rfl ?_
      obtain ⟨b92, h70⟩ := gd_some h70
      refine RegV.appA (xs := y70_1) (ys := (rd a0 y70_2)) (e := byteD) (H1 := []) rfl rfl rfl rfl (fun _ => rfl) rfl rfl b92 rfl rfl rfl ?_
      refine RegV.p0 rfl rfl rfl ?_
      refine RegV.nil0 ?_
      refine AWc.rg hmix rfl rfl ?_
      refine RegV.p0 (v := (.d (.int .i64 (IntKind.i64.wrap (y70_2 + (1 : Int)))))) rfl rfl rfl ?_
      refine RegV.p0 rfl rfl rfl ?_
      refine RegV.nil0 ?_
      exact ⟨((y70_1 ++ (rd a0 y70_2)), (IntKind.i64.wrap (y70_2 + (1 : Int)))), h70, ⟨rfl, [], [(0, 1)], rfl, rfl, ⟨⟨_, rfl, (.refl _)⟩, rfl, ⟨⟨_, rfl, (.refl _)⟩, rfl, ⟨⟨_, rfl, (.refl _)⟩, rfl, ⟨⟨_, rfl, (.refl _)⟩, rfl, trivial⟩⟩⟩⟩, ⟨⟨_, rfl, (.refl _)⟩, rfl, rfl, trivial⟩⟩⟩
    · have h70 := cond_neg c77 h70
      cases h70
      dsimp only at h
      refine AWc.exit ?_
      refine inBlk_eq ?_
      refine AWc.seq ?_
      refine AWc.rg hmix rfl rfl ?_
      refine RegV.p0 rfl rfl rfl ?_
      refine RegV.p0 rfl rfl rfl ?_
      refine RegV.nil0 ?_
      have hr := Option.some.inj h
      subst hr
      exact AWc.ret (canQ (N := 36) (k := 1) (l' := [(2, (.ap 0 1 (List.map byteD y70_1)))]) (H' := [(0, (.tok ((List.map byteD y70_1).length * 1)))]) rfl ⟨rfl, [], [], rfl, rfl, ⟨⟨_, rfl, (.refl _)⟩, rfl, trivial⟩, ⟨⟨_, rfl, (.refl _)⟩, rfl, rfl, trivial⟩⟩ (doneA (.inr rfl) rfl ⟨trivial, trivial⟩ (.refl _) (hasCons rfl hasNil)))
/-- courant/batch.Bytes -/
def C54 (N : Nat → Nat) : AFunc := { n := 17, params := 1, res := [.tmp 2], body :=
 (.seq (.region false [⟨(some 1), .box (.t 0), none, []⟩,
   ⟨(some 2), .mv (.k .nils), none, []⟩])
  (.seq (.region true [⟨(some 3), .faddr (.t 1) 1, none, []⟩,
    ⟨(some 4), .load (.t 3) 1 false, none, [0]⟩,
    ⟨(some 5), .call (.k (.d (.fn (N 23)))) [(.t 4)], none, [1]⟩,
    ⟨(some 6), .faddr (.t 1) 2, none, []⟩,
    ⟨(some 7), .load (.t 6) 1 false, none, [3]⟩,
    ⟨(some 8), .call (.k (.d (.fn (N 23)))) [(.t 7)], none, [4, 2]⟩,
    ⟨(some 9), .faddr (.t 1) 3, none, []⟩,
    ⟨(some 10), .load (.t 9) 1 false, none, [6]⟩,
    ⟨(some 11), .call (.k (.d (.fn (N 25)))) [(.t 10)], none, [7, 5]⟩,
    ⟨(some 12), .faddr (.t 1) 4, none, []⟩,
    ⟨(some 13), .load (.t 12) 1 false, none, [9]⟩,
    ⟨(some 14), .call (.k (.d (.fn (N 27)))) [(.t 13)], none, [10, 8]⟩,
    ⟨(some 15), .bslice 4 1 [(.sl [])] [(0, (.t 5)), (1, (.t 8)), (2, (.t 11)), (3, (.t 14))], none, [2, 5, 8, 11]⟩,
    ⟨(some 16), .call (.k (.d (.fn (N 91)))) [(.t 15)], none, [12, 11]⟩,
    ⟨(some 2), .mv (.t 16), none, [13, 0, 1, 2, 3, 4, 5, 6, 7, 8, 9, 10, 11, 12]⟩])
   .ret)) }
def HC54 (P : Program) (N : Nat → Nat) : Prop := HasF P (N 54) (C54 N) ∧ HC23 P N ∧ HC25 P N ∧ HC27 P N ∧ HC91 P N
def f54 (k : Nat) (a0 : TMessage) : Option (List UInt8) := (f23 k a0.fProducer).bind fun r11 => (f23 k a0.fSeq).bind fun r14 => (f25 k a0.fVersion).bind fun r17 => (f27 k a0.fData).bind fun r20 => (f91 k ([r11, r14, r17, r20] : List (List UInt8))).bind fun r22 => some r22
theorem F54 {P : Program} {N : Nat → Nat} (hmix : P.follows .mixedOrders = true) (hc : HC54 P N) {k : Nat} {a0 : TMessage} {r : (List UInt8)} (h : f54 k a0 = some r) :
    ACalls P (N 54) [(.d (TMessage.enc a0))] [] (.ap 0 1 (List.map byteD r)) [(0, (.tok ((List.map byteD r).length * 1)))] := by
  refine acalls_canon (F := C54 N) hc.1 0 1 rfl ?_
  unfold f54 at h
  dsimp only [C54, startL]
  refine AWc.seq ?_
  refine AWc.rg hmix rfl rfl ?_
  refine RegV.evS (own := false) (v := (.ptr 0 0)) (H' := [(0, (.cells [(.d (.int .u64 a0.fOffset)), (.d (.int .u64 a0.fProducer)), (.d (.int .u64 a0.fSeq)), (.d (.int .i64 a0.fVersion)), (.d (.sl (List.map byteD a0.fData)))]))]) (c' := 1) rfl rfl trivial rfl rfl rfl rfl rfl rfl ?_
  refine RegV.p0 rfl rfl rfl ?_
  refine RegV.nil0 ?_
  refine AWc.seq ?_
  refine AWc.rg hmix rfl rfl ?_
  refine RegV.p0 (v := (.ptr 0 1)) rfl rfl rfl ?_
  refine RegV.ld (v := (.d (.int .u64 a0.fProducer))) (H' := [(0, (.cells [(.d (.int .u64 a0.fOffset)), (.d (.int .u64 a0.fProducer)), (.d (.int .u64 a0.fSeq)), (.d (.int .i64 a0.fVersion)), (.d (.sl (List.map byteD a0.fData)))]))]) rfl rfl trivial rfl rfl rfl rfl rfl ?_
  obtain ⟨r11, e11, h⟩ := bind_some h
  refine RegV.callS (q := false) (H' := [(1, (.tok ((List.map byteD r11).length * 1))), (0, (.cells [(.d (.int .u64 a0.fOffset)), (.d (.int .u64 a0.fProducer)), (.d (.int .u64 a0.fSeq)), (.d (.int .i64 a0.fVersion)), (.d (.sl (List.map byteD a0.fData)))]))]) (c' := 2) (show ACalls P (N 23) [(.d (.int .u64 a0.fProducer))] [] (.ap 1 1 (List.map byteD r11)) [(1, (.tok ((List.map byteD r11).length * 1)))] from ACalls.use (F23 hmix hc.2.1 e11) [(0, 1)] 1 rfl) rfl rfl rfl rfl (.cons (.refl _) .nil) (.refl _) (fun h => by cases h) rfl hasNil rfl rfl rfl rfl ?_
  refine RegV.p0 (v := (.ptr 0 2)) rfl rfl rfl ?_
  refine RegV.ld (v := (.d (.int .u64 a0.fSeq))) (H' := [(0, (.cells [(.d (.int .u64 a0.fOffset)), (.d (.int .u64 a0.fProducer)), (.d (.int .u64 a0.fSeq)), (.d (.int .i64 a0.fVersion)), (.d (.sl (List.map byteD a0.fData)))])), (1, (.tok ((List.map byteD r11).length * 1)))]) rfl rfl trivial rfl rfl rfl rfl rfl ?_
  obtain ⟨r14, e14, h⟩ := bind_some h
  refine RegV.callS (q := false) (H' := [(2, (.tok ((List.map byteD r14).length * 1))), (0, (.cells [(.d (.int .u64 a0.fOffset)), (.d (.int .u64 a0.fProducer)), (.d (.int .u64 a0.fSeq)), (.d (.int .i64 a0.fVersion)), (.d (.sl (List.map byteD a0.fData)))])), (1, (.tok ((List.map byteD r11).length * 1)))]) (c' := 3) (show ACalls P (N 23) [(.d (.int .u64 a0.fSeq))] [] (.ap 2 1 (List.map byteD r14)) [(2, (.tok ((List.map byteD r14).length * 1)))] from ACalls.use (F23 hmix hc.2.1 e14) [(0, 2)] 1 rfl) rfl rfl rfl rfl (.cons (.refl _) .nil) (.refl _) (fun h => by cases h) rfl hasNil rfl rfl rfl rfl ?_
  refine RegV.p0 (v := (.ptr 0 3)) rfl rfl rfl ?_
  refine RegV.ld (v := (.d (.int .i64 a0.fVersion))) (H' := [(0, (.cells [(.d (.int .u64 a0.fOffset)), (.d (.int .u64 a0.fProducer)), (.d (.int .u64 a0.fSeq)), (.d (.int .i64 a0.fVersion)), (.d (.sl (List.map byteD a0.fData)))])), (2, (.tok ((List.map byteD r14).length * 1))), (1, (.tok ((List.map byteD r11).length * 1)))]) rfl rfl trivial rfl rfl rfl rfl rfl ?_
  obtain ⟨r17, e17, h⟩ := bind_some h
  refine RegV.callS (q := false) (H' := [(3, (.tok ((List.map byteD r17).length * 1))), (0, (.cells [(.d (.int .u64 a0.fOffset)), (.d (.int .u64 a0.fProducer)), (.d (.int .u64 a0.fSeq)), (.d (.int .i64 a0.fVersion)), (.d (.sl (List.map byteD a0.fData)))])), (2, (.tok ((List.map byteD r14).length * 1))), (1, (.tok ((List.map byteD r11).length * 1)))]) (c' := 4) (show ACalls P (N 25) [(.d (.int .i64 a0.fVersion))] [] (.ap 3 1 (List.map byteD r17)) [(3, (.tok ((List.map byteD r17).length * 1)))] from ACalls.use (F25 hmix hc.2.2.1 e17) [(0, 3)] 1 rfl) rfl rfl rfl rfl (.cons (.refl _) .nil) (.refl _) (fun h => by cases h) rfl hasNil rfl rfl rfl rfl ?_
  refine RegV.p0 (v := (.ptr 0 4)) rfl rfl rfl ?_
  refine RegV.ld (v := (.d (.sl (List.map byteD a0.fData)))) (H' := [(0, (.cells [(.d (.int .u64 a0.fOffset)), (.d (.int .u64 a0.fProducer)), (.d (.int .u64 a0.fSeq)), (.d (.int .i64 a0.fVersion)), (.d (.sl (List.map byteD a0.fData)))])), (3, (.tok ((List.map byteD r17).length * 1))), (2, (.tok ((List.map byteD r14).length * 1))), (1, (.tok ((List.map byteD r11).length * 1)))]) rfl rfl trivial rfl rfl rfl rfl rfl ?_
  obtain ⟨r20, e20, h⟩ := bind_some h
  refine RegV.callS (q := false) (H' := [(4, (.tok ((List.map byteD r20).length * 1))), (0, (.cells [(.d (.int .u64 a0.fOffset)), (.d (.int .u64 a0.fProducer)), (.d (.int .u64 a0.fSeq)), (.d (.int .i64 a0.fVersion)), (.d (.sl (List.map byteD a0.fData)))])), (3, (.tok ((List.map byteD r17).length * 1))), (2, (.tok ((List.map byteD r14).length * 1))), (1, (.tok ((List.map byteD r11).length * 1)))]) (c' := 5) (show ACalls P (N 27) [(.d (.sl (List.map byteD a0.fData)))] [] (.ap 4 1 (List.map byteD r20)) [(4, (.tok ((List.map byteD r20).length * 1)))] from ACalls.use (F27 hmix hc.2.2.2.1 e20) [(0, 4)] 1 rfl) rfl rfl rfl rfl (.cons (.refl _) .nil) (.refl _) (fun h => by cases h) rfl hasNil rfl rfl rfl rfl ?_
  refine RegV.p1 (v := (.d (.sl (List.map (slE byteD) ([r11, r14, r17, r20] : List (List UInt8)))))) rfl rfl (by exact ⟨rfl, Nat.le_of_ble_eq_true rfl, mapLen (e := (slE byteD)) (xs := ([r11, r14, r17, r20] : List (List UInt8))) (z := 1) (fun _ => rfl)⟩) rfl rfl ?_
  obtain ⟨r22, e22, h⟩ := bind_some h
  refine RegV.callS (q := false) (H' := [(5, (.tok ((List.map byteD r22).length * 1))), (4, (.tok ((List.map byteD r20).length * 1))), (0, (.cells [(.d (.int .u64 a0.fOffset)), (.d (.int .u64 a0.fProducer)), (.d (.int .u64 a0.fSeq)), (.d (.int .i64 a0.fVersion)), (.d (.sl (List.map byteD a0.fData)))])), (3, (.tok ((List.map byteD r17).length * 1))), (2, (.tok ((List.map byteD r14).length * 1))), (1, (.tok ((List.map byteD r11).length * 1)))]) (c' := 6) (show ACalls P (N 91) [(.d (.sl (List.map (slE byteD) ([r11, r14, r17, r20] : List (List UInt8)))))] [] (.ap 5 1 (List.map byteD r22)) [(5, (.tok ((List.map byteD r22).length * 1)))] from ACalls.use (F91 hmix hc.2.2.2.2 e22) [(0, 5)] 1 rfl) rfl rfl rfl rfl (.cons (.refl _) .nil) (.refl _) (fun h => by cases h) rfl hasNil rfl rfl rfl rfl ?_
  refine RegV.p0 rfl rfl rfl ?_
  refine RegV.nil1 (by kernel_rfl) ?_
  have hr := Option.some.inj h
  subst hr
  exact AWc.ret (canQ (N := 17) (k := 1) (l' := [(2, (.ap 0 1 (List.map byteD r22)))]) (H' := [(0, (.tok ((List.map byteD r22).length * 1)))]) rfl ⟨rfl, [], [(0, 5)], rfl, rfl, ⟨⟨_, rfl, (.refl _)⟩, rfl, trivial⟩, ⟨⟨_, rfl, (.refl _)⟩, rfl, rfl, trivial⟩⟩ (doneA (.inr rfl) rfl ⟨trivial, trivial⟩ (.refl _) (hasCons rfl hasNil)))
/-- courant/courantlaw24.awake -/
def C33 (N : Nat → Nat) : AFunc := { n := 31, params := 0, res := [.tmp 0], body :=
 (.seq (.region false [⟨(some 0), .mv (.k (.d (.bool false))), none, []⟩])
  (.seq (.region false [⟨(some 2), .build [(.int .u64 0), (.int .u64 0), (.int .u64 0), (.int .i64 0), (.sl [])] [(1, 1, (.k (.d (.int .u64 1)))), (2, 1, (.k (.d (.int .u64 2)))), (3, 1, (.k (.d (.int .i64 3))))], none, []⟩,
    ⟨(some 3), .call (.k (.d (.fn (N 54)))) [(.t 2)], none, [0]⟩,
    ⟨(some 1), .mv (.t 3), none, [1, 0]⟩])
   (.seq (.region false [⟨(some 4), .mv (.t 1), none, []⟩,
     ⟨(some 5), .len (.t 4), none, [0]⟩,
     ⟨(some 6), .bin .eql (.t 5) (.k (.d (.int .i64 4))), none, [1]⟩,
     ⟨(some 7), .mv (.t 6), none, [2]⟩,
     ⟨(some 8), .mv (.t 1), (some (7, true)), [3]⟩,
     ⟨(some 9), .iaddr (.t 8) (.k (.d (.int .i64 0))) 1, (some (7, true)), [4, 3]⟩,
     ⟨(some 10), .load (.t 9) 1 false, (some (7, true)), [5, 3]⟩,
     ⟨(some 11), .bin .eql (.t 10) (.k (.d (.int .u8 1))), (some (7, true)), [6, 3]⟩,
     ⟨(some 12), .pick (.t 7) (.t 11) (.k (.d (.bool false))), none, [3, 7]⟩,
     ⟨(some 13), .mv (.t 12), none, [8, 3]⟩,
     ⟨(some 14), .mv (.t 1), (some (13, true)), [9]⟩,
     ⟨(some 15), .iaddr (.t 14) (.k (.d (.int .i64 1))) 1, (some (13, true)), [10, 9]⟩,
     ⟨(some 16), .load (.t 15) 1 false, (some (13, true)), [11, 9]⟩,
     ⟨(some 17), .bin .eql (.t 16) (.k (.d (.int .u8 2))), (some (13, true)), [12, 9]⟩,
     ⟨(some 18), .pick (.t 13) (.t 17) (.k (.d (.bool false))), none, [9, 13]⟩,
     ⟨(some 19), .mv (.t 18), none, [14, 9]⟩,
     ⟨(some 20), .mv (.t 1), (some (19, true)), [15]⟩,
     ⟨(some 21), .iaddr (.t 20) (.k (.d (.int .i64 2))) 1, (some (19, true)), [16, 15]⟩,
     ⟨(some 22), .load (.t 21) 1 false, (some (19, true)), [17, 15]⟩,
     ⟨(some 23), .bin .eql (.t 22) (.k (.d (.int .u8 6))), (some (19, true)), [18, 15]⟩,
     ⟨(some 24), .pick (.t 19) (.t 23) (.k (.d (.bool false))), none, [15, 19]⟩,
     ⟨(some 25), .mv (.t 24), none, [20, 15]⟩,
     ⟨(some 26), .mv (.t 1), (some (25, true)), [21]⟩,
     ⟨(some 27), .iaddr (.t 26) (.k (.d (.int .i64 3))) 1, (some (25, true)), [22, 21]⟩,
     ⟨(some 28), .load (.t 27) 1 false, (some (25, true)), [23, 21]⟩,
     ⟨(some 29), .bin .eql (.t 28) (.k (.d (.int .u8 0))), (some (25, true)), [24, 21]⟩,
     ⟨(some 30), .pick (.t 25) (.t 29) (.k (.d (.bool false))), none, [21, 25]⟩,
     ⟨(some 0), .mv (.t 30), none, [26, 21, 0, 1, 2, 3, 4, 5, 6, 7, 8, 9, 10, 11, 12, 13, 14, 15, 16, 17, 18, 19, 20, 22, 23, 24, 25]⟩])
    .ret))) }
def HC33 (P : Program) (N : Nat → Nat) : Prop := HasF P (N 33) (C33 N) ∧ HC54 P N
def f33 (k : Nat) : Option Bool := (f54 k (TMessage.mk (0 : Int) (1 : Int) (2 : Int) (3 : Int) ([] : List UInt8))).bind fun r9 => cond (decide (((r9.length : Nat) : Int) = (4 : Int))) (gd (0 ≤ (0 : Int) ∧ (0 : Int) < ((r9.length : Nat) : Int)) (cond (decide ((((rd r9 (0 : Int)).toNat : Nat) : Int) = (1 : Int))) (gd (0 ≤ (1 : Int) ∧ (1 : Int) < ((r9.length : Nat) : Int)) (cond (decide ((((rd r9 (1 : Int)).toNat : Nat) : Int) = (2 : Int))) (gd (0 ≤ (2 : Int) ∧ (2 : Int) < ((r9.length : Nat) : Int)) (cond (decide ((((rd r9 (2 : Int)).toNat : Nat) : Int) = (6 : Int))) (gd (0 ≤ (3 : Int) ∧ (3 : Int) < ((r9.length : Nat) : Int)) (some (decide ((((rd r9 (3 : Int)).toNat : Nat) : Int) = (0 : Int))))) (some false))) (some false))) (some false))) (some false)
theorem F33 {P : Program} {N : Nat → Nat} (hmix : P.follows .mixedOrders = true) (hc : HC33 P N) {k : Nat} {r : Bool} (h : f33 k = some r) :
    ACalls P (N 33) [] [] (.d (.bool r)) [] := by
  refine acalls_canon (F := C33 N) hc.1 0 0 rfl ?_
  unfold f33 at h
  dsimp only [C33, startL]
  refine AWc.seq ?_
  refine AWc.rg hmix rfl rfl ?_
  refine RegV.p0 rfl rfl rfl ?_
  refine RegV.nil0 ?_
  refine AWc.seq ?_
  refine AWc.rg hmix rfl rfl ?_
  refine RegV.p1 (v := (.d (.agg [(.int .u64 (0 : Int)), (.int .u64 (1 : Int)), (.int .u64 (2 : Int)), (.int .i64 (3 : Int)), (.sl (List.map byteD ([] : List UInt8)))]))) rfl rfl (by exact ⟨⟨rfl, Nat.le_of_ble_eq_true rfl⟩, ⟨⟨rfl, Nat.le_of_ble_eq_true rfl⟩, ⟨⟨rfl, Nat.le_of_ble_eq_true rfl⟩, trivial⟩⟩⟩) rfl rfl ?_
  obtain ⟨r9, e9, h⟩ := bind_some h
  refine RegV.callS (q := false) (H' := [(0, (.tok ((List.map byteD r9).length * 1)))]) (c' := 1) (show ACalls P (N 54) [(.d (TMessage.enc (TMessage.mk (0 : Int) (1 : Int) (2 : Int) (3 : Int) ([] : List UInt8))))] [] (.ap 0 1 (List.map byteD r9)) [(0, (.tok ((List.map byteD r9).length * 1)))] from ACalls.use (F54 hmix hc.2 e9) [(0, 0)] 1 rfl) rfl rfl rfl rfl (.cons (.refl _) .nil) (.refl _) (fun h => by cases h) rfl hasNil rfl rfl rfl rfl ?_
  refine RegV.p0 rfl rfl rfl ?_
  refine RegV.nil0 ?_
  refine AWc.seq ?_
  refine AWc.rg hmix rfl rfl ?_
  refine RegV.p0 rfl rfl rfl ?_
  refine RegV.len (xs := r9) (e := byteD) rfl rfl rfl rfl ?_
  refine RegV.p0 (v := (.d (.bool (decide (((r9.length : Nat) : Int) = (4 : Int)))))) rfl rfl rfl ?_
  refine RegV.p0 rfl rfl rfl ?_
  refine RegV.split (fun c17 => ?_) (fun c17 => ?_)
  · have h := cond_pos c17 h
    refine RegV.p0 rfl rfl rfl ?_
    obtain ⟨b19, h⟩ := gd_some h
    refine RegV.iad (xs := r9) (e := byteD) rfl rfl rfl rfl (fun _ => rfl) b19 rfl ?_
    refine RegV.p0 (v := (.d (.int .u8 (((rd r9 (0 : Int)).toNat : Nat) : Int)))) rfl rfl rfl ?_
    refine RegV.p0 (v := (.d (.bool (decide ((((rd r9 (0 : Int)).toNat : Nat) : Int) = (1 : Int)))))) rfl rfl rfl ?_
    refine RegV.p0 rfl rfl rfl ?_
    refine RegV.p0 rfl rfl rfl ?_
    refine RegV.split (fun c23 => ?_) (fun c23 => ?_)
    · have h := cond_pos c23 h
      refine RegV.p0 rfl rfl rfl ?_
      obtain ⟨b25, h⟩ := gd_some h
      refine RegV.iad (xs := r9) (e := byteD) rfl rfl rfl rfl (fun _ => rfl) b25 rfl ?_
      refine RegV.p0 (v := (.d (.int .u8 (((rd r9 (1 : Int)).toNat : Nat) : Int)))) rfl rfl rfl ?_
      refine RegV.p0 (v := (.d (.bool (decide ((((rd r9 (1 : Int)).toNat : Nat) : Int) = (2 : Int)))))) rfl rfl rfl ?_
      refine RegV.p0 rfl rfl rfl ?_
      refine RegV.p0 rfl rfl rfl ?_
      refine RegV.split (fun c29 => ?_) (fun c29 => ?_)
      · have h := cond_pos c29 h
        refine RegV.p0 rfl rfl rfl ?_
        obtain ⟨b31, h⟩ := gd_some h
        refine RegV.iad (xs := r9) (e := byteD) rfl rfl rfl rfl (fun _ => rfl) b31 rfl ?_
        refine RegV.p0 (v := (.d (.int .u8 (((rd r9 (2 : Int)).toNat : Nat) : Int)))) rfl rfl rfl ?_
        refine RegV.p0 (v := (.d (.bool (decide ((((rd r9 (2 : Int)).toNat : Nat) : Int) = (6 : Int)))))) rfl rfl rfl ?_
        refine RegV.p0 rfl rfl rfl ?_
        refine RegV.p0 rfl rfl rfl ?_
        refine RegV.split (fun c35 => ?_) (fun c35 => ?_)
        · have h := cond_pos c35 h
          refine RegV.p0 rfl rfl rfl ?_
          obtain ⟨b37, h⟩ := gd_some h
          refine RegV.iad (xs := r9) (e := byteD) rfl rfl rfl rfl (fun _ => rfl) b37 rfl ?_
          refine RegV.p0 (v := (.d (.int .u8 (((rd r9 (3 : Int)).toNat : Nat) : Int)))) rfl rfl rfl ?_
          refine RegV.p0 (v := (.d (.bool (decide ((((rd r9 (3 : Int)).toNat : Nat) : Int) = (0 : Int)))))) rfl rfl rfl ?_
          refine RegV.p0 rfl rfl rfl ?_
          refine RegV.p0 rfl rfl rfl ?_
          refine RegV.nil0 ?_
          have hr := Option.some.inj h
          subst hr
          exact AWc.ret (canQ (N := 31) (k := 0) (l' := [(0, (.d (.bool (decide ((((rd r9 (3 : Int)).toNat : Nat) : Int) = (0 : Int))))))]) (H' := []) rfl ⟨rfl, [], [], rfl, rfl, ⟨⟨_, rfl, (.refl _)⟩, rfl, trivial⟩,  trivial⟩ (doneA (.inr rfl) rfl ⟨trivial, trivial⟩ (.refl _) hasNil))
        · have h := cond_neg c35 h
          refine RegV.noS rfl rfl ?_
          refine RegV.noS rfl rfl ?_
          refine RegV.noS rfl rfl ?_
          refine RegV.noS rfl rfl ?_
          refine RegV.p0 rfl rfl rfl ?_
          refine RegV.p0 rfl rfl rfl ?_
          refine RegV.nil0 ?_
          have hr := Option.some.inj h
          subst hr
          exact AWc.ret (canQ (N := 31) (k := 0) (l' := [(0, (.d (.bool false)))]) (H' := []) rfl ⟨rfl, [], [], rfl, rfl, ⟨⟨_, rfl, (.refl _)⟩, rfl, trivial⟩,  trivial⟩ (doneA (.inr rfl) rfl ⟨trivial, trivial⟩ (.refl _) hasNil))
      · have h := cond_neg c29 h
        refine RegV.noS rfl rfl ?_
        refine RegV.noS rfl rfl ?_
        refine RegV.noS rfl rfl ?_
        refine RegV.noS rfl rfl ?_
        refine RegV.p0 rfl rfl rfl ?_
        refine RegV.p0 rfl rfl rfl ?_
        refine RegV.noS rfl rfl ?_
        refine RegV.noS rfl rfl ?_
        refine RegV.noS rfl rfl ?_
        refine RegV.noS rfl rfl ?_
        refine RegV.p0 rfl rfl rfl ?_
        refine RegV.p0 rfl rfl rfl ?_
        refine RegV.nil0 ?_
        have hr := Option.some.inj h
        subst hr
        exact AWc.ret (canQ (N := 31) (k := 0) (l' := [(0, (.d (.bool false)))]) (H' := []) rfl ⟨rfl, [], [], rfl, rfl, ⟨⟨_, rfl, (.refl _)⟩, rfl, trivial⟩,  trivial⟩ (doneA (.inr rfl) rfl ⟨trivial, trivial⟩ (.refl _) hasNil))
    · have h := cond_neg c23 h
      refine RegV.noS rfl rfl ?_
      refine RegV.noS rfl rfl ?_
      refine RegV.noS rfl rfl ?_
      refine RegV.noS rfl rfl ?_
      refine RegV.p0 rfl rfl rfl ?_
      refine RegV.p0 rfl rfl rfl ?_
      refine RegV.noS rfl rfl ?_
      refine RegV.noS rfl rfl ?_
      refine RegV.noS rfl rfl ?_
      refine RegV.noS rfl rfl ?_
      refine RegV.p0 rfl rfl rfl ?_
      refine RegV.p0 rfl rfl rfl ?_
      refine RegV.noS rfl rfl ?_
      refine RegV.noS rfl rfl ?_
      refine RegV.noS rfl rfl ?_
      refine RegV.noS rfl rfl ?_
      refine RegV.p0 rfl rfl rfl ?_
      refine RegV.p0 rfl rfl rfl ?_
      refine RegV.nil0 ?_
      have hr := Option.some.inj h
      subst hr
      exact AWc.ret (canQ (N := 31) (k := 0) (l' := [(0, (.d (.bool false)))]) (H' := []) rfl ⟨rfl, [], [], rfl, rfl, ⟨⟨_, rfl, (.refl _)⟩, rfl, trivial⟩,  trivial⟩ (doneA (.inr rfl) rfl ⟨trivial, trivial⟩ (.refl _) hasNil))
  · have h := cond_neg c17 h
    refine RegV.noS rfl rfl ?_
    refine RegV.noS rfl rfl ?_
    refine RegV.noS rfl rfl ?_
    refine RegV.noS rfl rfl ?_
    refine RegV.p0 rfl rfl rfl ?_
    refine RegV.p0 rfl rfl rfl ?_
    refine RegV.noS rfl rfl ?_
    refine RegV.noS rfl rfl ?_
    refine RegV.noS rfl rfl ?_
    refine RegV.noS rfl rfl ?_
    refine RegV.p0 rfl rfl rfl ?_
    refine RegV.p0 rfl rfl rfl ?_
    refine RegV.noS rfl rfl ?_
    refine RegV.noS rfl rfl ?_
    refine RegV.noS rfl rfl ?_
    refine RegV.noS rfl rfl ?_
    refine RegV.p0 rfl rfl rfl ?_
    refine RegV.p0 rfl rfl rfl ?_
    refine RegV.noS rfl rfl ?_
    refine RegV.noS rfl rfl ?_
    refine RegV.noS rfl rfl ?_
    refine RegV.noS rfl rfl ?_
    refine RegV.p0 rfl rfl rfl ?_
    refine RegV.p0 rfl rfl rfl ?_
    refine RegV.nil0 ?_
    have hr := Option.some.inj h
    subst hr
    exact AWc.ret (canQ (N := 31) (k := 0) (l' := [(0, (.d (.bool false)))]) (H' := []) rfl ⟨rfl, [], [], rfl, rfl, ⟨⟨_, rfl, (.refl _)⟩, rfl, trivial⟩,  trivial⟩ (doneA (.inr rfl) rfl ⟨trivial, trivial⟩ (.refl _) hasNil))
/-- slices.Backward[[]courant/api.Message,courant/api.Message] -/
def C86 (N : Nat → Nat) : AFunc := { n := 4, params := 1, res := [.tmp 2], body :=
 (.seq (.region false [⟨(some 1), .box (.t 0), none, []⟩,
   ⟨(some 2), .mv (.k (.d .nilf)), none, []⟩])
  (.seq (.region false [⟨(some 3), .mkfn (N 110) [(.t 1)], none, []⟩,
    ⟨(some 2), .mv (.t 3), none, [0]⟩])
   .ret)) }
def HC86 (P : Program) (N : Nat → Nat) : Prop := HasF P (N 86) (C86 N)
def f86 (k : Nat) (a0 : (List TMessage)) : Option Unit := some ()
theorem F86 {P : Program} {N : Nat → Nat} (hmix : P.follows .mixedOrders = true) (hc : HC86 P N) {k : Nat} {a0 : (List TMessage)} {r : Unit} (h : f86 k a0 = some r) :
    ACalls P (N 86) [(.d (.sl (List.map TMessage.enc a0)))] [] (.fn (N 110) [(.ptr 0 0)]) [(0, (.cells [(.d (.sl (List.map TMessage.enc a0)))]))] := by
  refine acalls_canon (F := C86 N) hc 0 1 rfl ?_
  unfold f86 at h
  dsimp only [C86, startL]
  refine AWc.seq ?_
  refine AWc.rg hmix rfl rfl ?_
  refine RegV.evS (own := false) (v := (.ptr 0 0)) (H' := [(0, (.cells [(.d (.sl (List.map TMessage.enc a0)))]))]) (c' := 1) rfl rfl trivial rfl rfl rfl rfl rfl rfl ?_
  refine RegV.p0 rfl rfl rfl ?_
  refine RegV.nil0 ?_
  refine AWc.seq ?_
  refine AWc.rg hmix rfl rfl ?_
  refine RegV.p0 (v := (.fn (N 110) [(.ptr 0 0)])) rfl rfl rfl ?_
  refine RegV.p0 rfl rfl rfl ?_
  refine RegV.nil0 ?_
  have hr := Option.some.inj h
  subst hr
  exact AWc.ret (canQ (N := 4) (k := 1) (l' := [(2, (.fn (N 110) [(.ptr 0 0)]))]) (H' := [(0, (.cells [(.d (.sl (List.map TMessage.enc a0)))]))]) rfl ⟨rfl, [], [], rfl, rfl, ⟨⟨_, rfl, (.refl _)⟩, rfl, trivial⟩, ⟨⟨_, rfl, (.refl _)⟩, rfl, rfl, trivial⟩⟩ (doneA (.inr rfl) rfl ⟨trivial, trivial⟩ (.refl _) (hasCons rfl hasNil)))
def L36_0a (N : Nat → Nat) : ACode :=
 (.seq (.region false [⟨(some 7), .mv (.t 12), none, []⟩])
  (.region false [⟨(some 8), .alloc [(.int .u64 0), (.int .u64 0), (.int .u64 0), (.int .i64 0), (.sl [])], none, []⟩,
   ⟨none, .store (.t 8) (.t 13) 5, none, [0]⟩]))
def L36_0b (N : Nat → Nat) : ACode :=
 (.block 1 (.seq (.region false [⟨(some 14), .faddr (.t 8) 1, none, []⟩,
    ⟨(some 15), .load (.t 14) 1 false, none, [0]⟩,
    ⟨(some 16), .load (.t 3) 1 false, none, []⟩,
    ⟨(some 17), .bin .eql (.t 15) (.t 16), none, [1, 2]⟩])
   (.cond (.t 17) (.seq (.region false [⟨(some 18), .mv (.t 7), none, []⟩,
      ⟨none, .store (.t 6) (.t 18) 1, none, [0]⟩])
     (.exit 0))
    (.skip))))
/-- courant/batch.Last -/
def C36 (N : Nat → Nat) : AFunc := { n := 31, params := 2, res := [.cell 4 5 true, .tmp 5], body :=
 (.seq (.region false [⟨(some 3), .box (.t 1), none, []⟩,
   ⟨(some 4), .alloc [(.int .u64 0), (.int .u64 0), (.int .u64 0), (.int .i64 0), (.sl [])], none, []⟩,
   ⟨(some 5), .mv (.k (.d (.bool false))), none, []⟩])
  (.scope (.seq (.region false [⟨(some 6), .alloc [(.int .i64 0)], none, []⟩,
     ⟨none, .store (.t 6) (.k (.d (.int .i64 (-1)))) 1, none, [0]⟩])
    (.seq (.label 0)
     (.seq (.seq (.region false [⟨(some 10), .mv (.t 0), none, []⟩,
        ⟨(some 11), .call (.k (.d (.fn (N 86)))) [(.t 10)], none, [0]⟩])
       (.block 0 (.rangeFunc (.t 11) [12, 13] (L36_0a N) (L36_0b N))))
      (.seq (.seq (.region false [⟨(some 19), .load (.t 6) 1 false, none, []⟩,
         ⟨(some 20), .bin .lss (.t 19) (.k (.d (.int .i64 0))), none, [0]⟩])
        (.cond (.t 20) (.seq (.region false [⟨(some 21), .build [(.int .u64 0), (.int .u64 0), (.int .u64 0), (.int .i64 0), (.sl [])] [], none, []⟩,
           ⟨none, .store (.t 4) (.t 21) 5, none, [0]⟩,
           ⟨(some 5), .mv (.k (.d (.bool false))), none, [1, 0]⟩])
          .ret)
         (.skip)))
       (.seq (.region false [⟨(some 22), .mv (.t 0), none, []⟩,
         ⟨(some 23), .load (.t 6) 1 false, none, []⟩,
         ⟨(some 24), .iaddr (.t 22) (.t 23) 5, none, [0, 1]⟩,
         ⟨(some 25), .load (.t 24) 5 true, none, [2]⟩,
         ⟨(some 9), .alloc [(.int .u64 0), (.int .u64 0), (.int .u64 0), (.int .i64 0), (.sl [])], none, []⟩,
         ⟨none, .store (.t 9) (.t 25) 5, none, [4, 3, 0, 1, 2]⟩])
        (.seq (.region false [⟨(some 26), .faddr (.t 9) 4, none, []⟩,
          ⟨(some 27), .load (.t 26) 1 false, none, [0]⟩,
          ⟨(some 28), .call (.k (.d (.fn (N 87)))) [(.t 27)], none, [1]⟩,
          ⟨(some 29), .faddr (.t 9) 4, none, [0, 1, 2]⟩,
          ⟨none, .store (.t 29) (.t 28) 1, none, [3, 2, 0, 1]⟩])
         (.seq (.region false [⟨(some 30), .load (.t 9) 5 true, none, []⟩,
           ⟨none, .store (.t 4) (.t 30) 5, none, [0]⟩,
           ⟨(some 5), .mv (.k (.d (.bool true))), none, [1, 0]⟩])
          .ret))))))))) }
def HCb36_22 (P : Program) (N : Nat → Nat) : Prop := True
def b36_22 (k : Nat) (a0 : Int) (a1 : Int) (a2 : Int) (a3 : TMessage) : Option (Unit ⊕ Unit) := cond (decide (a3.fProducer = a0)) (some (.inl ())) (some (.inr ()))
theorem B36_22_0 {P : Program} {N : Nat → Nat} (hmix : P.follows .mixedOrders = true) (hc : HCb36_22 P N) {asg0 bd0 : Code} (ha0 : compCode P asg0 = L36_0a N) (hb0 : compCode P bd0 = L36_0b N) {k : Nat} {a0 : Int} {a1 : Int} {a2 : Int} {a3 : TMessage} {r : Unit} (h : b36_22 k a0 a1 a2 a3 = some (.inl r)) :
    ARound P 0 [(.d (.int .i64 a2)), (.d (TMessage.enc a3))] [(0, (.lp 31 [(3, (.ptr 1 0)), (6, (.ptr 2 0))] [12, 13] asg0 bd0 .ready none)), (1, (.cells [(.d (.int .u64 a0))])), (2, (.cells [(.d (.int .i64 a1))]))] (.d (.bool false)) [(0, (.lp 31 [(3, (.ptr 1 0)), (6, (.ptr 2 0))] [12, 13] asg0 bd0 .done (some (.exit 0)))), (1, (.cells [(.d (.int .u64 a0))])), (2, (.cells [(.d (.int .i64 a2))]))] := by
  refine around_gen 3 3 ha0 hb0 rfl rfl (fun ro => ?_)
  unfold b36_22 at h
  dsimp only [L36_0a, L36_0b, putArgs]
  refine AWc.seq ?_
  refine AWc.rg hmix rfl rfl ?_
  refine RegV.p0 rfl rfl rfl ?_
  refine RegV.nil0 ?_
  refine AWc.rg hmix rfl rfl ?_
  refine RegV.evS (own := false) (v := (.ptr 3 0)) (H' := [(3, (.cells [(.d (.int .u64 (0 : Int))), (.d (.int .u64 (0 : Int))), (.d (.int .u64 (0 : Int))), (.d (.int .i64 (0 : Int))), .nils])), (0, (.lp 31 [(3, (.ptr 1 0)), (6, (.ptr 2 0))] [12, 13] asg0 bd0 .ready none)), (1, (.cells [(.d (.int .u64 a0))])), (2, (.cells [(.d (.int .i64 a1))]))]) (c' := 4) rfl rfl trivial rfl rfl rfl rfl rfl rfl ?_
  refine RegV.evN (own := false) (H' := [(3, (.cells [(.d (.int .u64 a3.fOffset)), (.d (.int .u64 a3.fProducer)), (.d (.int .u64 a3.fSeq)), (.d (.int .i64 a3.fVersion)), (.d (.sl (List.map byteD a3.fData)))])), (0, (.lp 31 [(3, (.ptr 1 0)), (6, (.ptr 2 0))] [12, 13] asg0 bd0 .ready none)), (1, (.cells [(.d (.int .u64 a0))])), (2, (.cells [(.d (.int .i64 a1))]))]) (c' := 4) rfl rfl (by exact ⟨rfl, Nat.le_of_ble_eq_true rfl, rfl⟩) rfl rfl rfl rfl ?_
  refine RegV.nil0 ?_
  refine asgDone rfl rfl ?_
  refine AWc.block ?_
  refine AWc.seq ?_
  refine AWc.rg hmix rfl rfl ?_
  refine RegV.p0 (v := (.ptr 3 1)) rfl rfl rfl ?_
  refine RegV.ld (v := (.d (.int .u64 a3.fProducer))) (H' := [(3, (.cells [(.d (.int .u64 a3.fOffset)), (.d (.int .u64 a3.fProducer)), (.d (.int .u64 a3.fSeq)), (.d (.int .i64 a3.fVersion)), (.d (.sl (List.map byteD a3.fData)))])), (0, (.lp 31 [(3, (.ptr 1 0)), (6, (.ptr 2 0))] [12, 13] asg0 bd0 .busy none)), (1, (.cells [(.d (.int .u64 a0))])), (2, (.cells [(.d (.int .i64 a1))]))]) rfl rfl trivial rfl rfl rfl rfl rfl ?_
  refine RegV.ld (v := (.d (.int .u64 a0))) (H' := [(1, (.cells [(.d (.int .u64 a0))])), (3, (.cells [(.d (.int .u64 a3.fOffset)), (.d (.int .u64 a3.fProducer)), (.d (.int .u64 a3.fSeq)), (.d (.int .i64 a3.fVersion)), (.d (.sl (List.map byteD a3.fData)))])), (0, (.lp 31 [(3, (.ptr 1 0)), (6, (.ptr 2 0))] [12, 13] asg0 bd0 .busy none)), (2, (.cells [(.d (.int .i64 a1))]))]) rfl rfl trivial rfl rfl rfl rfl rfl ?_
  refine RegV.p0 (v := (.d (.bool (decide (a3.fProducer = a0))))) rfl rfl rfl ?_
  refine RegV.nil0 ?_
  refine AWc.cond rfl (fun c40 => ?_) (fun c40 => ?_)
  · have h := cond_pos c40 h
    refine AWc.seq ?_
    refine AWc.rg hmix rfl rfl ?_
    refine RegV.p0 rfl rfl rfl ?_
    refine RegV.evN (own := false) (H' := [(2, (.cells [(.d (.int .i64 a2))])), (1, (.cells [(.d (.int .u64 a0))])), (3, (.cells [(.d (.int .u64 a3.fOffset)), (.d (.int .u64 a3.fProducer)), (.d (.int .u64 a3.fSeq)), (.d (.int .i64 a3.fVersion)), (.d (.sl (List.map byteD a3.fData)))])), (0, (.lp 31 [(3, (.ptr 1 0)), (6, (.ptr 2 0))] [12, 13] asg0 bd0 .busy none))]) (c' := 4) rfl rfl (by exact ⟨rfl, Nat.le_of_ble_eq_true rfl, rfl⟩) rfl rfl rfl rfl ?_
    refine RegV.nil0 ?_
    have hr := Option.some.inj h
    have hr := Sum.inl.inj hr
    subst hr
    refine AWc.exit ?_
    refine inBlk_ne rfl ?_
    exact (canQ (N := 31) (k := 3) (l' := []) (H' := [(0, (.lp 31 [(3, (.ptr 1 0)), (6, (.ptr 2 0))] [12, 13] asg0 bd0 .busy none)), (1, (.cells [(.d (.int .u64 a0))])), (2, (.cells [(.d (.int .i64 a2))]))]) rfl ⟨rfl, [], [], rfl, rfl,  trivial, ⟨⟨_, rfl, (.refl _)⟩, rfl, rfl, ⟨⟨_, rfl, (.refl _)⟩, rfl, rfl, ⟨⟨_, rfl, (.refl _)⟩, rfl, rfl, trivial⟩⟩⟩⟩ (roundD rfl rfl rfl rfl (hasCons rfl (hasCons rfl (hasCons rfl hasNil)))))
  · have h := cond_neg c40 h
    refine AWc.skip ?_
    cases h
theorem B36_22_1 {P : Program} {N : Nat → Nat} (hmix : P.follows .mixedOrders = true) (hc : HCb36_22 P N) {asg0 bd0 : Code} (ha0 : compCode P asg0 = L36_0a N) (hb0 : compCode P bd0 = L36_0b N) {k : Nat} {a0 : Int} {a1 : Int} {a2 : Int} {a3 : TMessage} {r : Unit} (h : b36_22 k a0 a1 a2 a3 = some (.inr r)) :
    ARound P 0 [(.d (.int .i64 a2)), (.d (TMessage.enc a3))] [(0, (.lp 31 [(3, (.ptr 1 0)), (6, (.ptr 2 0))] [12, 13] asg0 bd0 .ready none)), (1, (.cells [(.d (.int .u64 a0))])), (2, (.cells [(.d (.int .i64 a1))]))] (.d (.bool true)) [(0, (.lp 31 [(3, (.ptr 1 0)), (6, (.ptr 2 0))] [12, 13] asg0 bd0 .ready none)), (1, (.cells [(.d (.int .u64 a0))])), (2, (.cells [(.d (.int .i64 a1))]))] := by
  refine around_gen 3 3 ha0 hb0 rfl rfl (fun ro => ?_)
  unfold b36_22 at h
  dsimp only [L36_0a, L36_0b, putArgs]
  refine AWc.seq ?_
  refine AWc.rg hmix rfl rfl ?_
  refine RegV.p0 rfl rfl rfl ?_
  refine RegV.nil0 ?_
  refine AWc.rg hmix rfl rfl ?_
  refine RegV.evS (own := false) (v := (.ptr 3 0)) (H' := [(3, (.cells [(.d (.int .u64 (0 : Int))), (.d (.int .u64 (0 : Int))), (.d (.int .u64 (0 : Int))), (.d (.int .i64 (0 : Int))), .nils])), (0, (.lp 31 [(3, (.ptr 1 0)), (6, (.ptr 2 0))] [12, 13] asg0 bd0 .ready none)), (1, (.cells [(.d (.int .u64 a0))])), (2, (.cells [(.d (.int .i64 a1))]))]) (c' := 4) rfl rfl trivial rfl rfl rfl rfl rfl rfl ?_
  refine RegV.evN (own := false) (H' := [(3, (.cells [(.d (.int .u64 a3.fOffset)), (.d (.int .u64 a3.fProducer)), (.d (.int .u64 a3.fSeq)), (.d (.int .i64 a3.fVersion)), (.d (.sl (List.map byteD a3.fData)))])), (0, (.lp 31 [(3, (.ptr 1 0)), (6, (.ptr 2 0))] [12, 13] asg0 bd0 .ready none)), (1, (.cells [(.d (.int .u64 a0))])), (2, (.cells [(.d (.int .i64 a1))]))]) (c' := 4) rfl rfl (by exact ⟨rfl, Nat.le_of_ble_eq_true rfl, rfl⟩) rfl rfl rfl rfl ?_
  refine RegV.nil0 ?_
  refine asgDone rfl rfl ?_
  refine AWc.block ?_
  refine AWc.seq ?_
  refine AWc.rg hmix rfl rfl ?_
  refine RegV.p0 (v := (.ptr 3 1)) rfl rfl rfl ?_
  refine RegV.ld (v := (.d (.int .u64 a3.fProducer))) (H' := [(3, (.cells [(.d (.int .u64 a3.fOffset)), (.d (.int .u64 a3.fProducer)), (.d (.int .u64 a3.fSeq)), (.d (.int .i64 a3.fVersion)), (.d (.sl (List.map byteD a3.fData)))])), (0, (.lp 31 [(3, (.ptr 1 0)), (6, (.ptr 2 0))] [12, 13] asg0 bd0 .busy none)), (1, (.cells [(.d (.int .u64 a0))])), (2, (.cells [(.d (.int .i64 a1))]))]) rfl rfl trivial rfl rfl rfl rfl rfl ?_
  refine RegV.ld (v := (.d (.int .u64 a0))) (H' := [(1, (.cells [(.d (.int .u64 a0))])), (3, (.cells [(.d (.int .u64 a3.fOffset)), (.d (.int .u64 a3.fProducer)), (.d (.int .u64 a3.fSeq)), (.d (.int .i64 a3.fVersion)), (.d (.sl (List.map byteD a3.fData)))])), (0, (.lp 31 [(3, (.ptr 1 0)), (6, (.ptr 2 0))] [12, 13] asg0 bd0 .busy none)), (2, (.cells [(.d (.int .i64 a1))]))]) rfl rfl trivial rfl rfl rfl rfl rfl ?_
  refine RegV.p0 (v := (.d (.bool (decide (a3.fProducer = a0))))) rfl rfl rfl ?_
  refine RegV.nil0 ?_
  refine AWc.cond rfl (fun c40 => ?_) (fun c40 => ?_)
  · have h := cond_pos c40 h
    refine AWc.seq ?_
    refine AWc.rg hmix rfl rfl ?_
    refine RegV.p0 rfl rfl rfl ?_
    refine RegV.evN (own := false) (H' := [(2, (.cells [(.d (.int .i64 a2))])), (1, (.cells [(.d (.int .u64 a0))])), (3, (.cells [(.d (.int .u64 a3.fOffset)), (.d (.int .u64 a3.fProducer)), (.d (.int .u64 a3.fSeq)), (.d (.int .i64 a3.fVersion)), (.d (.sl (List.map byteD a3.fData)))])), (0, (.lp 31 [(3, (.ptr 1 0)), (6, (.ptr 2 0))] [12, 13] asg0 bd0 .busy none))]) (c' := 4) rfl rfl (by exact ⟨rfl, Nat.le_of_ble_eq_true rfl, rfl⟩) rfl rfl rfl rfl ?_
    refine RegV.nil0 ?_
    cases h
  · have h := cond_neg c40 h
    refine AWc.skip ?_
    have hr := Option.some.inj h
    have hr := Sum.inr.inj hr
    subst hr
    exact (canQ (N := 31) (k := 3) (l' := []) (H' := [(0, (.lp 31 [(3, (.ptr 1 0)), (6, (.ptr 2 0))] [12, 13] asg0 bd0 .busy none)), (1, (.cells [(.d (.int .u64 a0))])), (2, (.cells [(.d (.int .i64 a1))]))]) rfl ⟨rfl, [], [], rfl, rfl,  trivial, ⟨⟨_, rfl, (.refl _)⟩, rfl, rfl, ⟨⟨_, rfl, (.refl _)⟩, rfl, rfl, ⟨⟨_, rfl, (.refl _)⟩, rfl, rfl, trivial⟩⟩⟩⟩ (roundD rfl rfl rfl rfl (hasCons rfl (hasCons rfl (hasCons rfl hasNil)))))
/-- slices.Backward[[]courant/api.Message,courant/api.Message]$1 -/
def C110 (N : Nat → Nat) : AFunc := { n := 19, params := 2, res := [], body :=
 (.seq (.region false [⟨(some 4), .load (.t 1) 1 false, none, []⟩,
   ⟨(some 5), .len (.t 4), none, [0]⟩,
   ⟨(some 6), .bin .sub (.t 5) (.k (.d (.int .i64 1))), none, [1]⟩,
   ⟨(some 3), .mv (.t 6), none, [2, 0, 1]⟩])
  (.block 0 (.loop (.seq (.seq (.region false [⟨(some 7), .mv (.t 3), none, []⟩,
       ⟨(some 8), .bin .geq (.t 7) (.k (.d (.int .i64 0))), none, [0]⟩])
      (.cond (.t 8) (.skip)
       (.exit 0)))
     (.seq (.block 1 (.seq (.region false [⟨(some 11), .mv (.t 0), none, []⟩,
         ⟨(some 12), .mv (.t 3), none, []⟩,
         ⟨(some 13), .load (.t 1) 1 false, none, []⟩,
         ⟨(some 14), .mv (.t 3), none, []⟩,
         ⟨(some 15), .iaddr (.t 13) (.t 14) 5, none, [2, 3]⟩,
         ⟨(some 16), .load (.t 15) 5 true, none, [4]⟩,
         ⟨(some 17), .call (.t 11) [(.t 12), (.t 16)], none, [0, 1, 5]⟩,
         ⟨(some 18), .un .not (.t 17), none, [6]⟩])
        (.cond (.t 18) .ret
         (.skip))))
      (.region false [⟨(some 9), .mv (.t 3), none, []⟩,
       ⟨(some 10), .bin .sub (.t 9) (.k (.d (.int .i64 1))), none, [0]⟩,
       ⟨(some 3), .mv (.t 10), none, [1, 0]⟩])))))) }
def HC110 (P : Program) (N : Nat → Nat) : Prop := HasF P (N 110) (C110 N) ∧ HCb36_22 P N
def f110_l8 (a2 : (List TMessage)) (a0 : Int) (a1 : Int) : Nat → Int → Option (LR2 Unit Unit (Int ⊕ Unit))
  | 0, _ => none
  | k + 1, y8_1 => cond (decide (y8_1 ≥ (0 : Int))) (gd (0 ≤ y8_1 ∧ y8_1 < ((a2.length : Nat) : Int)) ((b36_22 k a0 a1 y8_1 (rd a2 y8_1)).bind fun or30 => match or30 with | .inl r30 => some (.r (.inl y8_1)) | .inr r30 => f110_l8 a2 a0 a1 k (IntKind.i64.wrap (y8_1 - (1 : Int))))) (some (.b0 ()))
def f110 (k : Nat) (a0 : Int) (a1 : Int) (a2 : (List TMessage)) : Option (Int ⊕ Unit) := (f110_l8 a2 a0 a1 k (IntKind.i64.wrap (((a2.length : Nat) : Int) - (1 : Int)))).bind fun o8 => match o8 with | .b0 () => some (.inr ()) | .r x => some x | _ => none
theorem F110_0 {P : Program} {N : Nat → Nat} (hmix : P.follows .mixedOrders = true) (hc : HC110 P N) {asg0 bd0 : Code} (ha0 : compCode P asg0 = L36_0a N) (hb0 : compCode P bd0 = L36_0b N) {k : Nat} {a0 : Int} {a1 : Int} {a2 : (List TMessage)} {r : Int} (h : f110 k a0 a1 a2 = some (.inl r)) :
    ACalls P (N 110) [(.lf 0), (.ptr 3 0)] [(0, (.lp 31 [(3, (.ptr 1 0)), (6, (.ptr 2 0))] [12, 13] asg0 bd0 .ready none)), (1, (.cells [(.d (.int .u64 a0))])), (2, (.cells [(.d (.int .i64 a1))])), (3, (.cells [(.d (.sl (List.map TMessage.enc a2)))]))] (.tup []) [(0, (.lp 31 [(3, (.ptr 1 0)), (6, (.ptr 2 0))] [12, 13] asg0 bd0 .done (some (.exit 0)))), (1, (.cells [(.d (.int .u64 a0))])), (2, (.cells [(.d (.int .i64 r))])), (3, (.cells [(.d (.sl (List.map TMessage.enc a2)))]))] := by
  refine acalls_canon (F := C110 N) hc.1 4 4 rfl ?_
  unfold f110 at h
  dsimp only [C110, startL]
  refine AWc.seq ?_
  refine AWc.rg hmix rfl rfl ?_
  refine RegV.ld (v := (.d (.sl (List.map TMessage.enc a2)))) (H' := [(3, (.cells [(.d (.sl (List.map TMessage.enc a2)))])), (0, (.lp 31 [(3, (.ptr 1 0)), (6, (.ptr 2 0))] [12, 13] asg0 bd0 .ready none)), (1, (.cells [(.d (.int .u64 a0))])), (2, (.cells [(.d (.int .i64 a1))]))]) rfl rfl trivial rfl rfl rfl rfl rfl ?_
  refine RegV.len (xs := a2) (e := TMessage.enc) rfl rfl rfl rfl ?_
  refine RegV.p0 (v := (.d (.int .i64 (IntKind.i64.wrap (((a2.length : Nat) : Int) - (1 : Int)))))) rfl rfl rfl ?_
  refine RegV.p0 rfl rfl rfl ?_
  refine RegV.nil0 ?_
  obtain ⟨o8, h8, h⟩ := bind_some h
  refine AWc.block ?_
  refine AWc.loopK (N := 19) 4 (fun (x : Int) => [(0, (.lf 0)), (1, (.ptr 3 0)), (3, (.d (.int .i64 x)))]) (fun x => [(0, (.lp 31 [(3, (.ptr 1 0)), (6, (.ptr 2 0))] [12, 13] asg0 bd0 .ready none)), (3, (.cells [(.d (.sl (List.map TMessage.enc a2)))])), (1, (.cells [(.d (.int .u64 a0))])), (2, (.cells [(.d (.int .i64 a1))]))]) (fun k x => f110_l8 a2 a0 a1 k x = some o8) k (IntKind.i64.wrap (((a2.length : Nat) : Int) - (1 : Int))) rfl_le (fun x hx => by cases hx) h8 ⟨rfl, [], [], rfl, rfl, ⟨⟨_, rfl, (.refl _)⟩, rfl, ⟨⟨_, rfl, (.refl _)⟩, rfl, ⟨⟨_, rfl, (.refl _)⟩, rfl, trivial⟩⟩⟩, ⟨⟨_, rfl, (.refl _)⟩, rfl, rfl, ⟨⟨_, rfl, (.refl _)⟩, rfl, rfl, ⟨⟨_, rfl, (.refl _)⟩, rfl, rfl, ⟨⟨_, rfl, (.refl _)⟩, rfl, rfl, trivial⟩⟩⟩⟩⟩ ?_
  clear h8
  intro k
  intro y8_1 h8
  rw [f110_l8] at h8
  refine AWc.seq ?_
  refine AWc.seq ?_
  refine AWc.rg hmix rfl rfl ?_
  refine RegV.p0 rfl rfl rfl ?_
  refine RegV.p0 (v := (.d (.bool (decide (y8_1 ≥ (0 : Int)))))) rfl rfl rfl ?_
  refine RegV.nil0 ?_
  refine AWc.cond rfl (fun c16 => ?_) (fun c16 => ?_)
  · have h8 := cond_pos c16 h8
    refine AWc.skip ?_
    refine AWc.seq ?_
    refine AWc.block ?_
    refine AWc.seq ?_
    refine AWc.rg hmix rfl rfl ?_
    refine RegV.p0 rfl rfl rfl ?_
    refine RegV.p0 rfl rfl rfl ?_
    refine RegV.ld (v := (.d (.sl (List.map TMessage.enc a2)))) (H' := [(3, (.cells [(.d (.sl (List.map TMessage.enc a2)))])), (0, (.lp 31 [(3, (.ptr 1 0)), (6, (.ptr 2 0))] [12, 13] asg0 bd0 .ready none)), (1, (.cells [(.d (.int .u64 a0))])), (2, (.cells [(.d (.int .i64 a1))]))]) rfl rfl trivial rfl rfl rfl rfl rfl ?_
    refine RegV.p0 rfl rfl rfl ?_
    obtain ⟨b28, h8⟩ := gd_some h8
    refine RegV.iad (xs := a2) (e := TMessage.enc) rfl rfl rfl rfl (fun _ => rfl) b28 rfl ?_
    refine RegV.p1 (v := (.d (TMessage.enc (rd a2 y8_1)))) rfl rfl rfl rfl rfl ?_
    obtain ⟨or30, e30, h8⟩ := bind_some h8
    rcases or30 with r30 | r30
    · dsimp only at h8
      refine RegV.yield (H' := [(0, (.lp 31 [(3, (.ptr 1 0)), (6, (.ptr 2 0))] [12, 13] asg0 bd0 .done (some (.exit 0)))), (1, (.cells [(.d (.int .u64 a0))])), (2, (.cells [(.d (.int .i64 y8_1))])), (3, (.cells [(.d (.sl (List.map TMessage.enc a2)))]))]) (c' := 4) (show ARound P 0 [(.d (.int .i64 y8_1)), (.d (TMessage.enc (rd a2 y8_1)))] [(0, (.lp 31 [(3, (.ptr 1 0)), (6, (.ptr 2 0))] [12, 13] asg0 bd0 .ready none)), (1, (.cells [(.d (.int .u64 a0))])), (2, (.cells [(.d (.int .i64 a1))]))] (.d (.bool false)) [(0, (.lp 31 [(3, (.ptr 1 0)), (6, (.ptr 2 0))] [12, 13] asg0 bd0 .done (some (.exit 0)))), (1, (.cells [(.d (.int .u64 a0))])), (2, (.cells [(.d (.int .i64 y8_1))]))] from ARound.use (B36_22_0 hmix hc.2 ha0 hb0 e30) [(0, 0), (1, 1), (2, 2)] 3 rfl) rfl rfl rfl (.cons (.refl _) (.cons (.refl _) .nil)) rfl (hasCons rfl (hasCons rfl (hasCons rfl hasNil))) rfl rfl rfl rfl ?_
      refine RegV.p0 (v := (.d (.bool true))) rfl rfl rfl ?_
      refine RegV.nil0 ?_
      refine AWc.cond rfl (fun _ => ?_) (fun hc => by cases hc)
      cases h8
      dsimp only at h
      have hr := Option.some.inj h
      have hr := Sum.inl.inj hr
      subst hr
      exact AWc.ret (canQ (N := 19) (k := 4) (l' := []) (H' := [(0, (.lp 31 [(3, (.ptr 1 0)), (6, (.ptr 2 0))] [12, 13] asg0 bd0 .done (some (.exit 0)))), (1, (.cells [(.d (.int .u64 a0))])), (2, (.cells [(.d (.int .i64 y8_1))])), (3, (.cells [(.d (.sl (List.map TMessage.enc a2)))]))]) rfl ⟨rfl, [], [], rfl, rfl,  trivial, ⟨⟨_, rfl, (.refl _)⟩, rfl, rfl, ⟨⟨_, rfl, (.refl _)⟩, rfl, rfl, ⟨⟨_, rfl, (.refl _)⟩, rfl, rfl, ⟨⟨_, rfl, (.refl _)⟩, rfl, rfl, trivial⟩⟩⟩⟩⟩ (doneA (.inr rfl) rfl trivial (.refl _) (hasCons rfl (hasCons rfl (hasCons rfl (hasCons rfl hasNil))))))
    · dsimp only at h8
      refine RegV.yield (H' := [(0, (.lp 31 [(3, (.ptr 1 0)), (6, (.ptr 2 0))] [12, 13] asg0 bd0 .ready none)), (1, (.cells [(.d (.int .u64 a0))])), (2, (.cells [(.d (.int .i64 a1))])), (3, (.cells [(.d (.sl (List.map TMessage.enc a2)))]))]) (c' := 4) (show ARound P 0 [(.d (.int .i64 y8_1)), (.d (TMessage.enc (rd a2 y8_1)))] [(0, (.lp 31 [(3, (.ptr 1 0)), (6, (.ptr 2 0))] [12, 13] asg0 bd0 .ready none)), (1, (.cells [(.d (.int .u64 a0))])), (2, (.cells [(.d (.int .i64 a1))]))] (.d (.bool true)) [(0, (.lp 31 [(3, (.ptr 1 0)), (6, (.ptr 2 0))] [12, 13] asg0 bd0 .ready none)), (1, (.cells [(.d (.int .u64 a0))])), (2, (.cells [(.d (.int .i64 a1))]))] from ARound.use (B36_22_1 hmix hc.2 ha0 hb0 e30) [(0, 0), (1, 1), (2, 2)] 3 rfl) rfl rfl rfl (.cons (.refl _) (.cons (.refl _) .nil)) rfl (hasCons rfl (hasCons rfl (hasCons rfl hasNil))) rfl rfl rfl rfl ?_
      refine RegV.p0 (v := (.d (.bool false))) rfl rfl rfl ?_
      refine RegV.nil0 ?_
      refine AWc.cond rfl (fun hc => by cases hc) (fun _ => ?_)
      refine AWc.skip ?_
      refine AWc.rg hmix rfl rfl ?_
      refine RegV.p0 rfl rfl rfl ?_
      refine RegV.p0 (v := (.d (.int .i64 (IntKind.i64.wrap (y8_1 - (1 : Int)))))) rfl rfl rfl ?_
      refine RegV.p0 rfl rfl rfl ?_
      refine RegV.nil0 ?_
      exact ⟨(IntKind.i64.wrap (y8_1 - (1 : Int))), h8, ⟨rfl, [], [], rfl, rfl, ⟨⟨_, rfl, (.refl _)⟩, rfl, ⟨⟨_, rfl, (.refl _)⟩, rfl, ⟨⟨_, rfl, (.refl _)⟩, rfl, trivial⟩⟩⟩, ⟨⟨_, rfl, (.refl _)⟩, rfl, rfl, ⟨⟨_, rfl, (.refl _)⟩, rfl, rfl, ⟨⟨_, rfl, (.refl _)⟩, rfl, rfl, ⟨⟨_, rfl, (.refl _)⟩, rfl, rfl, trivial⟩⟩⟩⟩⟩⟩
  · have h8 := cond_neg c16 h8
    cases h8
    dsimp only at h
    refine AWc.exit ?_
    refine inBlk_eq ?_
    cases h
theorem F110_1 {P : Program} {N : Nat → Nat} (hmix : P.follows .mixedOrders = true) (hc : HC110 P N) {asg0 bd0 : Code} (ha0 : compCode P asg0 = L36_0a N) (hb0 : compCode P bd0 = L36_0b N) {k : Nat} {a0 : Int} {a1 : Int} {a2 : (List TMessage)} {r : Unit} (h : f110 k a0 a1 a2 = some (.inr r)) :
    ACalls P (N 110) [(.lf 0), (.ptr 3 0)] [(0, (.lp 31 [(3, (.ptr 1 0)), (6, (.ptr 2 0))] [12, 13] asg0 bd0 .ready none)), (1, (.cells [(.d (.int .u64 a0))])), (2, (.cells [(.d (.int .i64 a1))])), (3, (.cells [(.d (.sl (List.map TMessage.enc a2)))]))] (.tup []) [(0, (.lp 31 [(3, (.ptr 1 0)), (6, (.ptr 2 0))] [12, 13] asg0 bd0 .ready none)), (1, (.cells [(.d (.int .u64 a0))])), (2, (.cells [(.d (.int .i64 a1))])), (3, (.cells [(.d (.sl (List.map TMessage.enc a2)))]))] := by
  refine acalls_canon (F := C110 N) hc.1 4 4 rfl ?_
  unfold f110 at h
  dsimp only [C110, startL]
  refine AWc.seq ?_
  refine AWc.rg hmix rfl rfl ?_
  refine RegV.ld (v := (.d (.sl (List.map TMessage.enc a2)))) (H' := [(3, (.cells [(.d (.sl (List.map TMessage.enc a2)))])), (0, (.lp 31 [(3, (.ptr 1 0)), (6, (.ptr 2 0))] [12, 13] asg0 bd0 .ready none)), (1, (.cells [(.d (.int .u64 a0))])), (2, (.cells [(.d (.int .i64 a1))]))]) rfl rfl trivial rfl rfl rfl rfl rfl ?_
  refine RegV.len (xs := a2) (e := TMessage.enc) rfl rfl rfl rfl ?_
  refine RegV.p0 (v := (.d (.int .i64 (IntKind.i64.wrap (((a2.length : Nat) : Int) - (1 : Int)))))) rfl rfl rfl ?_
  refine RegV.p0 rfl rfl rfl ?_
  refine RegV.nil0 ?_
  obtain ⟨o8, h8, h⟩ := bind_some h
  refine AWc.block ?_
  refine AWc.loopK (N := 19) 4 (fun (x : Int) => [(0, (.lf 0)), (1, (.ptr 3 0)), (3, (.d (.int .i64 x)))]) (fun x => [(0, (.lp 31 [(3, (.ptr 1 0)), (6, (.ptr 2 0))] [12, 13] asg0 bd0 .ready none)), (3, (.cells [(.d (.sl (List.map TMessage.enc a2)))])), (1, (.cells [(.d (.int .u64 a0))])), (2, (.cells [(.d (.int .i64 a1))]))]) (fun k x => f110_l8 a2 a0 a1 k x = some o8) k (IntKind.i64.wrap (((a2.length : Nat) : Int) - (1 : Int))) rfl_le (fun x hx => by cases hx) h8 ⟨rfl, [], [], rfl, rfl, ⟨⟨_, rfl, (.refl _)⟩, rfl, ⟨⟨_, rfl, (.refl _)⟩, rfl, ⟨⟨_, rfl, (.refl _)⟩, rfl, trivial⟩⟩⟩, ⟨⟨_, rfl, (.refl _)⟩, rfl, rfl, ⟨⟨_, rfl, (.refl _)⟩, rfl, rfl, ⟨⟨_, rfl, (.refl _)⟩, rfl, rfl, ⟨⟨_, rfl, (.refl _)⟩, rfl, rfl, trivial⟩⟩⟩⟩⟩ ?_
  clear h8
  intro k
  intro y8_1 h8
  rw [f110_l8] at h8
  refine AWc.seq ?_
  refine AWc.seq ?_
  refine AWc.rg hmix rfl rfl ?_
  refine RegV.p0 rfl rfl rfl ?_
  refine RegV.p0 (v := (.d (.bool (decide (y8_1 ≥ (0 : Int)))))) rfl rfl rfl ?_
  refine RegV.nil0 ?_
  refine AWc.cond rfl (fun c16 => ?_) (fun c16 => ?_)
  · have h8 := cond_pos c16 h8
    refine AWc.skip ?_
    refine AWc.seq ?_
    refine AWc.block ?_
    refine AWc.seq ?_
    refine AWc.rg hmix rfl rfl ?_
    refine RegV.p0 rfl rfl rfl ?_
    refine RegV.p0 rfl rfl rfl ?_
    refine RegV.ld (v := (.d (.sl (List.map TMessage.enc a2)))) (H' := [(3, (.cells [(.d (.sl (List.map TMessage.enc a2)))])), (0, (.lp 31 [(3, (.ptr 1 0)), (6, (.ptr 2 0))] [12, 13] asg0 bd0 .ready none)), (1, (.cells [(.d (.int .u64 a0))])), (2, (.cells [(.d (.int .i64 a1))]))]) rfl rfl trivial rfl rfl rfl rfl rfl ?_
    refine RegV.p0 rfl rfl rfl ?_
    obtain ⟨b28, h8⟩ := gd_some h8
    refine RegV.iad (xs := a2) (e := TMessage.enc) rfl rfl rfl rfl (fun _ => rfl) b28 rfl ?_
    refine RegV.p1 (v := (.d (TMessage.enc (rd a2 y8_1)))) rfl rfl rfl rfl rfl ?_
    obtain ⟨or30, e30, h8⟩ := bind_some h8
    rcases or30 with r30 | r30
    · dsimp only at h8
      refine RegV.yield (H' := [(0, (.lp 31 [(3, (.ptr 1 0)), (6, (.ptr 2 0))] [12, 13] asg0 bd0 .done (some (.exit 0)))), (1, (.cells [(.d (.int .u64 a0))])), (2, (.cells [(.d (.int .i64 y8_1))])), (3, (.cells [(.d (.sl (List.map TMessage.enc a2)))]))]) (c' := 4) (show ARound P 0 [(.d (.int .i64 y8_1)), (.d (TMessage.enc (rd a2 y8_1)))] [(0, (.lp 31 [(3, (.ptr 1 0)), (6, (.ptr 2 0))] [12, 13] asg0 bd0 .ready none)), (1, (.cells [(.d (.int .u64 a0))])), (2, (.cells [(.d (.int .i64 a1))]))] (.d (.bool false)) [(0, (.lp 31 [(3, (.ptr 1 0)), (6, (.ptr 2 0))] [12, 13] asg0 bd0 .done (some (.exit 0)))), (1, (.cells [(.d (.int .u64 a0))])), (2, (.cells [(.d (.int .i64 y8_1))]))] from ARound.use (B36_22_0 hmix hc.2 ha0 hb0 e30) [(0, 0), (1, 1), (2, 2)] 3 rfl) rfl rfl rfl (.cons (.refl _) (.cons (.refl _) .nil)) rfl (hasCons rfl (hasCons rfl (hasCons rfl hasNil))) rfl rfl rfl rfl ?_
      refine RegV.p0 (v := (.d (.bool true))) rfl rfl rfl ?_
      refine RegV.nil0 ?_
      refine AWc.cond rfl (fun _ => ?_) (fun hc => by cases hc)
      cases h8
      dsimp only at h
      cases h
    · dsimp only at h8
      refine RegV.yield (H' := [(0, (.lp 31 [(3, (.ptr 1 0)), (6, (.ptr 2 0))] [12, 13] asg0 bd0 .ready none)), (1, (.cells [(.d (.int .u64 a0))])), (2, (.cells [(.d (.int .i64 a1))])), (3, (.cells [(.d (.sl (List.map TMessage.enc a2)))]))]) (c' := 4) (show ARound P 0 [(.d (.int .i64 y8_1)), (.d (TMessage.enc (rd a2 y8_1)))] [(0, (.lp 31 [(3, (.ptr 1 0)), (6, (.ptr 2 0))] [12, 13] asg0 bd0 .ready none)), (1, (.cells [(.d (.int .u64 a0))])), (2, (.cells [(.d (.int .i64 a1))]))] (.d (.bool true)) [(0, (.lp 31 [(3, (.ptr 1 0)), (6, (.ptr 2 0))] [12, 13] asg0 bd0 .ready none)), (1, (.cells [(.d (.int .u64 a0))])), (2, (.cells [(.d (.int .i64 a1))]))] from ARound.use (B36_22_1 hmix hc.2 ha0 hb0 e30) [(0, 0), (1, 1), (2, 2)] 3 rfl) rfl rfl rfl (.cons (.refl _) (.cons (.refl _) .nil)) rfl (hasCons rfl (hasCons rfl (hasCons rfl hasNil))) rfl rfl rfl rfl ?_
      refine RegV.p0 (v := (.d (.bool false))) rfl rfl rfl ?_
      refine RegV.nil0 ?_
      refine AWc.cond rfl (fun hc => by cases hc) (fun _ => ?_)
      refine AWc.skip ?_
      refine AWc.rg hmix rfl rfl ?_
      refine RegV.p0 rfl rfl rfl ?_
      refine RegV.p0 (v := (.d (.int .i64 (IntKind.i64.wrap (y8_1 - (1 : Int)))))) rfl rfl rfl ?_
      refine RegV.p0 rfl rfl rfl ?_
      refine RegV.nil0 ?_
      exact ⟨(IntKind.i64.wrap (y8_1 - (1 : Int))), h8, ⟨rfl, [], [], rfl, rfl, ⟨⟨_, rfl, (.refl _)⟩, rfl, ⟨⟨_, rfl, (.refl _)⟩, rfl, ⟨⟨_, rfl, (.refl _)⟩, rfl, trivial⟩⟩⟩, ⟨⟨_, rfl, (.refl _)⟩, rfl, rfl, ⟨⟨_, rfl, (.refl _)⟩, rfl, rfl, ⟨⟨_, rfl, (.refl _)⟩, rfl, rfl, ⟨⟨_, rfl, (.refl _)⟩, rfl, rfl, trivial⟩⟩⟩⟩⟩⟩
  · have h8 := cond_neg c16 h8
    cases h8
    dsimp only at h
    refine AWc.exit ?_
    refine inBlk_eq ?_
    have hr := Option.some.inj h
    have hr := Sum.inr.inj hr
    subst hr
    exact canQ (N := 19) (k := 4) (l' := []) (H' := [(0, (.lp 31 [(3, (.ptr 1 0)), (6, (.ptr 2 0))] [12, 13] asg0 bd0 .ready none)), (1, (.cells [(.d (.int .u64 a0))])), (2, (.cells [(.d (.int .i64 a1))])), (3, (.cells [(.d (.sl (List.map TMessage.enc a2)))]))]) rfl ⟨rfl, [], [], rfl, rfl,  trivial, ⟨⟨_, rfl, (.refl _)⟩, rfl, rfl, ⟨⟨_, rfl, (.refl _)⟩, rfl, rfl, ⟨⟨_, rfl, (.refl _)⟩, rfl, rfl, ⟨⟨_, rfl, (.refl _)⟩, rfl, rfl, trivial⟩⟩⟩⟩⟩ (doneA (.inl rfl) rfl trivial (.refl _) (hasCons rfl (hasCons rfl (hasCons rfl (hasCons rfl hasNil)))))
/-- slices.Clone[[]byte,byte] -/
def C87 (N : Nat → Nat) : AFunc := { n := 8, params := 1, res := [.tmp 2], body :=
 (.seq (.region false [⟨(some 2), .mv (.k .nils), none, []⟩])
  (.seq (.seq (.region false [⟨(some 3), .mv (.t 0), none, []⟩,
     ⟨(some 4), .nileq 0 false (.t 3) (.k .nils), none, [0]⟩])
    (.cond (.t 4) (.seq (.region false [⟨(some 2), .mv (.k .nils), none, []⟩])
      .ret)
     (.skip)))
   (.seq (.region false [⟨(some 5), .bslice 0 1 [(.int .u8 0)] [], none, []⟩,
     ⟨(some 6), .mv (.t 0), none, []⟩,
     ⟨(some 7), .app (.t 5) (.t 6) 1 1 [(.int .u8 0)], none, [0, 1]⟩,
     ⟨(some 2), .mv (.t 7), none, [2, 0, 1]⟩])
    .ret))) }
def HC87 (P : Program) (N : Nat → Nat) : Prop := HasF P (N 87) (C87 N)
def f87 (k : Nat) (a0 : List UInt8) : Option (List UInt8) := gd (a0.length * 2 * 1 ≤ 281474976710656) (some a0)
theorem F87 {P : Program} {N : Nat → Nat} (hmix : P.follows .mixedOrders = true) (hc : HC87 P N) {k : Nat} {a0 r : List UInt8} (h : f87 k a0 = some r) :
    ACalls P (N 87) [(.d (.sl (List.map byteD a0)))] [] (.ap 0 1 (List.map byteD r)) [(0, (.tok ((List.map byteD r).length * 1)))] := by
  unfold f87 at h
  obtain ⟨b, h⟩ := gd_some h
  cases h
  exact clone_gen hmix byteD_ok hc rfl rfl b
def HC36 (P : Program) (N : Nat → Nat) : Prop := HasF P (N 36) (C36 N) ∧ HC86 P N ∧ HC110 P N ∧ HC87 P N
def f36_j48 (k : Nat) (a0 : (List TMessage)) (j48_1 : Int) : Option (Bool × Int × Int × Int × Int × (List UInt8)) := cond (decide (j48_1 < (0 : Int))) (some (false, (0 : Int), (0 : Int), (0 : Int), (0 : Int), ([] : List UInt8))) (gd (0 ≤ j48_1 ∧ j48_1 < ((a0.length : Nat) : Int)) ((f87 k ((rd a0 j48_1).fData)).bind fun r77 => some (true, (rd a0 j48_1).fOffset, (rd a0 j48_1).fProducer, (rd a0 j48_1).fSeq, (rd a0 j48_1).fVersion, r77)))
def f36 (k : Nat) (a0 : (List TMessage)) (a1 : Int) : Option (Bool × Int × Int × Int × Int × (List UInt8)) := (f86 k a0).bind fun r20 => (f110 k a1 (-1 : Int) a0).bind fun orf22 => match orf22 with | .inl rf22 => f36_j48 k a0 rf22 | .inr rf22 => f36_j48 k a0 (-1 : Int)
theorem F36 {P : Program} {N : Nat → Nat} (hmix : P.follows .mixedOrders = true) (hc : HC36 P N) {k : Nat} {a0 : (List TMessage)} {a1 : Int} {r : (Bool × Int × Int × Int × Int × (List UInt8))} (h : f36 k a0 a1 = some r) :
    ACalls P (N 36) [(.d (.sl (List.map TMessage.enc a0))), (.d (.int .u64 a1))] [] (.tup [(.d (.agg [(.int .u64 r.2.1), (.int .u64 r.2.2.1), (.int .u64 r.2.2.2.1), (.int .i64 r.2.2.2.2.1), (.sl (List.map byteD r.2.2.2.2.2))])), (.d (.bool r.1))]) [] := by
  refine acalls_canon (F := C36 N) hc.1 0 0 rfl ?_
  unfold f36 at h
  dsimp only [C36, startL]
  refine AWc.seq ?_
  refine AWc.rg hmix rfl rfl ?_
  refine RegV.evS (own := false) (v := (.ptr 0 0)) (H' := [(0, (.cells [(.d (.int .u64 a1))]))]) (c' := 1) rfl rfl trivial rfl rfl rfl rfl rfl rfl ?_
  refine RegV.evS (own := false) (v := (.ptr 1 0)) (H' := [(1, (.cells [(.d (.int .u64 (0 : Int))), (.d (.int .u64 (0 : Int))), (.d (.int .u64 (0 : Int))), (.d (.int .i64 (0 : Int))), .nils])), (0, (.cells [(.d (.int .u64 a1))]))]) (c' := 2) rfl rfl trivial rfl rfl rfl rfl rfl rfl ?_
  refine RegV.p0 rfl rfl rfl ?_
  refine RegV.nil0 ?_
  refine AWc.scope ?_
  refine AWc.seq ?_
  refine AWc.rg hmix rfl rfl ?_
  refine RegV.evS (own := false) (v := (.ptr 2 0)) (H' := [(2, (.cells [(.d (.int .i64 (0 : Int)))])), (1, (.cells [(.d (.int .u64 (0 : Int))), (.d (.int .u64 (0 : Int))), (.d (.int .u64 (0 : Int))), (.d (.int .i64 (0 : Int))), .nils])), (0, (.cells [(.d (.int .u64 a1))]))]) (c' := 3) rfl rfl trivial rfl rfl rfl rfl rfl rfl ?_
  refine RegV.evN (own := false) (H' := [(2, (.cells [(.d (.int .i64 (-1 : Int)))])), (1, (.cells [(.d (.int .u64 (0 : Int))), (.d (.int .u64 (0 : Int))), (.d (.int .u64 (0 : Int))), (.d (.int .i64 (0 : Int))), .nils])), (0, (.cells [(.d (.int .u64 a1))]))]) (c' := 3) rfl rfl (by exact ⟨rfl, Nat.le_of_ble_eq_true rfl, rfl⟩) rfl rfl rfl rfl ?_
  refine RegV.nil0 ?_
  refine AWc.seq ?_
  refine AWc.label ?_
  refine AWc.seqS (N := 31) 2 (fun (z : Int) => [(0, (.d (.sl (List.map TMessage.enc a0)))), (4, (.ptr 0 0)), (6, (.ptr 1 0))]) (fun z => [(0, (.cells [(.d (.int .u64 (0 : Int))), (.d (.int .u64 (0 : Int))), (.d (.int .u64 (0 : Int))), (.d (.int .i64 (0 : Int))), .nils])), (1, (.cells [(.d (.int .i64 z))]))]) (fun z => f36_j48 k a0 z = some r) rfl_le ?_ ?_
  · refine AWc.seq ?_
    refine AWc.rg hmix rfl rfl ?_
    refine RegV.p0 rfl rfl rfl ?_
    obtain ⟨r20, e20, h⟩ := bind_some h
    refine RegV.callS (q := false) (H' := [(3, (.cells [(.d (.sl (List.map TMessage.enc a0)))])), (2, (.cells [(.d (.int .i64 (-1 : Int)))])), (1, (.cells [(.d (.int .u64 (0 : Int))), (.d (.int .u64 (0 : Int))), (.d (.int .u64 (0 : Int))), (.d (.int .i64 (0 : Int))), .nils])), (0, (.cells [(.d (.int .u64 a1))]))]) (c' := 4) (show ACalls P (N 86) [(.d (.sl (List.map TMessage.enc a0)))] [] (.fn (N 110) [(.ptr 3 0)]) [(3, (.cells [(.d (.sl (List.map TMessage.enc a0)))]))] from ACalls.use (F86 hmix hc.2.1 e20) [(0, 3)] 1 rfl) rfl rfl rfl rfl (.cons (.refl _) .nil) (.refl _) (fun h => by cases h) rfl hasNil rfl rfl rfl rfl ?_
    refine RegV.nil0 ?_
    refine AWc.block ?_
    refine AWc.rangeFunc [(3, (.ptr 0 0)), (6, (.ptr 2 0))] rfl rfl rfl rfl ⟨rfl, rfl, trivial⟩ (fun asgU22 bdU22 haU22 hbU22 => ?_)
    obtain ⟨orf22, ef22, h⟩ := bind_some h
    rcases orf22 with rf22 | rf22
    · dsimp only at h
      refine rfE (H' := [(0, (.cells [(.d (.int .u64 a1))])), (2, (.cells [(.d (.int .i64 rf22))])), (3, (.cells [(.d (.sl (List.map TMessage.enc a0)))])), (1, (.cells [(.d (.int .u64 (0 : Int))), (.d (.int .u64 (0 : Int))), (.d (.int .u64 (0 : Int))), (.d (.int .i64 (0 : Int))), .nils]))]) (c' := 5) (show ACalls P (N 110) [(.lf 4), (.ptr 3 0)] [(4, (.lp 31 [(3, (.ptr 0 0)), (6, (.ptr 2 0))] [12, 13] asgU22 bdU22 .ready none)), (0, (.cells [(.d (.int .u64 a1))])), (2, (.cells [(.d (.int .i64 (-1 : Int)))])), (3, (.cells [(.d (.sl (List.map TMessage.enc a0)))]))] (.tup []) [(4, (.lp 31 [(3, (.ptr 0 0)), (6, (.ptr 2 0))] [12, 13] asgU22 bdU22 .done (some (.exit 0)))), (0, (.cells [(.d (.int .u64 a1))])), (2, (.cells [(.d (.int .i64 rf22))])), (3, (.cells [(.d (.sl (List.map TMessage.enc a0)))]))] from ACalls.use (F110_0 hmix hc.2.2.1 haU22 hbU22 ef22) [(0, 4), (1, 0), (2, 2), (3, 3)] 4 rfl) (.cons (.refl _) (.cons (.refl _) .nil)) (hasCons rfl (hasCons rfl (hasCons rfl (hasCons rfl hasNil)))) rfl rfl rfl rfl rfl ?_
      refine inBlk_eq ?_
      exact ⟨rf22, h, ⟨rfl, [], [(0, 1), (1, 2)], rfl, rfl, ⟨⟨_, rfl, (.refl _)⟩, rfl, ⟨⟨_, rfl, (.refl _)⟩, rfl, ⟨⟨_, rfl, (.refl _)⟩, rfl, trivial⟩⟩⟩, ⟨⟨_, rfl, (.refl _)⟩, rfl, rfl, ⟨⟨_, rfl, (.refl _)⟩, rfl, rfl, trivial⟩⟩⟩⟩
    · dsimp only at h
      refine rfN (H' := [(0, (.cells [(.d (.int .u64 a1))])), (2, (.cells [(.d (.int .i64 (-1 : Int)))])), (3, (.cells [(.d (.sl (List.map TMessage.enc a0)))])), (1, (.cells [(.d (.int .u64 (0 : Int))), (.d (.int .u64 (0 : Int))), (.d (.int .u64 (0 : Int))), (.d (.int .i64 (0 : Int))), .nils]))]) (c' := 5) (show ACalls P (N 110) [(.lf 4), (.ptr 3 0)] [(4, (.lp 31 [(3, (.ptr 0 0)), (6, (.ptr 2 0))] [12, 13] asgU22 bdU22 .ready none)), (0, (.cells [(.d (.int .u64 a1))])), (2, (.cells [(.d (.int .i64 (-1 : Int)))])), (3, (.cells [(.d (.sl (List.map TMessage.enc a0)))]))] (.tup []) [(4, (.lp 31 [(3, (.ptr 0 0)), (6, (.ptr 2 0))] [12, 13] asgU22 bdU22 .ready none)), (0, (.cells [(.d (.int .u64 a1))])), (2, (.cells [(.d (.int .i64 (-1 : Int)))])), (3, (.cells [(.d (.sl (List.map TMessage.enc a0)))]))] from ACalls.use (F110_1 hmix hc.2.2.1 haU22 hbU22 ef22) [(0, 4), (1, 0), (2, 2), (3, 3)] 4 rfl) (.cons (.refl _) (.cons (.refl _) .nil)) (hasCons rfl (hasCons rfl (hasCons rfl (hasCons rfl hasNil)))) rfl rfl rfl rfl rfl ?_
      exact ⟨(-1 : Int), h, ⟨rfl, [], [(0, 1), (1, 2)], rfl, rfl, ⟨⟨_, rfl, (.refl _)⟩, rfl, ⟨⟨_, rfl, (.refl _)⟩, rfl, ⟨⟨_, rfl, (.refl _)⟩, rfl, trivial⟩⟩⟩, ⟨⟨_, rfl, (.refl _)⟩, rfl, rfl, ⟨⟨_, rfl, (.refl _)⟩, rfl, rfl, trivial⟩⟩⟩⟩
  · intro j48_1 h
    unfold f36_j48 at h
    refine AWc.seq ?_
    refine AWc.seq ?_
    refine AWc.rg hmix rfl rfl ?_
    refine RegV.ld (v := (.d (.int .i64 j48_1))) (H' := [(1, (.cells [(.d (.int .i64 j48_1))])), (0, (.cells [(.d (.int .u64 (0 : Int))), (.d (.int .u64 (0 : Int))), (.d (.int .u64 (0 : Int))), (.d (.int .i64 (0 : Int))), .nils]))]) rfl rfl trivial rfl rfl rfl rfl rfl ?_
    refine RegV.p0 (v := (.d (.bool (decide (j48_1 < (0 : Int)))))) rfl rfl rfl ?_
    refine RegV.nil0 ?_
    refine AWc.cond rfl (fun c54 => ?_) (fun c54 => ?_)
    · have h := cond_pos c54 h
      refine AWc.seq ?_
      refine AWc.rg hmix rfl rfl ?_
      refine RegV.p1 (v := (.d (.agg [(.int .u64 (0 : Int)), (.int .u64 (0 : Int)), (.int .u64 (0 : Int)), (.int .i64 (0 : Int)), (.sl (List.map byteD ([] : List UInt8)))]))) rfl rfl trivial rfl rfl ?_
      refine RegV.evN (own := false) (H' := [(0, (.cells [(.d (.int .u64 (0 : Int))), (.d (.int .u64 (0 : Int))), (.d (.int .u64 (0 : Int))), (.d (.int .i64 (0 : Int))), (.d (.sl (List.map byteD ([] : List UInt8))))])), (1, (.cells [(.d (.int .i64 j48_1))]))]) (c' := 2) rfl rfl (by exact ⟨rfl, Nat.le_of_ble_eq_true rfl, rfl⟩) rfl rfl rfl rfl ?_
      refine RegV.p0 rfl rfl rfl ?_
      refine RegV.nil0 ?_
      have hr := Option.some.inj h
      subst hr
      exact AWc.ret (canQ (N := 31) (k := 1) (l' := [(4, (.ptr 0 0)), (5, (.d (.bool false)))]) (H' := [(0, (.cells [(.d (.int .u64 (0 : Int))), (.d (.int .u64 (0 : Int))), (.d (.int .u64 (0 : Int))), (.d (.int .i64 (0 : Int))), (.d (.sl (List.map byteD ([] : List UInt8))))]))]) rfl ⟨rfl, [], [], rfl, rfl, ⟨⟨_, rfl, (.refl _)⟩, rfl, ⟨⟨_, rfl, (.refl _)⟩, rfl, trivial⟩⟩, ⟨⟨_, rfl, (.refl _)⟩, rfl, rfl, trivial⟩⟩ (doneA (.inr rfl) rfl ⟨(Nat.le_of_ble_eq_true rfl), ⟨trivial, trivial⟩⟩ (.refl _) hasNil))
    · have h := cond_neg c54 h
      refine AWc.skip ?_
      refine AWc.seq ?_
      refine AWc.rg hmix rfl rfl ?_
      refine RegV.p0 rfl rfl rfl ?_
      refine RegV.ld (v := (.d (.int .i64 j48_1))) (H' := [(1, (.cells [(.d (.int .i64 j48_1))])), (0, (.cells [(.d (.int .u64 (0 : Int))), (.d (.int .u64 (0 : Int))), (.d (.int .u64 (0 : Int))), (.d (.int .i64 (0 : Int))), .nils]))]) rfl rfl trivial rfl rfl rfl rfl rfl ?_
      obtain ⟨b68, h⟩ := gd_some h
      refine RegV.iad (xs := a0) (e := TMessage.enc) rfl rfl rfl rfl (fun _ => rfl) b68 rfl ?_
      refine RegV.p1 (v := (.d (TMessage.enc (rd a0 j48_1)))) rfl rfl rfl rfl rfl ?_
      refine RegV.evS (own := false) (v := (.ptr 2 0)) (H' := [(2, (.cells [(.d (.int .u64 (0 : Int))), (.d (.int .u64 (0 : Int))), (.d (.int .u64 (0 : Int))), (.d (.int .i64 (0 : Int))), .nils])), (1, (.cells [(.d (.int .i64 j48_1))])), (0, (.cells [(.d (.int .u64 (0 : Int))), (.d (.int .u64 (0 : Int))), (.d (.int .u64 (0 : Int))), (.d (.int .i64 (0 : Int))), .nils]))]) (c' := 3) rfl rfl trivial rfl rfl rfl rfl rfl rfl ?_
      refine RegV.evN (own := false) (H' := [(2, (.cells [(.d (.int .u64 (rd a0 j48_1).fOffset)), (.d (.int .u64 (rd a0 j48_1).fProducer)), (.d (.int .u64 (rd a0 j48_1).fSeq)), (.d (.int .i64 (rd a0 j48_1).fVersion)), (.d (.sl (List.map byteD (rd a0 j48_1).fData)))])), (1, (.cells [(.d (.int .i64 j48_1))])), (0, (.cells [(.d (.int .u64 (0 : Int))), (.d (.int .u64 (0 : Int))), (.d (.int .u64 (0 : Int))), (.d (.int .i64 (0 : Int))), .nils]))]) (c' := 3) rfl rfl (by exact ⟨rfl, Nat.le_of_ble_eq_true rfl, rfl⟩) rfl rfl rfl rfl ?_
      refine RegV.nil0 ?_
      refine AWc.seq ?_
      refine AWc.rg hmix rfl rfl ?_
      refine RegV.p0 (v := (.ptr 2 4)) rfl rfl rfl ?_
      refine RegV.ld (v := (.d (.sl (List.map byteD (rd a0 j48_1).fData)))) (H' := [(2, (.cells [(.d (.int .u64 (rd a0 j48_1).fOffset)), (.d (.int .u64 (rd a0 j48_1).fProducer)), (.d (.int .u64 (rd a0 j48_1).fSeq)), (.d (.int .i64 (rd a0 j48_1).fVersion)), (.d (.sl (List.map byteD (rd a0 j48_1).fData)))])), (1, (.cells [(.d (.int .i64 j48_1))])), (0, (.cells [(.d (.int .u64 (0 : Int))), (.d (.int .u64 (0 : Int))), (.d (.int .u64 (0 : Int))), (.d (.int .i64 (0 : Int))), .nils]))]) rfl rfl trivial rfl rfl rfl rfl rfl ?_
      obtain ⟨r77, e77, h⟩ := bind_some h
      refine RegV.callS (q := false) (H' := [(3, (.tok ((List.map byteD r77).length * 1))), (2, (.cells [(.d (.int .u64 (rd a0 j48_1).fOffset)), (.d (.int .u64 (rd a0 j48_1).fProducer)), (.d (.int .u64 (rd a0 j48_1).fSeq)), (.d (.int .i64 (rd a0 j48_1).fVersion)), (.d (.sl (List.map byteD (rd a0 j48_1).fData)))])), (1, (.cells [(.d (.int .i64 j48_1))])), (0, (.cells [(.d (.int .u64 (0 : Int))), (.d (.int .u64 (0 : Int))), (.d (.int .u64 (0 : Int))), (.d (.int .i64 (0 : Int))), .nils]))]) (c' := 4) (show ACalls P (N 87) [(.d (.sl (List.map byteD ((rd a0 j48_1).fData))))] [] (.ap 3 1 (List.map byteD r77)) [(3, (.tok ((List.map byteD r77).length * 1)))] from ACalls.use (F87 hmix hc.2.2.2 e77) [(0, 3)] 1 rfl) rfl rfl rfl rfl (.cons (.refl _) .nil) (.refl _) (fun h => by cases h) rfl hasNil rfl rfl rfl rfl ?_
      refine RegV.p0 (v := (.ptr 2 4)) rfl rfl rfl ?_
      refine RegV.evN (own := false) (H' := [(2, (.cells [(.d (.int .u64 (rd a0 j48_1).fOffset)), (.d (.int .u64 (rd a0 j48_1).fProducer)), (.d (.int .u64 (rd a0 j48_1).fSeq)), (.d (.int .i64 (rd a0 j48_1).fVersion)), (.ap 3 1 (List.map byteD r77))])), (3, (.tok ((List.map byteD r77).length * 1))), (1, (.cells [(.d (.int .i64 j48_1))])), (0, (.cells [(.d (.int .u64 (0 : Int))), (.d (.int .u64 (0 : Int))), (.d (.int .u64 (0 : Int))), (.d (.int .i64 (0 : Int))), .nils]))]) (c' := 4) rfl rfl (by exact ⟨rfl, Nat.le_of_ble_eq_true rfl, rfl⟩) rfl rfl rfl rfl ?_
      refine RegV.nil0 ?_
      refine AWc.seq ?_
      refine AWc.rg hmix rfl rfl ?_
      refine RegV.ld (v := (.d (.agg [(.int .u64 (rd a0 j48_1).fOffset), (.int .u64 (rd a0 j48_1).fProducer), (.int .u64 (rd a0 j48_1).fSeq), (.int .i64 (rd a0 j48_1).fVersion), (.sl (List.map byteD r77))]))) (H' := [(2, (.cells [(.d (.int .u64 (rd a0 j48_1).fOffset)), (.d (.int .u64 (rd a0 j48_1).fProducer)), (.d (.int .u64 (rd a0 j48_1).fSeq)), (.d (.int .i64 (rd a0 j48_1).fVersion)), (.ap 3 1 (List.map byteD r77))])), (3, (.tok ((List.map byteD r77).length * 1))), (1, (.cells [(.d (.int .i64 j48_1))])), (0, (.cells [(.d (.int .u64 (0 : Int))), (.d (.int .u64 (0 : Int))), (.d (.int .u64 (0 : Int))), (.d (.int .i64 (0 : Int))), .nils]))]) rfl rfl (Nat.le_of_ble_eq_true rfl) rfl rfl rfl rfl rfl ?_
      refine RegV.evN (own := false) (H' := [(0, (.cells [(.d (.int .u64 (rd a0 j48_1).fOffset)), (.d (.int .u64 (rd a0 j48_1).fProducer)), (.d (.int .u64 (rd a0 j48_1).fSeq)), (.d (.int .i64 (rd a0 j48_1).fVersion)), (.d (.sl (List.map byteD r77)))])), (2, (.cells [(.d (.int .u64 (rd a0 j48_1).fOffset)), (.d (.int .u64 (rd a0 j48_1).fProducer)), (.d (.int .u64 (rd a0 j48_1).fSeq)), (.d (.int .i64 (rd a0 j48_1).fVersion)), (.ap 3 1 (List.map byteD r77))])), (3, (.tok ((List.map byteD r77).length * 1))), (1, (.cells [(.d (.int .i64 j48_1))]))]) (c' := 4) rfl rfl (by exact ⟨rfl, Nat.le_of_ble_eq_true rfl, rfl⟩) rfl rfl rfl rfl ?_
      refine RegV.p0 rfl rfl rfl ?_
      refine RegV.nil0 ?_
      have hr := Option.some.inj h
      subst hr
      exact AWc.ret (canQ (N := 31) (k := 1) (l' := [(4, (.ptr 0 0)), (5, (.d (.bool true)))]) (H' := [(0, (.cells [(.d (.int .u64 ((rd a0 j48_1).fOffset))), (.d (.int .u64 ((rd a0 j48_1).fProducer))), (.d (.int .u64 ((rd a0 j48_1).fSeq))), (.d (.int .i64 ((rd a0 j48_1).fVersion))), (.d (.sl (List.map byteD r77)))]))]) rfl ⟨rfl, [], [], rfl, rfl, ⟨⟨_, rfl, (.refl _)⟩, rfl, ⟨⟨_, rfl, (.refl _)⟩, rfl, trivial⟩⟩, ⟨⟨_, rfl, (.refl _)⟩, rfl, rfl, trivial⟩⟩ (doneA (.inr rfl) rfl ⟨(Nat.le_of_ble_eq_true rfl), ⟨trivial, trivial⟩⟩ (.refl _) hasNil))
/-- courant/batch.Look -/
def C34 (N : Nat → Nat) : AFunc := { n := 40, params := 3, res := [.tmp 6, .tmp 7, .tmp 8], body :=
 (.seq (.region false [⟨(some 6), .mv (.k (.d (.int .u64 0))), none, []⟩,
   ⟨(some 7), .mv (.k (.d (.bool false))), none, [0]⟩,
   ⟨(some 8), .mv (.k (.d (.int .i64 0))), none, [1]⟩])
  (.seq (.seq (.region false [⟨(some 11), .mv (.t 1), none, []⟩,
     ⟨(some 12), .bin .eql (.t 11) (.k (.d (.int .u64 0))), none, [0]⟩,
     ⟨(some 13), .mv (.t 12), none, [1]⟩,
     ⟨(some 14), .mv (.t 2), (some (13, false)), [2]⟩,
     ⟨(some 15), .bin .eql (.t 14) (.k (.d (.int .u64 0))), (some (13, false)), [3, 2]⟩,
     ⟨(some 16), .pick (.t 13) (.k (.d (.bool true))) (.t 15), none, [2, 4]⟩])
    (.cond (.t 16) (.seq (.region false [⟨(some 6), .mv (.k (.d (.int .u64 0))), none, []⟩,
       ⟨(some 7), .mv (.k (.d (.bool false))), none, [0]⟩,
       ⟨(some 8), .mv (.k (.d (.int .i64 1))), none, [1, 0]⟩])
      .ret)
     (.skip)))
   (.seq (.region false [⟨(some 18), .mv (.t 0), none, []⟩,
     ⟨(some 19), .mv (.t 1), none, []⟩,
     ⟨(some 20), .call (.k (.d (.fn (N 36)))) [(.t 18), (.t 19)], none, [0, 1]⟩,
     ⟨(some 17), .mv (.t 20), none, [2]⟩,
     ⟨(some 21), .ext (.t 17) 0, none, [3]⟩,
     ⟨(some 22), .ext (.t 17) 1, none, [3]⟩,
     ⟨(some 9), .alloc [(.int .u64 0), (.int .u64 0), (.int .u64 0), (.int .i64 0), (.sl [])], none, []⟩,
     ⟨none, .store (.t 9) (.t 21) 5, none, [6, 4, 2, 0, 1, 3]⟩,
     ⟨(some 10), .mv (.t 22), none, [5, 7, 0, 1, 2, 3, 4, 6]⟩])
    (.seq (.block 0 (.seq (.region false [⟨(some 24), .mv (.t 10), none, []⟩,
        ⟨(some 25), .un .not (.t 24), none, [0]⟩,
        ⟨(some 26), .mv (.t 25), none, [1]⟩,
        ⟨(some 27), .mv (.t 2), (some (26, false)), [2]⟩,
        ⟨(some 28), .bin .sub (.t 27) (.k (.d (.int .u64 1))), (some (26, false)), [3, 2]⟩,
        ⟨(some 29), .faddr (.t 9) 2, (some (26, false)), [2]⟩,
        ⟨(some 30), .load (.t 29) 1 false, (some (26, false)), [5, 2]⟩,
        ⟨(some 31), .bin .eql (.t 28) (.t 30), (some (26, false)), [4, 6, 2]⟩,
        ⟨(some 32), .pick (.t 26) (.k (.d (.bool true))) (.t 31), none, [2, 7]⟩,
        ⟨(some 23), .mv (.t 32), none, [8, 2]⟩])
       (.cond (.t 23) (.seq (.region false [⟨(some 6), .mv (.k (.d (.int .u64 0))), none, []⟩,
          ⟨(some 7), .mv (.k (.d (.bool false))), none, [0]⟩,
          ⟨(some 8), .mv (.k (.d (.int .i64 0))), none, [1, 0]⟩])
         .ret)
        (.seq (.region false [⟨(some 34), .mv (.t 2), none, []⟩,
          ⟨(some 35), .faddr (.t 9) 2, none, []⟩,
          ⟨(some 36), .load (.t 35) 1 false, none, [1]⟩,
          ⟨(some 37), .bin .eql (.t 34) (.t 36), none, [0, 2]⟩,
          ⟨(some 33), .mv (.t 37), none, [3]⟩])
         (.cond (.t 33) (.seq (.region false [⟨(some 38), .faddr (.t 9) 0, none, []⟩,
            ⟨(some 39), .load (.t 38) 1 false, none, [0]⟩,
            ⟨(some 6), .mv (.t 39), none, [1, 0]⟩,
            ⟨(some 7), .mv (.k (.d (.bool true))), none, [2, 0, 1]⟩,
            ⟨(some 8), .mv (.k (.d (.int .i64 0))), none, [3, 0, 1, 2]⟩])
           .ret)
          (.skip))))))
     (.seq (.region false [⟨(some 6), .mv (.k (.d (.int .u64 0))), none, []⟩,
       ⟨(some 7), .mv (.k (.d (.bool false))), none, [0]⟩,
       ⟨(some 8), .mv (.k (.d (.int .i64 15))), none, [1, 0]⟩])
      .ret))))) }
def HC34 (P : Program) (N : Nat → Nat) : Prop := HasF P (N 34) (C34 N) ∧ HC36 P N
def f34_j53 (k : Nat) (a2 : Int) (r31 : (Bool × Int × Int × Int × Int × (List UInt8))) (j53_1 : Bool) : Option (Int × Bool × Int) := cond j53_1 (some ((0 : Int), false, (0 : Int))) (cond (decide (a2 = r31.2.2.2.1)) (some (r31.2.1, true, (0 : Int))) (some ((0 : Int), false, (15 : Int))))
def f34_j17 (k : Nat) (a0 : (List TMessage)) (a1 : Int) (a2 : Int) (j17_1 : Bool) : Option (Int × Bool × Int) := cond j17_1 (some ((0 : Int), false, (1 : Int))) ((f36 k a0 a1).bind fun r31 => cond (!r31.1) (f34_j53 k a2 r31 true) (f34_j53 k a2 r31 (decide ((IntKind.u64.wrap (a2 - (1 : Int))) = r31.2.2.2.1))))
def f34 (k : Nat) (a0 : (List TMessage)) (a1 : Int) (a2 : Int) : Option (Int × Bool × Int) := cond (decide (a1 = (0 : Int))) (f34_j17 k a0 a1 a2 true) (f34_j17 k a0 a1 a2 (decide (a2 = (0 : Int))))
theorem F34 {P : Program} {N : Nat → Nat} (hmix : P.follows .mixedOrders = true) (hc : HC34 P N) {k : Nat} {a0 : (List TMessage)} {a1 : Int} {a2 : Int} {r : (Int × Bool × Int)} (h : f34 k a0 a1 a2 = some r) :
    ACalls P (N 34) [(.d (.sl (List.map TMessage.enc a0))), (.d (.int .u64 a1)), (.d (.int .u64 a2))] [] (.tup [(.d (.int .u64 r.1)), (.d (.bool r.2.1)), (.d (.int .i64 r.2.2))]) [] := by
  refine acalls_canon (F := C34 N) hc.1 0 0 rfl ?_
  unfold f34 at h
  dsimp only [C34, startL]
  refine AWc.seq ?_
  refine AWc.rg hmix rfl rfl ?_
  refine RegV.p0 rfl rfl rfl ?_
  refine RegV.p0 rfl rfl rfl ?_
  refine RegV.p0 rfl rfl rfl ?_
  refine RegV.nil0 ?_
  refine AWc.seq ?_
  refine AWc.seqS (N := 40) 0 (fun (z : Bool) => [(0, (.d (.sl (List.map TMessage.enc a0)))), (1, (.d (.int .u64 a1))), (2, (.d (.int .u64 a2))), (16, (.d (.bool z)))]) (fun z => []) (fun z => f34_j17 k a0 a1 a2 z = some r) rfl_le ?_ ?_
  · refine AWc.rg hmix rfl rfl ?_
    refine RegV.p0 rfl rfl rfl ?_
    refine RegV.p0 (v := (.d (.bool (decide (a1 = (0 : Int)))))) rfl rfl rfl ?_
    refine RegV.p0 rfl rfl rfl ?_
    refine RegV.split (fun c13 => ?_) (fun c13 => ?_)
    · have h := cond_pos c13 h
      refine RegV.noS rfl rfl ?_
      refine RegV.noS rfl rfl ?_
      refine RegV.p0 rfl rfl rfl ?_
      refine RegV.nil0 ?_
      exact ⟨true, h, ⟨rfl, [], [], rfl, rfl, ⟨⟨_, rfl, (.refl _)⟩, rfl, ⟨⟨_, rfl, (.refl _)⟩, rfl, ⟨⟨_, rfl, (.refl _)⟩, rfl, ⟨⟨_, rfl, (.refl _)⟩, rfl, trivial⟩⟩⟩⟩,  trivial⟩⟩
    · have h := cond_neg c13 h
      refine RegV.p0 rfl rfl rfl ?_
      refine RegV.p0 (v := (.d (.bool (decide (a2 = (0 : Int)))))) rfl rfl rfl ?_
      refine RegV.p0 rfl rfl rfl ?_
      refine RegV.nil0 ?_
      exact ⟨(decide (a2 = (0 : Int))), h, ⟨rfl, [], [], rfl, rfl, ⟨⟨_, rfl, (.refl _)⟩, rfl, ⟨⟨_, rfl, (.refl _)⟩, rfl, ⟨⟨_, rfl, (.refl _)⟩, rfl, ⟨⟨_, rfl, (.refl _)⟩, rfl, trivial⟩⟩⟩⟩,  trivial⟩⟩
  · intro j17_1 h
    unfold f34_j17 at h
    refine AWc.cond rfl (fun c17 => ?_) (fun c17 => ?_)
    · have h := cond_pos c17 h
      refine AWc.seq ?_
      refine AWc.rg hmix rfl rfl ?_
      refine RegV.p0 rfl rfl rfl ?_
      refine RegV.p0 rfl rfl rfl ?_
      refine RegV.p0 rfl rfl rfl ?_
      refine RegV.nil0 ?_
      have hr := Option.some.inj h
      subst hr
      exact AWc.ret (canQ (N := 40) (k := 0) (l' := [(6, (.d (.int .u64 (0 : Int)))), (7, (.d (.bool false))), (8, (.d (.int .i64 (1 : Int))))]) (H' := []) rfl ⟨rfl, [], [], rfl, rfl, ⟨⟨_, rfl, (.refl _)⟩, rfl, ⟨⟨_, rfl, (.refl _)⟩, rfl, ⟨⟨_, rfl, (.refl _)⟩, rfl, trivial⟩⟩⟩,  trivial⟩ (doneA (.inr rfl) rfl ⟨trivial, ⟨trivial, ⟨trivial, trivial⟩⟩⟩ (.refl _) hasNil))
    · have h := cond_neg c17 h
      refine AWc.skip ?_
      refine AWc.seq ?_
      refine AWc.rg hmix rfl rfl ?_
      refine RegV.p0 rfl rfl rfl ?_
      refine RegV.p0 rfl rfl rfl ?_
      obtain ⟨r31, e31, h⟩ := bind_some h
      refine RegV.call0 (F36 hmix hc.2 e31) rfl rfl rfl rfl (.cons (.refl _) (.cons (.refl _) .nil)) rfl ?_
      refine RegV.p0 rfl rfl rfl ?_
      refine RegV.p0 rfl rfl rfl ?_
      refine RegV.p0 rfl rfl rfl ?_
      refine RegV.evS (own := false) (v := (.ptr 0 0)) (H' := [(0, (.cells [(.d (.int .u64 (0 : Int))), (.d (.int .u64 (0 : Int))), (.d (.int .u64 (0 : Int))), (.d (.int .i64 (0 : Int))), .nils]))]) (c' := 1) rfl rfl trivial rfl rfl rfl rfl rfl rfl ?_
      refine RegV.evN (own := false) (H' := [(0, (.cells [(.d (.int .u64 r31.2.1)), (.d (.int .u64 r31.2.2.1)), (.d (.int .u64 r31.2.2.2.1)), (.d (.int .i64 r31.2.2.2.2.1)), (.d (.sl (List.map byteD r31.2.2.2.2.2)))]))]) (c' := 1) rfl rfl (by exact ⟨rfl, Nat.le_of_ble_eq_true rfl, rfl⟩) rfl rfl rfl rfl ?_
      refine RegV.p0 rfl rfl rfl ?_
      refine RegV.nil0 ?_
      refine AWc.seq ?_
      refine AWc.block ?_
      refine AWc.seqS (N := 40) 1 (fun (z : Bool) => [(2, (.d (.int .u64 a2))), (9, (.ptr 0 0)), (23, (.d (.bool z)))]) (fun z => [(0, (.cells [(.d (.int .u64 r31.2.1)), (.d (.int .u64 r31.2.2.1)), (.d (.int .u64 r31.2.2.2.1)), (.d (.int .i64 r31.2.2.2.2.1)), (.d (.sl (List.map byteD r31.2.2.2.2.2)))]))]) (fun z => f34_j53 k a2 r31 z = some r) rfl_le ?_ ?_
      · refine AWc.rg hmix rfl rfl ?_
        refine RegV.p0 rfl rfl rfl ?_
        refine RegV.p0 (v := (.d (.bool (!r31.1)))) rfl rfl rfl ?_
        refine RegV.p0 rfl rfl rfl ?_
        refine RegV.split (fun c45 => ?_) (fun c45 => ?_)
        · have h := cond_pos c45 h
          refine RegV.noS rfl rfl ?_
          refine RegV.noS rfl rfl ?_
          refine RegV.noS rfl rfl ?_
          refine RegV.noS rfl rfl ?_
          refine RegV.noS rfl rfl ?_
          refine RegV.p0 rfl rfl rfl ?_
          refine RegV.p0 rfl rfl rfl ?_
          refine RegV.nil0 ?_
          exact ⟨true, h, ⟨rfl, [], [], rfl, rfl, ⟨⟨_, rfl, (.refl _)⟩, rfl, ⟨⟨_, rfl, (.refl _)⟩, rfl, ⟨⟨_, rfl, (.refl _)⟩, rfl, trivial⟩⟩⟩, ⟨⟨_, rfl, (.refl _)⟩, rfl, rfl, trivial⟩⟩⟩
        · have h := cond_neg c45 h
          refine RegV.p0 rfl rfl rfl ?_
          refine RegV.p0 (v := (.d (.int .u64 (IntKind.u64.wrap (a2 - (1 : Int)))))) rfl rfl rfl ?_
          refine RegV.p0 (v := (.ptr 0 2)) rfl rfl rfl ?_
          refine RegV.ld (v := (.d (.int .u64 r31.2.2.2.1))) (H' := [(0, (.cells [(.d (.int .u64 r31.2.1)), (.d (.int .u64 r31.2.2.1)), (.d (.int .u64 r31.2.2.2.1)), (.d (.int .i64 r31.2.2.2.2.1)), (.d (.sl (List.map byteD r31.2.2.2.2.2)))]))]) rfl rfl trivial rfl rfl rfl rfl rfl ?_
          refine RegV.p0 (v := (.d (.bool (decide ((IntKind.u64.wrap (a2 - (1 : Int))) = r31.2.2.2.1))))) rfl rfl rfl ?_
          refine RegV.p0 rfl rfl rfl ?_
          refine RegV.p0 rfl rfl rfl ?_
          refine RegV.nil0 ?_
          exact ⟨(decide ((IntKind.u64.wrap (a2 - (1 : Int))) = r31.2.2.2.1)), h, ⟨rfl, [], [], rfl, rfl, ⟨⟨_, rfl, (.refl _)⟩, rfl, ⟨⟨_, rfl, (.refl _)⟩, rfl, ⟨⟨_, rfl, (.refl _)⟩, rfl, trivial⟩⟩⟩, ⟨⟨_, rfl, (.refl _)⟩, rfl, rfl, trivial⟩⟩⟩
      · intro j53_1 h
        unfold f34_j53 at h
        refine AWc.cond rfl (fun c53 => ?_) (fun c53 => ?_)
        · have h := cond_pos c53 h
          refine AWc.seq ?_
          refine AWc.rg hmix rfl rfl ?_
          refine RegV.p0 rfl rfl rfl ?_
          refine RegV.p0 rfl rfl rfl ?_
          refine RegV.p0 rfl rfl rfl ?_
          refine RegV.nil0 ?_
          have hr := Option.some.inj h
          subst hr
          exact AWc.ret (canQ (N := 40) (k := 0) (l' := [(6, (.d (.int .u64 (0 : Int)))), (7, (.d (.bool false))), (8, (.d (.int .i64 (0 : Int))))]) (H' := []) rfl ⟨rfl, [], [], rfl, rfl, ⟨⟨_, rfl, (.refl _)⟩, rfl, ⟨⟨_, rfl, (.refl _)⟩, rfl, ⟨⟨_, rfl, (.refl _)⟩, rfl, trivial⟩⟩⟩,  trivial⟩ (doneA (.inr rfl) rfl ⟨trivial, ⟨trivial, ⟨trivial, trivial⟩⟩⟩ (.refl _) hasNil))
        · have h := cond_neg c53 h
          refine AWc.seq ?_
          refine AWc.rg hmix rfl rfl ?_
          refine RegV.p0 rfl rfl rfl ?_
          refine RegV.p0 (v := (.ptr 0 2)) rfl rfl rfl ?_
          refine RegV.ld (v := (.d (.int .u64 r31.2.2.2.1))) (H' := [(0, (.cells [(.d (.int .u64 r31.2.1)), (.d (.int .u64 r31.2.2.1)), (.d (.int .u64 r31.2.2.2.1)), (.d (.int .i64 r31.2.2.2.2.1)), (.d (.sl (List.map byteD r31.2.2.2.2.2)))]))]) rfl rfl trivial rfl rfl rfl rfl rfl ?_
          refine RegV.p0 (v := (.d (.bool (decide (a2 = r31.2.2.2.1))))) rfl rfl rfl ?_
          refine RegV.p0 rfl rfl rfl ?_
          refine RegV.nil0 ?_
          refine AWc.cond rfl (fun c69 => ?_) (fun c69 => ?_)
          · have h := cond_pos c69 h
            refine AWc.seq ?_
            refine AWc.rg hmix rfl rfl ?_
            refine RegV.p0 (v := (.ptr 0 0)) rfl rfl rfl ?_
            refine RegV.ld (v := (.d (.int .u64 r31.2.1))) (H' := [(0, (.cells [(.d (.int .u64 r31.2.1)), (.d (.int .u64 r31.2.2.1)), (.d (.int .u64 r31.2.2.2.1)), (.d (.int .i64 r31.2.2.2.2.1)), (.d (.sl (List.map byteD r31.2.2.2.2.2)))]))]) rfl rfl trivial rfl rfl rfl rfl rfl ?_
            refine RegV.p0 rfl rfl rfl ?_
            refine RegV.p0 rfl rfl rfl ?_
            refine RegV.p0 rfl rfl rfl ?_
            refine RegV.nil0 ?_
            have hr := Option.some.inj h
            subst hr
            exact AWc.ret (canQ (N := 40) (k := 0) (l' := [(6, (.d (.int .u64 r31.2.1))), (7, (.d (.bool true))), (8, (.d (.int .i64 (0 : Int))))]) (H' := []) rfl ⟨rfl, [], [], rfl, rfl, ⟨⟨_, rfl, (.refl _)⟩, rfl, ⟨⟨_, rfl, (.refl _)⟩, rfl, ⟨⟨_, rfl, (.refl _)⟩, rfl, trivial⟩⟩⟩,  trivial⟩ (doneA (.inr rfl) rfl ⟨trivial, ⟨trivial, ⟨trivial, trivial⟩⟩⟩ (.refl _) hasNil))
          · have h := cond_neg c69 h
            refine AWc.skip ?_
            refine AWc.seq ?_
            refine AWc.rg hmix rfl rfl ?_
            refine RegV.p0 rfl rfl rfl ?_
            refine RegV.p0 rfl rfl rfl ?_
            refine RegV.p0 rfl rfl rfl ?_
            refine RegV.nil0 ?_
            have hr := Option.some.inj h
            subst hr
            exact AWc.ret (canQ (N := 40) (k := 0) (l' := [(6, (.d (.int .u64 (0 : Int)))), (7, (.d (.bool false))), (8, (.d (.int .i64 (15 : Int))))]) (H' := []) rfl ⟨rfl, [], [], rfl, rfl, ⟨⟨_, rfl, (.refl _)⟩, rfl, ⟨⟨_, rfl, (.refl _)⟩, rfl, ⟨⟨_, rfl, (.refl _)⟩, rfl, trivial⟩⟩⟩,  trivial⟩ (doneA (.inr rfl) rfl ⟨trivial, ⟨trivial, ⟨trivial, trivial⟩⟩⟩ (.refl _) hasNil))
/-- courant/courantref24.Last -/
def C37 (N : Nat → Nat) : AFunc := { n := 26, params := 2, res := [.cell 4 5 true, .tmp 5], body :=
 (.seq (.region false [⟨(some 4), .alloc [(.int .u64 0), (.int .u64 0), (.int .u64 0), (.int .i64 0), (.sl [])], none, []⟩,
   ⟨(some 5), .mv (.k (.d (.bool false))), none, []⟩])
  (.seq (.seq (.region false [⟨(some 7), .mv (.t 0), none, []⟩,
     ⟨(some 8), .len (.t 7), none, [0]⟩,
     ⟨(some 9), .bin .sub (.t 8) (.k (.d (.int .i64 1))), none, [1]⟩,
     ⟨(some 6), .mv (.t 9), none, [2, 0, 1]⟩])
    (.block 0 (.loop (.seq (.seq (.region false [⟨(some 10), .mv (.t 6), none, []⟩,
         ⟨(some 11), .bin .geq (.t 10) (.k (.d (.int .i64 0))), none, [0]⟩])
        (.cond (.t 11) (.skip)
         (.exit 0)))
       (.seq (.block 1 (.seq (.region false [⟨(some 14), .mv (.t 0), none, []⟩,
           ⟨(some 15), .mv (.t 6), none, []⟩,
           ⟨(some 16), .iaddr (.t 14) (.t 15) 5, none, [0, 1]⟩,
           ⟨(some 17), .faddr (.t 16) 1, none, [2]⟩,
           ⟨(some 18), .load (.t 17) 1 false, none, [3]⟩,
           ⟨(some 19), .mv (.t 1), none, []⟩,
           ⟨(some 20), .bin .eql (.t 18) (.t 19), none, [4, 5]⟩])
          (.cond (.t 20) (.seq (.region false [⟨(some 21), .mv (.t 0), none, []⟩,
             ⟨(some 22), .mv (.t 6), none, []⟩,
             ⟨(some 23), .iaddr (.t 21) (.t 22) 5, none, [0, 1]⟩,
             ⟨(some 24), .load (.t 23) 5 true, none, [2]⟩,
             ⟨none, .store (.t 4) (.t 24) 5, none, [3, 0, 1, 2]⟩,
             ⟨(some 5), .mv (.k (.d (.bool true))), none, [4, 0, 1, 2, 3]⟩])
            .ret)
           (.skip))))
        (.region false [⟨(some 12), .mv (.t 6), none, []⟩,
         ⟨(some 13), .bin .sub (.t 12) (.k (.d (.int .i64 1))), none, [0]⟩,
         ⟨(some 6), .mv (.t 13), none, [1, 0]⟩]))))))
   (.seq (.region false [⟨(some 25), .build [(.int .u64 0), (.int .u64 0), (.int .u64 0), (.int .i64 0), (.sl [])] [], none, []⟩,
     ⟨none, .store (.t 4) (.t 25) 5, none, [0]⟩,
     ⟨(some 5), .mv (.k (.d (.bool false))), none, [1, 0]⟩])
    .ret))) }
def HC37 (P : Program) (N : Nat → Nat) : Prop := HasF P (N 37) (C37 N)
def f37_j54 (k : Nat) : Option (Bool × Int × Int × Int × Int × (List UInt8)) := some (false, (0 : Int), (0 : Int), (0 : Int), (0 : Int), ([] : List UInt8))
def f37_l14 (a0 : (List TMessage)) (a1 : Int) : Nat → Int → Option (LR2 Unit Unit (Bool × Int × Int × Int × Int × (List UInt8)))
  | 0, _ => none
  | k + 1, y14_1 => cond (decide (y14_1 ≥ (0 : Int))) (gd (0 ≤ y14_1 ∧ y14_1 < ((a0.length : Nat) : Int)) (cond (decide ((rd a0 y14_1).fProducer = a1)) (gd (0 ≤ y14_1 ∧ y14_1 < ((a0.length : Nat) : Int)) (some (.r (true, (rd a0 y14_1).fOffset, (rd a0 y14_1).fProducer, (rd a0 y14_1).fSeq, (rd a0 y14_1).fVersion, (rd a0 y14_1).fData)))) (f37_l14 a0 a1 k (IntKind.i64.wrap (y14_1 - (1 : Int)))))) (some (.b0 ()))
def f37 (k : Nat) (a0 : (List TMessage)) (a1 : Int) : Option (Bool × Int × Int × Int × Int × (List UInt8)) := (f37_l14 a0 a1 k (IntKind.i64.wrap (((a0.length : Nat) : Int) - (1 : Int)))).bind fun o14 => match o14 with | .b0 () => f37_j54 k | .r x => some x | _ => none
theorem F37 {P : Program} {N : Nat → Nat} (hmix : P.follows .mixedOrders = true) (hc : HC37 P N) {k : Nat} {a0 : (List TMessage)} {a1 : Int} {r : (Bool × Int × Int × Int × Int × (List UInt8))} (h : f37 k a0 a1 = some r) :
    ACalls P (N 37) [(.d (.sl (List.map TMessage.enc a0))), (.d (.int .u64 a1))] [] (.tup [(.d (.agg [(.int .u64 r.2.1), (.int .u64 r.2.2.1), (.int .u64 r.2.2.2.1), (.int .i64 r.2.2.2.2.1), (.sl (List.map byteD r.2.2.2.2.2))])), (.d (.bool r.1))]) [] := by
  refine acalls_canon (F := C37 N) hc 0 0 rfl ?_
  unfold f37 at h
  dsimp only [C37, startL]
  refine AWc.seq ?_
  refine AWc.rg hmix rfl rfl ?_
  refine RegV.evS (own := false) (v := (.ptr 0 0)) (H' := [(0, (.cells [(.d (.int .u64 (0 : Int))), (.d (.int .u64 (0 : Int))), (.d (.int .u64 (0 : Int))), (.d (.int .i64 (0 : Int))), .nils]))]) (c' := 1) rfl rfl trivial rfl rfl rfl rfl rfl rfl ?_
  refine RegV.p0 rfl rfl rfl ?_
  refine RegV.nil0 ?_
  refine AWc.seqS (N := 26) 1 (fun (z : Unit) => [(4, (.ptr 0 0))]) (fun z => [(0, (.cells [(.d (.int .u64 (0 : Int))), (.d (.int .u64 (0 : Int))), (.d (.int .u64 (0 : Int))), (.d (.int .i64 (0 : Int))), .nils]))]) (fun z => f37_j54 k = some r) rfl_le ?_ ?_
  · refine AWc.seq ?_
    refine AWc.rg hmix rfl rfl ?_
    refine RegV.p0 rfl rfl rfl ?_
    refine RegV.len (xs := a0) (e := TMessage.enc) rfl rfl rfl rfl ?_
    refine RegV.p0 (v := (.d (.int .i64 (IntKind.i64.wrap (((a0.length : Nat) : Int) - (1 : Int)))))) rfl rfl rfl ?_
    refine RegV.p0 rfl rfl rfl ?_
    refine RegV.nil0 ?_
    obtain ⟨o14, h14, h⟩ := bind_some h
    refine AWc.block ?_
    refine AWc.loopK (N := 26) 1 (fun (x : Int) => [(0, (.d (.sl (List.map TMessage.enc a0)))), (1, (.d (.int .u64 a1))), (4, (.ptr 0 0)), (6, (.d (.int .i64 x)))]) (fun x => [(0, (.cells [(.d (.int .u64 (0 : Int))), (.d (.int .u64 (0 : Int))), (.d (.int .u64 (0 : Int))), (.d (.int .i64 (0 : Int))), .nils]))]) (fun k x => f37_l14 a0 a1 k x = some o14) k (IntKind.i64.wrap (((a0.length : Nat) : Int) - (1 : Int))) rfl_le (fun x hx => by cases hx) h14 ⟨rfl, [], [], rfl, rfl, ⟨⟨_, rfl, (.refl _)⟩, rfl, ⟨⟨_, rfl, (.refl _)⟩, rfl, ⟨⟨_, rfl, (.refl _)⟩, rfl, ⟨⟨_, rfl, (.refl _)⟩, rfl, trivial⟩⟩⟩⟩, ⟨⟨_, rfl, (.refl _)⟩, rfl, rfl, trivial⟩⟩ ?_
    clear h14
    intro k
    intro y14_1 h14
    rw [f37_l14] at h14
    refine AWc.seq ?_
    refine AWc.seq ?_
    refine AWc.rg hmix rfl rfl ?_
    refine RegV.p0 rfl rfl rfl ?_
    refine RegV.p0 (v := (.d (.bool (decide (y14_1 ≥ (0 : Int)))))) rfl rfl rfl ?_
    refine RegV.nil0 ?_
    refine AWc.cond rfl (fun c22 => ?_) (fun c22 => ?_)
    · have h14 := cond_pos c22 h14
      refine AWc.skip ?_
      refine AWc.seq ?_
      refine AWc.block ?_
      refine AWc.seq ?_
      refine AWc.rg hmix rfl rfl ?_
      refine RegV.p0 rfl rfl rfl ?_
      refine RegV.p0 rfl rfl rfl ?_
      obtain ⟨b32, h14⟩ := gd_some h14
      refine RegV.iad (xs := a0) (e := TMessage.enc) rfl rfl rfl rfl (fun _ => rfl) b32 rfl ?_
      refine RegV.p0 (v := (.cp (TMessage.enc (rd a0 y14_1)) 1)) rfl rfl rfl ?_
      refine RegV.p0 (v := (.d (.int .u64 (rd a0 y14_1).fProducer))) rfl rfl rfl ?_
      refine RegV.p0 rfl rfl rfl ?_
      refine RegV.p0 (v := (.d (.bool (decide ((rd a0 y14_1).fProducer = a1))))) rfl rfl rfl ?_
      refine RegV.nil0 ?_
      refine AWc.cond rfl (fun c37 => ?_) (fun c37 => ?_)
      · have h14 := cond_pos c37 h14
        refine AWc.seq ?_
        refine AWc.rg hmix rfl rfl ?_
        refine RegV.p0 rfl rfl rfl ?_
        refine RegV.p0 rfl rfl rfl ?_
        obtain ⟨b43, h14⟩ := gd_some h14
        refine RegV.iad (xs := a0) (e := TMessage.enc) rfl rfl rfl rfl (fun _ => rfl) b43 rfl ?_
        refine RegV.p1 (v := (.d (TMessage.enc (rd a0 y14_1)))) rfl rfl rfl rfl rfl ?_
        refine RegV.evN (own := false) (H' := [(0, (.cells [(.d (.int .u64 (rd a0 y14_1).fOffset)), (.d (.int .u64 (rd a0 y14_1).fProducer)), (.d (.int .u64 (rd a0 y14_1).fSeq)), (.d (.int .i64 (rd a0 y14_1).fVersion)), (.d (.sl (List.map byteD (rd a0 y14_1).fData)))]))]) (c' := 1) rfl rfl (by exact ⟨rfl, Nat.le_of_ble_eq_true rfl, rfl⟩) rfl rfl rfl rfl ?_
        refine RegV.p0 rfl rfl rfl ?_
        refine RegV.nil0 ?_
        cases h14
        dsimp only at h
        have hr := Option.some.inj h
        subst hr
        exact AWc.ret (canQ (N := 26) (k := 1) (l' := [(4, (.ptr 0 0)), (5, (.d (.bool true)))]) (H' := [(0, (.cells [(.d (.int .u64 ((rd a0 y14_1).fOffset))), (.d (.int .u64 ((rd a0 y14_1).fProducer))), (.d (.int .u64 ((rd a0 y14_1).fSeq))), (.d (.int .i64 ((rd a0 y14_1).fVersion))), (.d (.sl (List.map byteD ((rd a0 y14_1).fData))))]))]) rfl ⟨rfl, [], [], rfl, rfl, ⟨⟨_, rfl, (.refl _)⟩, rfl, ⟨⟨_, rfl, (.refl _)⟩, rfl, trivial⟩⟩, ⟨⟨_, rfl, (.refl _)⟩, rfl, rfl, trivial⟩⟩ (doneA (.inr rfl) rfl ⟨(Nat.le_of_ble_eq_true rfl), ⟨trivial, trivial⟩⟩ (.refl _) hasNil))
      · have h14 := cond_neg c37 h14
        refine AWc.skip ?_
        refine AWc.rg hmix rfl rfl ?_
        refine RegV.p0 rfl rfl rfl ?_
        refine RegV.p0 (v := (.d (.int .i64 (IntKind.i64.wrap (y14_1 - (1 : Int)))))) rfl rfl rfl ?_
        refine RegV.p0 rfl rfl rfl ?_
        refine RegV.nil0 ?_
        exact ⟨(IntKind.i64.wrap (y14_1 - (1 : Int))), h14, ⟨rfl, [], [], rfl, rfl, ⟨⟨_, rfl, (.refl _)⟩, rfl, ⟨⟨_, rfl, (.refl _)⟩, rfl, ⟨⟨_, rfl, (.refl _)⟩, rfl, ⟨⟨_, rfl, (.refl _)⟩, rfl, trivial⟩⟩⟩⟩, ⟨⟨_, rfl, (.refl _)⟩, rfl, rfl, trivial⟩⟩⟩
    · have h14 := cond_neg c22 h14
      cases h14
      dsimp only at h
      refine AWc.exit ?_
      refine inBlk_eq ?_
      exact ⟨(), h, ⟨rfl, [], [], rfl, rfl, ⟨⟨_, rfl, (.refl _)⟩, rfl, trivial⟩, ⟨⟨_, rfl, (.refl _)⟩, rfl, rfl, trivial⟩⟩⟩
  · rintro ⟨⟩ h
    unfold f37_j54 at h
    refine AWc.seq ?_
    refine AWc.rg hmix rfl rfl ?_
    refine RegV.p1 (v := (.d (.agg [(.int .u64 (0 : Int)), (.int .u64 (0 : Int)), (.int .u64 (0 : Int)), (.int .i64 (0 : Int)), (.sl (List.map byteD ([] : List UInt8)))]))) rfl rfl trivial rfl rfl ?_
    refine RegV.evN (own := false) (H' := [(0, (.cells [(.d (.int .u64 (0 : Int))), (.d (.int .u64 (0 : Int))), (.d (.int .u64 (0 : Int))), (.d (.int .i64 (0 : Int))), (.d (.sl (List.map byteD ([] : List UInt8))))]))]) (c' := 1) rfl rfl (by exact ⟨rfl, Nat.le_of_ble_eq_true rfl, rfl⟩) rfl rfl rfl rfl ?_
    refine RegV.p0 rfl rfl rfl ?_
    refine RegV.nil0 ?_
    have hr := Option.some.inj h
    subst hr
    exact AWc.ret (canQ (N := 26) (k := 1) (l' := [(4, (.ptr 0 0)), (5, (.d (.bool false)))]) (H' := [(0, (.cells [(.d (.int .u64 (0 : Int))), (.d (.int .u64 (0 : Int))), (.d (.int .u64 (0 : Int))), (.d (.int .i64 (0 : Int))), (.d (.sl (List.map byteD ([] : List UInt8))))]))]) rfl ⟨rfl, [], [], rfl, rfl, ⟨⟨_, rfl, (.refl _)⟩, rfl, ⟨⟨_, rfl, (.refl _)⟩, rfl, trivial⟩⟩, ⟨⟨_, rfl, (.refl _)⟩, rfl, rfl, trivial⟩⟩ (doneA (.inr rfl) rfl ⟨(Nat.le_of_ble_eq_true rfl), ⟨trivial, trivial⟩⟩ (.refl _) hasNil))
/-- courant/courantref24.Look -/
def C35 (N : Nat → Nat) : AFunc := { n := 40, params := 3, res := [.tmp 6, .tmp 7, .tmp 8], body :=
 (.seq (.region false [⟨(some 6), .mv (.k (.d (.int .u64 0))), none, []⟩,
   ⟨(some 7), .mv (.k (.d (.bool false))), none, [0]⟩,
   ⟨(some 8), .mv (.k (.d (.int .i64 0))), none, [1]⟩])
  (.seq (.seq (.region false [⟨(some 11), .mv (.t 1), none, []⟩,
     ⟨(some 12), .bin .eql (.t 11) (.k (.d (.int .u64 0))), none, [0]⟩,
     ⟨(some 13), .mv (.t 12), none, [1]⟩,
     ⟨(some 14), .mv (.t 2), (some (13, false)), [2]⟩,
     ⟨(some 15), .bin .eql (.t 14) (.k (.d (.int .u64 0))), (some (13, false)), [3, 2]⟩,
     ⟨(some 16), .pick (.t 13) (.k (.d (.bool true))) (.t 15), none, [2, 4]⟩])
    (.cond (.t 16) (.seq (.region false [⟨(some 6), .mv (.k (.d (.int .u64 0))), none, []⟩,
       ⟨(some 7), .mv (.k (.d (.bool false))), none, [0]⟩,
       ⟨(some 8), .mv (.k (.d (.int .i64 1))), none, [1, 0]⟩])
      .ret)
     (.skip)))
   (.seq (.region false [⟨(some 18), .mv (.t 0), none, []⟩,
     ⟨(some 19), .mv (.t 1), none, []⟩,
     ⟨(some 20), .call (.k (.d (.fn (N 37)))) [(.t 18), (.t 19)], none, [0, 1]⟩,
     ⟨(some 17), .mv (.t 20), none, [2]⟩,
     ⟨(some 21), .ext (.t 17) 0, none, [3]⟩,
     ⟨(some 22), .ext (.t 17) 1, none, [3]⟩,
     ⟨(some 9), .alloc [(.int .u64 0), (.int .u64 0), (.int .u64 0), (.int .i64 0), (.sl [])], none, []⟩,
     ⟨none, .store (.t 9) (.t 21) 5, none, [6, 4, 2, 0, 1, 3]⟩,
     ⟨(some 10), .mv (.t 22), none, [5, 7, 0, 1, 2, 3, 4, 6]⟩])
    (.seq (.block 0 (.seq (.region false [⟨(some 24), .mv (.t 10), none, []⟩,
        ⟨(some 25), .un .not (.t 24), none, [0]⟩,
        ⟨(some 26), .mv (.t 25), none, [1]⟩,
        ⟨(some 27), .mv (.t 2), (some (26, false)), [2]⟩,
        ⟨(some 28), .bin .sub (.t 27) (.k (.d (.int .u64 1))), (some (26, false)), [3, 2]⟩,
        ⟨(some 29), .faddr (.t 9) 2, (some (26, false)), [2]⟩,
        ⟨(some 30), .load (.t 29) 1 false, (some (26, false)), [5, 2]⟩,
        ⟨(some 31), .bin .eql (.t 28) (.t 30), (some (26, false)), [4, 6, 2]⟩,
        ⟨(some 32), .pick (.t 26) (.k (.d (.bool true))) (.t 31), none, [2, 7]⟩,
        ⟨(some 23), .mv (.t 32), none, [8, 2]⟩])
       (.cond (.t 23) (.seq (.region false [⟨(some 6), .mv (.k (.d (.int .u64 0))), none, []⟩,
          ⟨(some 7), .mv (.k (.d (.bool false))), none, [0]⟩,
          ⟨(some 8), .mv (.k (.d (.int .i64 0))), none, [1, 0]⟩])
         .ret)
        (.seq (.region false [⟨(some 34), .mv (.t 2), none, []⟩,
          ⟨(some 35), .faddr (.t 9) 2, none, []⟩,
          ⟨(some 36), .load (.t 35) 1 false, none, [1]⟩,
          ⟨(some 37), .bin .eql (.t 34) (.t 36), none, [0, 2]⟩,
          ⟨(some 33), .mv (.t 37), none, [3]⟩])
         (.cond (.t 33) (.seq (.region false [⟨(some 38), .faddr (.t 9) 0, none, []⟩,
            ⟨(some 39), .load (.t 38) 1 false, none, [0]⟩,
            ⟨(some 6), .mv (.t 39), none, [1, 0]⟩,
            ⟨(some 7), .mv (.k (.d (.bool true))), none, [2, 0, 1]⟩,
            ⟨(some 8), .mv (.k (.d (.int .i64 0))), none, [3, 0, 1, 2]⟩])
           .ret)
          (.skip))))))
     (.seq (.region false [⟨(some 6), .mv (.k (.d (.int .u64 0))), none, []⟩,
       ⟨(some 7), .mv (.k (.d (.bool false))), none, [0]⟩,
       ⟨(some 8), .mv (.k (.d (.int .i64 15))), none, [1, 0]⟩])
      .ret))))) }
def HC35 (P : Program) (N : Nat → Nat) : Prop := HasF P (N 35) (C35 N) ∧ HC37 P N
def f35_j53 (k : Nat) (a2 : Int) (r31 : (Bool × Int × Int × Int × Int × (List UInt8))) (j53_1 : Bool) : Option (Int × Bool × Int) := cond j53_1 (some ((0 : Int), false, (0 : Int))) (cond (decide (a2 = r31.2.2.2.1)) (some (r31.2.1, true, (0 : Int))) (some ((0 : Int), false, (15 : Int))))
def f35_j17 (k : Nat) (a0 : (List TMessage)) (a1 : Int) (a2 : Int) (j17_1 : Bool) : Option (Int × Bool × Int) := cond j17_1 (some ((0 : Int), false, (1 : Int))) ((f37 k a0 a1).bind fun r31 => cond (!r31.1) (f35_j53 k a2 r31 true) (f35_j53 k a2 r31 (decide ((IntKind.u64.wrap (a2 - (1 : Int))) = r31.2.2.2.1))))
def f35 (k : Nat) (a0 : (List TMessage)) (a1 : Int) (a2 : Int) : Option (Int × Bool × Int) := cond (decide (a1 = (0 : Int))) (f35_j17 k a0 a1 a2 true) (f35_j17 k a0 a1 a2 (decide (a2 = (0 : Int))))
theorem F35 {P : Program} {N : Nat → Nat} (hmix : P.follows .mixedOrders = true) (hc : HC35 P N) {k : Nat} {a0 : (List TMessage)} {a1 : Int} {a2 : Int} {r : (Int × Bool × Int)} (h : f35 k a0 a1 a2 = some r) :
    ACalls P (N 35) [(.d (.sl (List.map TMessage.enc a0))), (.d (.int .u64 a1)), (.d (.int .u64 a2))] [] (.tup [(.d (.int .u64 r.1)), (.d (.bool r.2.1)), (.d (.int .i64 r.2.2))]) [] := by
  refine acalls_canon (F := C35 N) hc.1 0 0 rfl ?_
  unfold f35 at h
  dsimp only [C35, startL]
  refine AWc.seq ?_
  refine AWc.rg hmix rfl rfl ?_
  refine RegV.p0 rfl rfl rfl ?_
  refine RegV.p0 rfl rfl rfl ?_
  refine RegV.p0 rfl rfl rfl ?_
  refine RegV.nil0 ?_
  refine AWc.seq ?_
  refine AWc.seqS (N := 40) 0 (fun (z : Bool) => [(0, (.d (.sl (List.map TMessage.enc a0)))), (1, (.d (.int .u64 a1))), (2, (.d (.int .u64 a2))), (16, (.d (.bool z)))]) (fun z => []) (fun z => f35_j17 k a0 a1 a2 z = some r) rfl_le ?_ ?_
  · refine AWc.rg hmix rfl rfl ?_
    refine RegV.p0 rfl rfl rfl ?_
    refine RegV.p0 (v := (.d (.bool (decide (a1 = (0 : Int)))))) rfl rfl rfl ?_
    refine RegV.p0 rfl rfl rfl ?_
    refine RegV.split (fun c13 => ?_) (fun c13 => ?_)
    · have h := cond_pos c13 h
      refine RegV.noS rfl rfl ?_
      refine RegV.noS rfl rfl ?_
      refine RegV.p0 rfl rfl rfl ?_
      refine RegV.nil0 ?_
      exact ⟨true, h, ⟨rfl, [], [], rfl, rfl, ⟨⟨_, rfl, (.refl _)⟩, rfl, ⟨⟨_, rfl, (.refl _)⟩, rfl, ⟨⟨_, rfl, (.refl _)⟩, rfl, ⟨⟨_, rfl, (.refl _)⟩, rfl, trivial⟩⟩⟩⟩,  trivial⟩⟩
    · have h := cond_neg c13 h
      refine RegV.p0 rfl rfl rfl ?_
      refine RegV.p0 (v := (.d (.bool (decide (a2 = (0 : Int)))))) rfl rfl rfl ?_
      refine RegV.p0 rfl rfl rfl ?_
      refine RegV.nil0 ?_
      exact ⟨(decide (a2 = (0 : Int))), h, ⟨rfl, [], [], rfl, rfl, ⟨⟨_, rfl, (.refl _)⟩, rfl, ⟨⟨_, rfl, (.refl _)⟩, rfl, ⟨⟨_, rfl, (.refl _)⟩, rfl, ⟨⟨_, rfl, (.refl _)⟩, rfl, trivial⟩⟩⟩⟩,  trivial⟩⟩
  · intro j17_1 h
    unfold f35_j17 at h
    refine AWc.cond rfl (fun c17 => ?_) (fun c17 => ?_)
    · have h := cond_pos c17 h
      refine AWc.seq ?_
      refine AWc.rg hmix rfl rfl ?_
      refine RegV.p0 rfl rfl rfl ?_
      refine RegV.p0 rfl rfl rfl ?_
      refine RegV.p0 rfl rfl rfl ?_
      refine RegV.nil0 ?_
      have hr := Option.some.inj h
      subst hr
      exact AWc.ret (canQ (N := 40) (k := 0) (l' := [(6, (.d (.int .u64 (0 : Int)))), (7, (.d (.bool false))), (8, (.d (.int .i64 (1 : Int))))]) (H' := []) rfl ⟨rfl, [], [], rfl, rfl, ⟨⟨_, rfl, (.refl _)⟩, rfl, ⟨⟨_, rfl, (.refl _)⟩, rfl, ⟨⟨_, rfl, (.refl _)⟩, rfl, trivial⟩⟩⟩,  trivial⟩ (doneA (.inr rfl) rfl ⟨trivial, ⟨trivial, ⟨trivial, trivial⟩⟩⟩ (.refl _) hasNil))
    · have h := cond_neg c17 h
      refine AWc.skip ?_
      refine AWc.seq ?_
      refine AWc.rg hmix rfl rfl ?_
      refine RegV.p0 rfl rfl rfl ?_
      refine RegV.p0 rfl rfl rfl ?_
      obtain ⟨r31, e31, h⟩ := bind_some h
      refine RegV.call0 (F37 hmix hc.2 e31) rfl rfl rfl rfl (.cons (.refl _) (.cons (.refl _) .nil)) rfl ?_
      refine RegV.p0 rfl rfl rfl ?_
      refine RegV.p0 rfl rfl rfl ?_
      refine RegV.p0 rfl rfl rfl ?_
      refine RegV.evS (own := false) (v := (.ptr 0 0)) (H' := [(0, (.cells [(.d (.int .u64 (0 : Int))), (.d (.int .u64 (0 : Int))), (.d (.int .u64 (0 : Int))), (.d (.int .i64 (0 : Int))), .nils]))]) (c' := 1) rfl rfl trivial rfl rfl rfl rfl rfl rfl ?_
      refine RegV.evN (own := false) (H' := [(0, (.cells [(.d (.int .u64 r31.2.1)), (.d (.int .u64 r31.2.2.1)), (.d (.int .u64 r31.2.2.2.1)), (.d (.int .i64 r31.2.2.2.2.1)), (.d (.sl (List.map byteD r31.2.2.2.2.2)))]))]) (c' := 1) rfl rfl (by exact ⟨rfl, Nat.le_of_ble_eq_true rfl, rfl⟩) rfl rfl rfl rfl ?_
      refine RegV.p0 rfl rfl rfl ?_
      refine RegV.nil0 ?_
      refine AWc.seq ?_
      refine AWc.block ?_
      refine AWc.seqS (N := 40) 1 (fun (z : Bool) => [(2, (.d (.int .u64 a2))), (9, (.ptr 0 0)), (23, (.d (.bool z)))]) (fun z => [(0, (.cells [(.d (.int .u64 r31.2.1)), (.d (.int .u64 r31.2.2.1)), (.d (.int .u64 r31.2.2.2.1)), (.d (.int .i64 r31.2.2.2.2.1)), (.d (.sl (List.map byteD r31.2.2.2.2.2)))]))]) (fun z => f35_j53 k a2 r31 z = some r) rfl_le ?_ ?_
      · refine AWc.rg hmix rfl rfl ?_
        refine RegV.p0 rfl rfl rfl ?_
        refine RegV.p0 (v := (.d (.bool (!r31.1)))) rfl rfl rfl ?_
        refine RegV.p0 rfl rfl rfl ?_
        refine RegV.split (fun c45 => ?_) (fun c45 => ?_)
        · have h := cond_pos c45 h
          refine RegV.noS rfl rfl ?_
          refine RegV.noS rfl rfl ?_
          refine RegV.noS rfl rfl ?_
          refine RegV.noS rfl rfl ?_
          refine RegV.noS rfl rfl ?_
          refine RegV.p0 rfl rfl rfl ?_
          refine RegV.p0 rfl rfl rfl ?_
          refine RegV.nil0 ?_
          exact ⟨true, h, ⟨rfl, [], [], rfl, rfl, ⟨⟨_, rfl, (.refl _)⟩, rfl, ⟨⟨_, rfl, (.refl _)⟩, rfl, ⟨⟨_, rfl, (.refl _)⟩, rfl, trivial⟩⟩⟩, ⟨⟨_, rfl, (.refl _)⟩, rfl, rfl, trivial⟩⟩⟩
        · have h := cond_neg c45 h
          refine RegV.p0 rfl rfl rfl ?_
          refine RegV.p0 (v := (.d (.int .u64 (IntKind.u64.wrap (a2 - (1 : Int)))))) rfl rfl rfl ?_
          refine RegV.p0 (v := (.ptr 0 2)) rfl rfl rfl ?_
          refine RegV.ld (v := (.d (.int .u64 r31.2.2.2.1))) (H' := [(0, (.cells [(.d (.int .u64 r31.2.1)), (.d (.int .u64 r31.2.2.1)), (.d (.int .u64 r31.2.2.2.1)), (.d (.int .i64 r31.2.2.2.2.1)), (.d (.sl (List.map byteD r31.2.2.2.2.2)))]))]) rfl rfl trivial rfl rfl rfl rfl rfl ?_
          refine RegV.p0 (v := (.d (.bool (decide ((IntKind.u64.wrap (a2 - (1 : Int))) = r31.2.2.2.1))))) rfl rfl rfl ?_
          refine RegV.p0 rfl rfl rfl ?_
          refine RegV.p0 rfl rfl rfl ?_
          refine RegV.nil0 ?_
          exact ⟨(decide ((IntKind.u64.wrap (a2 - (1 : Int))) = r31.2.2.2.1)), h, ⟨rfl, [], [], rfl, rfl, ⟨⟨_, rfl, (.refl _)⟩, rfl, ⟨⟨_, rfl, (.refl _)⟩, rfl, ⟨⟨_, rfl, (.refl _)⟩, rfl, trivial⟩⟩⟩, ⟨⟨_, rfl, (.refl _)⟩, rfl, rfl, trivial⟩⟩⟩
      · intro j53_1 h
        unfold f35_j53 at h
        refine AWc.cond rfl (fun c53 => ?_) (fun c53 => ?_)
        · have h := cond_pos c53 h
          refine AWc.seq ?_
          refine AWc.rg hmix rfl rfl ?_
          refine RegV.p0 rfl rfl rfl ?_
          refine RegV.p0 rfl rfl rfl ?_
          refine RegV.p0 rfl rfl rfl ?_
          refine RegV.nil0 ?_
          have hr := Option.some.inj h
          subst hr
          exact AWc.ret (canQ (N := 40) (k := 0) (l' := [(6, (.d (.int .u64 (0 : Int)))), (7, (.d (.bool false))), (8, (.d (.int .i64 (0 : Int))))]) (H' := []) rfl ⟨rfl, [], [], rfl, rfl, ⟨⟨_, rfl, (.refl _)⟩, rfl, ⟨⟨_, rfl, (.refl _)⟩, rfl, ⟨⟨_, rfl, (.refl _)⟩, rfl, trivial⟩⟩⟩,  trivial⟩ (doneA (.inr rfl) rfl ⟨trivial, ⟨trivial, ⟨trivial, trivial⟩⟩⟩ (.refl _) hasNil))
        · have h := cond_neg c53 h
          refine AWc.seq ?_
          refine AWc.rg hmix rfl rfl ?_
          refine RegV.p0 rfl rfl rfl ?_
          refine RegV.p0 (v := (.ptr 0 2)) rfl rfl rfl ?_
          refine RegV.ld (v := (.d (.int .u64 r31.2.2.2.1))) (H' := [(0, (.cells [(.d (.int .u64 r31.2.1)), (.d (.int .u64 r31.2.2.1)), (.d (.int .u64 r31.2.2.2.1)), (.d (.int .i64 r31.2.2.2.2.1)), (.d (.sl (List.map byteD r31.2.2.2.2.2)))]))]) rfl rfl trivial rfl rfl rfl rfl rfl ?_
          refine RegV.p0 (v := (.d (.bool (decide (a2 = r31.2.2.2.1))))) rfl rfl rfl ?_
          refine RegV.p0 rfl rfl rfl ?_
          refine RegV.nil0 ?_
          refine AWc.cond rfl (fun c69 => ?_) (fun c69 => ?_)
          · have h := cond_pos c69 h
            refine AWc.seq ?_
            refine AWc.rg hmix rfl rfl ?_
            refine RegV.p0 (v := (.ptr 0 0)) rfl rfl rfl ?_
            refine RegV.ld (v := (.d (.int .u64 r31.2.1))) (H' := [(0, (.cells [(.d (.int .u64 r31.2.1)), (.d (.int .u64 r31.2.2.1)), (.d (.int .u64 r31.2.2.2.1)), (.d (.int .i64 r31.2.2.2.2.1)), (.d (.sl (List.map byteD r31.2.2.2.2.2)))]))]) rfl rfl trivial rfl rfl rfl rfl rfl ?_
            refine RegV.p0 rfl rfl rfl ?_
            refine RegV.p0 rfl rfl rfl ?_
            refine RegV.p0 rfl rfl rfl ?_
            refine RegV.nil0 ?_
            have hr := Option.some.inj h
            subst hr
            exact AWc.ret (canQ (N := 40) (k := 0) (l' := [(6, (.d (.int .u64 r31.2.1))), (7, (.d (.bool true))), (8, (.d (.int .i64 (0 : Int))))]) (H' := []) rfl ⟨rfl, [], [], rfl, rfl, ⟨⟨_, rfl, (.refl _)⟩, rfl, ⟨⟨_, rfl, (.refl _)⟩, rfl, ⟨⟨_, rfl, (.refl _)⟩, rfl, trivial⟩⟩⟩,  trivial⟩ (doneA (.inr rfl) rfl ⟨trivial, ⟨trivial, ⟨trivial, trivial⟩⟩⟩ (.refl _) hasNil))
          · have h := cond_neg c69 h
            refine AWc.skip ?_
            refine AWc.seq ?_
            refine AWc.rg hmix rfl rfl ?_
            refine RegV.p0 rfl rfl rfl ?_
            refine RegV.p0 rfl rfl rfl ?_
            refine RegV.p0 rfl rfl rfl ?_
            refine RegV.nil0 ?_
            have hr := Option.some.inj h
            subst hr
            exact AWc.ret (canQ (N := 40) (k := 0) (l' := [(6, (.d (.int .u64 (0 : Int)))), (7, (.d (.bool false))), (8, (.d (.int .i64 (15 : Int))))]) (H' := []) rfl ⟨rfl, [], [], rfl, rfl, ⟨⟨_, rfl, (.refl _)⟩, rfl, ⟨⟨_, rfl, (.refl _)⟩, rfl, ⟨⟨_, rfl, (.refl _)⟩, rfl, trivial⟩⟩⟩,  trivial⟩ (doneA (.inr rfl) rfl ⟨trivial, ⟨trivial, ⟨trivial, trivial⟩⟩⟩ (.refl _) hasNil))
/-- courant/couranthelp.Bytes -/
def C22 (N : Nat → Nat) : AFunc := { n := 10, params := 2, res := [.tmp 4], body :=
 (.seq (.region false [⟨(some 4), .mv (.k (.d (.bool false))), none, []⟩])
  (.seq (.region false [⟨(some 5), .mv (.t 0), none, []⟩,
    ⟨(some 6), .bs2s (.t 5), none, [0]⟩,
    ⟨(some 7), .mv (.t 1), none, []⟩,
    ⟨(some 8), .bs2s (.t 7), none, [2]⟩,
    ⟨(some 9), .bin .eql (.t 6) (.t 8), none, [1, 3]⟩,
    ⟨(some 4), .mv (.t 9), none, [4, 0, 1, 2, 3]⟩])
   .ret)) }
def HC22 (P : Program) (N : Nat → Nat) : Prop := HasF P (N 22) (C22 N)
def f22 (k : Nat) (a0 : (List UInt8)) (a1 : (List UInt8)) : Option Unit := some ()
theorem F22 {P : Program} {N : Nat → Nat} (hmix : P.follows .mixedOrders = true) (hc : HC22 P N) {k : Nat} {a0 : (List UInt8)} {a1 : (List UInt8)} {r : Unit} (h : f22 k a0 a1 = some r) :
    ACalls P (N 22) [(.d (.sl (List.map byteD a0))), (.d (.sl (List.map byteD a1)))] [] (.d (.bool (decide (a0 = a1)))) [] := by
  refine acalls_canon (F := C22 N) hc 0 0 rfl ?_
  unfold f22 at h
  dsimp only [C22, startL]
  refine AWc.seq ?_
  refine AWc.rg hmix rfl rfl ?_
  refine RegV.p0 rfl rfl rfl ?_
  refine RegV.nil0 ?_
  refine AWc.seq ?_
  refine AWc.rg hmix rfl rfl ?_
  refine RegV.p0 rfl rfl rfl ?_
  refine RegV.bs2s (b := a0) rfl rfl rfl ?_
  refine RegV.p0 rfl rfl rfl ?_
  refine RegV.bs2s (b := a1) rfl rfl rfl ?_
  refine RegV.p0 (v := (.d (.bool (decide (a0 = a1))))) rfl rfl rfl ?_
  refine RegV.p0 rfl rfl rfl ?_
  refine RegV.nil0 ?_
  have hr := Option.some.inj h
  subst hr
  exact AWc.ret (canQ (N := 10) (k := 0) (l' := [(4, (.d (.bool (decide (a0 = a1)))))]) (H' := []) rfl ⟨rfl, [], [], rfl, rfl, ⟨⟨_, rfl, (.refl _)⟩, rfl, trivial⟩,  trivial⟩ (doneA (.inr rfl) rfl ⟨trivial, trivial⟩ (.refl _) hasNil))
/-- courant/couranthelp.Message -/
def C38 (N : Nat → Nat) : AFunc := { n := 38, params := 2, res := [.tmp 4], body :=
 (.seq (.region false [⟨(some 2), .box (.t 0), none, []⟩,
   ⟨(some 3), .box (.t 1), none, []⟩,
   ⟨(some 4), .mv (.k (.d (.bool false))), none, []⟩])
  (.seq (.region false [⟨(some 5), .faddr (.t 2) 0, none, []⟩,
    ⟨(some 6), .load (.t 5) 1 false, none, [0]⟩,
    ⟨(some 7), .faddr (.t 3) 0, none, []⟩,
    ⟨(some 8), .load (.t 7) 1 false, none, [2]⟩,
    ⟨(some 9), .bin .eql (.t 6) (.t 8), none, [1, 3]⟩,
    ⟨(some 10), .mv (.t 9), none, [4]⟩,
    ⟨(some 11), .faddr (.t 2) 1, (some (10, true)), [5]⟩,
    ⟨(some 12), .load (.t 11) 1 false, (some (10, true)), [6, 5]⟩,
    ⟨(some 13), .faddr (.t 3) 1, (some (10, true)), [5]⟩,
    ⟨(some 14), .load (.t 13) 1 false, (some (10, true)), [8, 5]⟩,
    ⟨(some 15), .bin .eql (.t 12) (.t 14), (some (10, true)), [7, 9, 5]⟩,
    ⟨(some 16), .pick (.t 10) (.t 15) (.k (.d (.bool false))), none, [5, 10]⟩,
    ⟨(some 17), .mv (.t 16), none, [11, 5]⟩,
    ⟨(some 18), .faddr (.t 2) 2, (some (17, true)), [12]⟩,
    ⟨(some 19), .load (.t 18) 1 false, (some (17, true)), [13, 12]⟩,
    ⟨(some 20), .faddr (.t 3) 2, (some (17, true)), [12]⟩,
    ⟨(some 21), .load (.t 20) 1 false, (some (17, true)), [15, 12]⟩,
    ⟨(some 22), .bin .eql (.t 19) (.t 21), (some (17, true)), [14, 16, 12]⟩,
    ⟨(some 23), .pick (.t 17) (.t 22) (.k (.d (.bool false))), none, [12, 17]⟩,
    ⟨(some 24), .mv (.t 23), none, [18, 12]⟩,
    ⟨(some 25), .faddr (.t 2) 3, (some (24, true)), [19]⟩,
    ⟨(some 26), .load (.t 25) 1 false, (some (24, true)), [20, 19]⟩,
    ⟨(some 27), .faddr (.t 3) 3, (some (24, true)), [19]⟩,
    ⟨(some 28), .load (.t 27) 1 false, (some (24, true)), [22, 19]⟩,
    ⟨(some 29), .bin .eql (.t 26) (.t 28), (some (24, true)), [21, 23, 19]⟩,
    ⟨(some 30), .pick (.t 24) (.t 29) (.k (.d (.bool false))), none, [19, 24]⟩,
    ⟨(some 31), .mv (.t 30), none, [25, 19]⟩,
    ⟨(some 32), .faddr (.t 2) 4, (some (31, true)), [26]⟩,
    ⟨(some 33), .load (.t 32) 1 false, (some (31, true)), [27, 26]⟩,
    ⟨(some 34), .faddr (.t 3) 4, (some (31, true)), [26]⟩,
    ⟨(some 35), .load (.t 34) 1 false, (some (31, true)), [29, 26]⟩,
    ⟨(some 36), .call (.k (.d (.fn (N 22)))) [(.t 33), (.t 35)], (some (31, true)), [28, 30, 26]⟩,
    ⟨(some 37), .pick (.t 31) (.t 36) (.k (.d (.bool false))), none, [26, 31]⟩,
    ⟨(some 4), .mv (.t 37), none, [32, 31, 0, 1, 2, 3, 4, 5, 6, 7, 8, 9, 10, 11, 12, 13, 14, 15, 16, 17, 18, 19, 20, 21, 22, 23, 24, 25, 26, 27, 28, 29, 30]⟩])
   .ret)) }
def HC38 (P : Program) (N : Nat → Nat) : Prop := HasF P (N 38) (C38 N) ∧ HC22 P N
def f38 (k : Nat) (a0 : TMessage) (a1 : TMessage) : Option Bool := cond (decide (a0.fOffset = a1.fOffset)) (cond (decide (a0.fProducer = a1.fProducer)) (cond (decide (a0.fSeq = a1.fSeq)) (cond (decide (a0.fVersion = a1.fVersion)) ((f22 k a0.fData a1.fData).bind fun r41 => some (decide (a0.fData = a1.fData))) (some false)) (some false)) (some false)) (some false)
theorem F38 {P : Program} {N : Nat → Nat} (hmix : P.follows .mixedOrders = true) (hc : HC38 P N) {k : Nat} {a0 : TMessage} {a1 : TMessage} {r : Bool} (h : f38 k a0 a1 = some r) :
    ACalls P (N 38) [(.d (TMessage.enc a0)), (.d (TMessage.enc a1))] [] (.d (.bool r)) [] := by
  refine acalls_canon (F := C38 N) hc.1 0 0 rfl ?_
  unfold f38 at h
  dsimp only [C38, startL]
  refine AWc.seq ?_
  refine AWc.rg hmix rfl rfl ?_
  refine RegV.evS (own := false) (v := (.ptr 0 0)) (H' := [(0, (.cells [(.d (.int .u64 a0.fOffset)), (.d (.int .u64 a0.fProducer)), (.d (.int .u64 a0.fSeq)), (.d (.int .i64 a0.fVersion)), (.d (.sl (List.map byteD a0.fData)))]))]) (c' := 1) rfl rfl trivial rfl rfl rfl rfl rfl rfl ?_
  refine RegV.evS (own := false) (v := (.ptr 1 0)) (H' := [(1, (.cells [(.d (.int .u64 a1.fOffset)), (.d (.int .u64 a1.fProducer)), (.d (.int .u64 a1.fSeq)), (.d (.int .i64 a1.fVersion)), (.d (.sl (List.map byteD a1.fData)))])), (0, (.cells [(.d (.int .u64 a0.fOffset)), (.d (.int .u64 a0.fProducer)), (.d (.int .u64 a0.fSeq)), (.d (.int .i64 a0.fVersion)), (.d (.sl (List.map byteD a0.fData)))]))]) (c' := 2) rfl rfl trivial rfl rfl rfl rfl rfl rfl ?_
  refine RegV.p0 rfl rfl rfl ?_
  refine RegV.nil0 ?_
  refine AWc.seq ?_
  refine AWc.rg hmix rfl rfl ?_
  refine RegV.p0 (v := (.ptr 0 0)) rfl rfl rfl ?_
  refine RegV.ld (v := (.d (.int .u64 a0.fOffset))) (H' := [(0, (.cells [(.d (.int .u64 a0.fOffset)), (.d (.int .u64 a0.fProducer)), (.d (.int .u64 a0.fSeq)), (.d (.int .i64 a0.fVersion)), (.d (.sl (List.map byteD a0.fData)))])), (1, (.cells [(.d (.int .u64 a1.fOffset)), (.d (.int .u64 a1.fProducer)), (.d (.int .u64 a1.fSeq)), (.d (.int .i64 a1.fVersion)), (.d (.sl (List.map byteD a1.fData)))]))]) rfl rfl trivial rfl rfl rfl rfl rfl ?_
  refine RegV.p0 (v := (.ptr 1 0)) rfl rfl rfl ?_
  refine RegV.ld (v := (.d (.int .u64 a1.fOffset))) (H' := [(1, (.cells [(.d (.int .u64 a1.fOffset)), (.d (.int .u64 a1.fProducer)), (.d (.int .u64 a1.fSeq)), (.d (.int .i64 a1.fVersion)), (.d (.sl (List.map byteD a1.fData)))])), (0, (.cells [(.d (.int .u64 a0.fOffset)), (.d (.int .u64 a0.fProducer)), (.d (.int .u64 a0.fSeq)), (.d (.int .i64 a0.fVersion)), (.d (.sl (List.map byteD a0.fData)))]))]) rfl rfl trivial rfl rfl rfl rfl rfl ?_
  refine RegV.p0 (v := (.d (.bool (decide (a0.fOffset = a1.fOffset))))) rfl rfl rfl ?_
  refine RegV.p0 rfl rfl rfl ?_
  refine RegV.split (fun c15 => ?_) (fun c15 => ?_)
  · have h := cond_pos c15 h
    refine RegV.p0 (v := (.ptr 0 1)) rfl rfl rfl ?_
    refine RegV.ld (v := (.d (.int .u64 a0.fProducer))) (H' := [(0, (.cells [(.d (.int .u64 a0.fOffset)), (.d (.int .u64 a0.fProducer)), (.d (.int .u64 a0.fSeq)), (.d (.int .i64 a0.fVersion)), (.d (.sl (List.map byteD a0.fData)))])), (1, (.cells [(.d (.int .u64 a1.fOffset)), (.d (.int .u64 a1.fProducer)), (.d (.int .u64 a1.fSeq)), (.d (.int .i64 a1.fVersion)), (.d (.sl (List.map byteD a1.fData)))]))]) rfl rfl trivial rfl rfl rfl rfl rfl ?_
    refine RegV.p0 (v := (.ptr 1 1)) rfl rfl rfl ?_
    refine RegV.ld (v := (.d (.int .u64 a1.fProducer))) (H' := [(1, (.cells [(.d (.int .u64 a1.fOffset)), (.d (.int .u64 a1.fProducer)), (.d (.int .u64 a1.fSeq)), (.d (.int .i64 a1.fVersion)), (.d (.sl (List.map byteD a1.fData)))])), (0, (.cells [(.d (.int .u64 a0.fOffset)), (.d (.int .u64 a0.fProducer)), (.d (.int .u64 a0.fSeq)), (.d (.int .i64 a0.fVersion)), (.d (.sl (List.map byteD a0.fData)))]))]) rfl rfl trivial rfl rfl rfl rfl rfl ?_
    refine RegV.p0 (v := (.d (.bool (decide (a0.fProducer = a1.fProducer))))) rfl rfl rfl ?_
    refine RegV.p0 rfl rfl rfl ?_
    refine RegV.p0 rfl rfl rfl ?_
    refine RegV.split (fun c22 => ?_) (fun c22 => ?_)
    · have h := cond_pos c22 h
      refine RegV.p0 (v := (.ptr 0 2)) rfl rfl rfl ?_
      refine RegV.ld (v := (.d (.int .u64 a0.fSeq))) (H' := [(0, (.cells [(.d (.int .u64 a0.fOffset)), (.d (.int .u64 a0.fProducer)), (.d (.int .u64 a0.fSeq)), (.d (.int .i64 a0.fVersion)), (.d (.sl (List.map byteD a0.fData)))])), (1, (.cells [(.d (.int .u64 a1.fOffset)), (.d (.int .u64 a1.fProducer)), (.d (.int .u64 a1.fSeq)), (.d (.int .i64 a1.fVersion)), (.d (.sl (List.map byteD a1.fData)))]))]) rfl rfl trivial rfl rfl rfl rfl rfl ?_
      refine RegV.p0 (v := (.ptr 1 2)) rfl rfl rfl ?_
      refine RegV.ld (v := (.d (.int .u64 a1.fSeq))) (H' := [(1, (.cells [(.d (.int .u64 a1.fOffset)), (.d (.int .u64 a1.fProducer)), (.d (.int .u64 a1.fSeq)), (.d (.int .i64 a1.fVersion)), (.d (.sl (List.map byteD a1.fData)))])), (0, (.cells [(.d (.int .u64 a0.fOffset)), (.d (.int .u64 a0.fProducer)), (.d (.int .u64 a0.fSeq)), (.d (.int .i64 a0.fVersion)), (.d (.sl (List.map byteD a0.fData)))]))]) rfl rfl trivial rfl rfl rfl rfl rfl ?_
      refine RegV.p0 (v := (.d (.bool (decide (a0.fSeq = a1.fSeq))))) rfl rfl rfl ?_
      refine RegV.p0 rfl rfl rfl ?_
      refine RegV.p0 rfl rfl rfl ?_
      refine RegV.split (fun c29 => ?_) (fun c29 => ?_)
      · have h := cond_pos c29 h
        refine RegV.p0 (v := (.ptr 0 3)) rfl rfl rfl ?_
        refine RegV.ld (v := (.d (.int .i64 a0.fVersion))) (H' := [(0, (.cells [(.d (.int .u64 a0.fOffset)), (.d (.int .u64 a0.fProducer)), (.d (.int .u64 a0.fSeq)), (.d (.int .i64 a0.fVersion)), (.d (.sl (List.map byteD a0.fData)))])), (1, (.cells [(.d (.int .u64 a1.fOffset)), (.d (.int .u64 a1.fProducer)), (.d (.int .u64 a1.fSeq)), (.d (.int .i64 a1.fVersion)), (.d (.sl (List.map byteD a1.fData)))]))]) rfl rfl trivial rfl rfl rfl rfl rfl ?_
        refine RegV.p0 (v := (.ptr 1 3)) rfl rfl rfl ?_
        refine RegV.ld (v := (.d (.int .i64 a1.fVersion))) (H' := [(1, (.cells [(.d (.int .u64 a1.fOffset)), (.d (.int .u64 a1.fProducer)), (.d (.int .u64 a1.fSeq)), (.d (.int .i64 a1.fVersion)), (.d (.sl (List.map byteD a1.fData)))])), (0, (.cells [(.d (.int .u64 a0.fOffset)), (.d (.int .u64 a0.fProducer)), (.d (.int .u64 a0.fSeq)), (.d (.int .i64 a0.fVersion)), (.d (.sl (List.map byteD a0.fData)))]))]) rfl rfl trivial rfl rfl rfl rfl rfl ?_
        refine RegV.p0 (v := (.d (.bool (decide (a0.fVersion = a1.fVersion))))) rfl rfl rfl ?_
        refine RegV.p0 rfl rfl rfl ?_
        refine RegV.p0 rfl rfl rfl ?_
        refine RegV.split (fun c36 => ?_) (fun c36 => ?_)
        · have h := cond_pos c36 h
          refine RegV.p0 (v := (.ptr 0 4)) rfl rfl rfl ?_
          refine RegV.ld (v := (.d (.sl (List.map byteD a0.fData)))) (H' := [(0, (.cells [(.d (.int .u64 a0.fOffset)), (.d (.int .u64 a0.fProducer)), (.d (.int .u64 a0.fSeq)), (.d (.int .i64 a0.fVersion)), (.d (.sl (List.map byteD a0.fData)))])), (1, (.cells [(.d (.int .u64 a1.fOffset)), (.d (.int .u64 a1.fProducer)), (.d (.int .u64 a1.fSeq)), (.d (.int .i64 a1.fVersion)), (.d (.sl (List.map byteD a1.fData)))]))]) rfl rfl trivial rfl rfl rfl rfl rfl ?_
          refine RegV.p0 (v := (.ptr 1 4)) rfl rfl rfl ?_
          refine RegV.ld (v := (.d (.sl (List.map byteD a1.fData)))) (H' := [(1, (.cells [(.d (.int .u64 a1.fOffset)), (.d (.int .u64 a1.fProducer)), (.d (.int .u64 a1.fSeq)), (.d (.int .i64 a1.fVersion)), (.d (.sl (List.map byteD a1.fData)))])), (0, (.cells [(.d (.int .u64 a0.fOffset)), (.d (.int .u64 a0.fProducer)), (.d (.int .u64 a0.fSeq)), (.d (.int .i64 a0.fVersion)), (.d (.sl (List.map byteD a0.fData)))]))]) rfl rfl trivial rfl rfl rfl rfl rfl ?_
          obtain ⟨r41, e41, h⟩ := bind_some h
          refine RegV.call0 (F22 hmix hc.2 e41) rfl rfl rfl rfl (.cons (.refl _) (.cons (.refl _) .nil)) rfl ?_
          refine RegV.p0 rfl rfl rfl ?_
          refine RegV.p0 rfl rfl rfl ?_
          refine RegV.nil0 ?_
          have hr := Option.some.inj h
          subst hr
          exact AWc.ret (canQ (N := 38) (k := 0) (l' := [(4, (.d (.bool (decide (a0.fData = a1.fData)))))]) (H' := []) rfl ⟨rfl, [], [], rfl, rfl, ⟨⟨_, rfl, (.refl _)⟩, rfl, trivial⟩,  trivial⟩ (doneA (.inr rfl) rfl ⟨trivial, trivial⟩ (.refl _) hasNil))
        · have h := cond_neg c36 h
          refine RegV.noS rfl rfl ?_
          refine RegV.noS rfl rfl ?_
          refine RegV.noS rfl rfl ?_
          refine RegV.noS rfl rfl ?_
          refine RegV.noS rfl rfl ?_
          refine RegV.p0 rfl rfl rfl ?_
          refine RegV.p0 rfl rfl rfl ?_
          refine RegV.nil0 ?_
          have hr := Option.some.inj h
          subst hr
          exact AWc.ret (canQ (N := 38) (k := 0) (l' := [(4, (.d (.bool false)))]) (H' := []) rfl ⟨rfl, [], [], rfl, rfl, ⟨⟨_, rfl, (.refl _)⟩, rfl, trivial⟩,  trivial⟩ (doneA (.inr rfl) rfl ⟨trivial, trivial⟩ (.refl _) hasNil))
      · have h := cond_neg c29 h
        refine RegV.noS rfl rfl ?_
        refine RegV.noS rfl rfl ?_
        refine RegV.noS rfl rfl ?_
        refine RegV.noS rfl rfl ?_
        refine RegV.noS rfl rfl ?_
        refine RegV.p0 rfl rfl rfl ?_
        refine RegV.p0 rfl rfl rfl ?_
        refine RegV.noS rfl rfl ?_
        refine RegV.noS rfl rfl ?_
        refine RegV.noS rfl rfl ?_
        refine RegV.noS rfl rfl ?_
        refine RegV.noS rfl rfl ?_
        refine RegV.p0 rfl rfl rfl ?_
        refine RegV.p0 rfl rfl rfl ?_
        refine RegV.nil0 ?_
        have hr := Option.some.inj h
        subst hr
        exact AWc.ret (canQ (N := 38) (k := 0) (l' := [(4, (.d (.bool false)))]) (H' := []) rfl ⟨rfl, [], [], rfl, rfl, ⟨⟨_, rfl, (.refl _)⟩, rfl, trivial⟩,  trivial⟩ (doneA (.inr rfl) rfl ⟨trivial, trivial⟩ (.refl _) hasNil))
    · have h := cond_neg c22 h
      refine RegV.noS rfl rfl ?_
      refine RegV.noS rfl rfl ?_
      refine RegV.noS rfl rfl ?_
      refine RegV.noS rfl rfl ?_
      refine RegV.noS rfl rfl ?_
      refine RegV.p0 rfl rfl rfl ?_
      refine RegV.p0 rfl rfl rfl ?_
      refine RegV.noS rfl rfl ?_
      refine RegV.noS rfl rfl ?_
      refine RegV.noS rfl rfl ?_
      refine RegV.noS rfl rfl ?_
      refine RegV.noS rfl rfl ?_
      refine RegV.p0 rfl rfl rfl ?_
      refine RegV.p0 rfl rfl rfl ?_
      refine RegV.noS rfl rfl ?_
      refine RegV.noS rfl rfl ?_
      refine RegV.noS rfl rfl ?_
      refine RegV.noS rfl rfl ?_
      refine RegV.noS rfl rfl ?_
      refine RegV.p0 rfl rfl rfl ?_
      refine RegV.p0 rfl rfl rfl ?_
      refine RegV.nil0 ?_
      have hr := Option.some.inj h
      subst hr
      exact AWc.ret (canQ (N := 38) (k := 0) (l' := [(4, (.d (.bool false)))]) (H' := []) rfl ⟨rfl, [], [], rfl, rfl, ⟨⟨_, rfl, (.refl _)⟩, rfl, trivial⟩,  trivial⟩ (doneA (.inr rfl) rfl ⟨trivial, trivial⟩ (.refl _) hasNil))
  · have h := cond_neg c15 h
    refine RegV.noS rfl rfl ?_
    refine RegV.noS rfl rfl ?_
    refine RegV.noS rfl rfl ?_
    refine RegV.noS rfl rfl ?_
    refine RegV.noS rfl rfl ?_
    refine RegV.p0 rfl rfl rfl ?_
    refine RegV.p0 rfl rfl rfl ?_
    refine RegV.noS rfl rfl ?_
    refine RegV.noS rfl rfl ?_
    refine RegV.noS rfl rfl ?_
    refine RegV.noS rfl rfl ?_
    refine RegV.noS rfl rfl ?_
    refine RegV.p0 rfl rfl rfl ?_
    refine RegV.p0 rfl rfl rfl ?_
    refine RegV.noS rfl rfl ?_
    refine RegV.noS rfl rfl ?_
    refine RegV.noS rfl rfl ?_
    refine RegV.noS rfl rfl ?_
    refine RegV.noS rfl rfl ?_
    refine RegV.p0 rfl rfl rfl ?_
    refine RegV.p0 rfl rfl rfl ?_
    refine RegV.noS rfl rfl ?_
    refine RegV.noS rfl rfl ?_
    refine RegV.noS rfl rfl ?_
    refine RegV.noS rfl rfl ?_
    refine RegV.noS rfl rfl ?_
    refine RegV.p0 rfl rfl rfl ?_
    refine RegV.p0 rfl rfl rfl ?_
    refine RegV.nil0 ?_
    have hr := Option.some.inj h
    subst hr
    exact AWc.ret (canQ (N := 38) (k := 0) (l' := [(4, (.d (.bool false)))]) (H' := []) rfl ⟨rfl, [], [], rfl, rfl, ⟨⟨_, rfl, (.refl _)⟩, rfl, trivial⟩,  trivial⟩ (doneA (.inr rfl) rfl ⟨trivial, trivial⟩ (.refl _) hasNil))
/-- courant/courantlaw24.BatchLooks -/
def C5 (N : Nat → Nat) : AFunc := { n := 104, params := 3, res := [.tmp 6], body :=
 (.seq (.region false [⟨(some 6), .mv (.k (.d (.bool false))), none, []⟩])
  (.seq (.seq (.region false [⟨(some 18), .mv (.t 0), none, []⟩,
     ⟨(some 19), .len (.t 18), none, [0]⟩,
     ⟨(some 20), .bin .gtr (.t 19) (.k (.d (.int .i64 300))), none, [1]⟩])
    (.cond (.t 20) (.seq (.region false [⟨(some 21), .call (.k (.d (.fn (N 33)))) [], none, []⟩,
       ⟨(some 6), .mv (.t 21), none, [0]⟩])
      .ret)
     (.skip)))
   (.seq (.seq (.region false [⟨(some 7), .mv (.k (.d (.int .i64 1))), none, []⟩])
     (.block 0 (.loop (.seq (.seq (.region false [⟨(some 22), .mv (.t 7), none, []⟩,
          ⟨(some 23), .mv (.t 0), none, []⟩,
          ⟨(some 24), .len (.t 23), none, [1]⟩,
          ⟨(some 25), .bin .lss (.t 22) (.t 24), none, [0, 2]⟩])
         (.cond (.t 25) (.skip)
          (.exit 0)))
        (.seq (.block 1 (.seq (.region true [⟨(some 28), .mv (.t 0), none, []⟩,
            ⟨(some 29), .mv (.t 7), none, []⟩,
            ⟨(some 30), .iaddr (.t 28) (.t 29) 5, none, [0, 1]⟩,
            ⟨(some 31), .faddr (.t 30) 0, none, [2]⟩,
            ⟨(some 32), .load (.t 31) 1 false, none, [3]⟩,
            ⟨(some 33), .mv (.t 0), none, []⟩,
            ⟨(some 34), .mv (.t 7), none, []⟩,
            ⟨(some 35), .bin .sub (.t 34) (.k (.d (.int .i64 1))), none, [6]⟩,
            ⟨(some 36), .iaddr (.t 33) (.t 35) 5, none, [5, 7]⟩,
            ⟨(some 37), .faddr (.t 36) 0, none, [8]⟩,
            ⟨(some 38), .load (.t 37) 1 false, none, [9]⟩,
            ⟨(some 39), .bin .leq (.t 32) (.t 38), none, [4, 10]⟩,
            ⟨(some 40), .mv (.t 39), none, [11]⟩,
            ⟨(some 41), .mv (.t 0), (some (40, false)), [12]⟩,
            ⟨(some 42), .mv (.t 7), (some (40, false)), [12]⟩,
            ⟨(some 43), .iaddr (.t 41) (.t 42) 5, (some (40, false)), [13, 14, 12]⟩,
            ⟨(some 44), .faddr (.t 43) 4, (some (40, false)), [15, 12]⟩,
            ⟨(some 45), .load (.t 44) 1 false, (some (40, false)), [16, 12]⟩,
            ⟨(some 46), .len (.t 45), (some (40, false)), [17, 12]⟩,
            ⟨(some 47), .bin .gtr (.t 46) (.k (.d (.int .i64 500))), (some (40, false)), [18, 12]⟩,
            ⟨(some 48), .pick (.t 40) (.k (.d (.bool true))) (.t 47), none, [12, 19]⟩])
           (.cond (.t 48) (.seq (.region false [⟨(some 49), .call (.k (.d (.fn (N 33)))) [], none, []⟩,
              ⟨(some 6), .mv (.t 49), none, [0]⟩])
             .ret)
            (.skip))))
         (.region false [⟨(some 26), .mv (.t 7), none, []⟩,
          ⟨(some 27), .bin .add (.t 26) (.k (.d (.int .i64 1))), none, [0]⟩,
          ⟨(some 7), .mv (.t 27), none, [1, 0]⟩]))))))
    (.seq (.region false [⟨(some 51), .mv (.t 0), none, []⟩,
      ⟨(some 52), .mv (.t 1), none, []⟩,
      ⟨(some 53), .mv (.t 2), none, []⟩,
      ⟨(some 54), .call (.k (.d (.fn (N 34)))) [(.t 51), (.t 52), (.t 53)], none, [0, 1, 2]⟩,
      ⟨(some 50), .mv (.t 54), none, [3]⟩,
      ⟨(some 55), .ext (.t 50) 0, none, [4]⟩,
      ⟨(some 56), .ext (.t 50) 1, none, [4]⟩,
      ⟨(some 57), .ext (.t 50) 2, none, [4]⟩,
      ⟨(some 8), .mv (.t 55), none, [5, 3, 0, 1, 2, 4]⟩,
      ⟨(some 9), .mv (.t 56), none, [6, 8, 0, 1, 2, 3, 4, 5]⟩,
      ⟨(some 10), .mv (.t 57), none, [7, 9, 0, 1, 2, 3, 4, 5, 6, 8]⟩])
     (.seq (.region false [⟨(some 59), .mv (.t 0), none, []⟩,
       ⟨(some 60), .mv (.t 1), none, []⟩,
       ⟨(some 61), .mv (.t 2), none, []⟩,
       ⟨(some 62), .call (.k (.d (.fn (N 35)))) [(.t 59), (.t 60), (.t 61)], none, [0, 1, 2]⟩,
       ⟨(some 58), .mv (.t 62), none, [3]⟩,
       ⟨(some 63), .ext (.t 58) 0, none, [4]⟩,
       ⟨(some 64), .ext (.t 58) 1, none, [4]⟩,
       ⟨(some 65), .ext (.t 58) 2, none, [4]⟩,
       ⟨(some 11), .mv (.t 63), none, [5, 3, 0, 1, 2, 4]⟩,
       ⟨(some 12), .mv (.t 64), none, [6, 8, 0, 1, 2, 3, 4, 5]⟩,
       ⟨(some 13), .mv (.t 65), none, [7, 9, 0, 1, 2, 3, 4, 5, 6, 8]⟩])
      (.seq (.region false [⟨(some 67), .mv (.t 0), none, []⟩,
        ⟨(some 68), .mv (.t 1), none, []⟩,
        ⟨(some 69), .call (.k (.d (.fn (N 36)))) [(.t 67), (.t 68)], none, [0, 1]⟩,
        ⟨(some 66), .mv (.t 69), none, [2]⟩,
        ⟨(some 70), .ext (.t 66) 0, none, [3]⟩,
        ⟨(some 71), .ext (.t 66) 1, none, [3]⟩,
        ⟨(some 14), .alloc [(.int .u64 0), (.int .u64 0), (.int .u64 0), (.int .i64 0), (.sl [])], none, []⟩,
        ⟨none, .store (.t 14) (.t 70) 5, none, [6, 4, 2, 0, 1, 3]⟩,
        ⟨(some 15), .mv (.t 71), none, [5, 7, 0, 1, 2, 3, 4, 6]⟩])
       (.seq (.region false [⟨(some 73), .mv (.t 0), none, []⟩,
         ⟨(some 74), .mv (.t 1), none, []⟩,
         ⟨(some 75), .call (.k (.d (.fn (N 37)))) [(.t 73), (.t 74)], none, [0, 1]⟩,
         ⟨(some 72), .mv (.t 75), none, [2]⟩,
         ⟨(some 76), .ext (.t 72) 0, none, [3]⟩,
         ⟨(some 77), .ext (.t 72) 1, none, [3]⟩,
         ⟨(some 16), .alloc [(.int .u64 0), (.int .u64 0), (.int .u64 0), (.int .i64 0), (.sl [])], none, []⟩,
         ⟨none, .store (.t 16) (.t 76) 5, none, [6, 4, 2, 0, 1, 3]⟩,
         ⟨(some 17), .mv (.t 77), none, [5, 7, 0, 1, 2, 3, 4, 6]⟩])
        (.seq (.region false [⟨(some 78), .call (.k (.d (.fn (N 33)))) [], none, []⟩,
          ⟨(some 79), .mv (.t 78), none, [0]⟩,
          ⟨(some 80), .mv (.t 8), (some (79, true)), [1]⟩,
          ⟨(some 81), .mv (.t 11), (some (79, true)), [1]⟩,
          ⟨(some 82), .bin .eql (.t 80) (.t 81), (some (79, true)), [2, 3, 1]⟩,
          ⟨(some 83), .pick (.t 79) (.t 82) (.k (.d (.bool false))), none, [1, 4]⟩,
          ⟨(some 84), .mv (.t 83), none, [5, 1]⟩,
          ⟨(some 85), .mv (.t 9), (some (84, true)), [6]⟩,
          ⟨(some 86), .mv (.t 12), (some (84, true)), [6]⟩,
          ⟨(some 87), .beq false (.t 85) (.t 86), (some (84, true)), [7, 8, 6]⟩,
          ⟨(some 88), .pick (.t 84) (.t 87) (.k (.d (.bool false))), none, [6, 9]⟩,
          ⟨(some 89), .mv (.t 88), none, [10, 6]⟩,
          ⟨(some 90), .mv (.t 10), (some (89, true)), [11]⟩,
          ⟨(some 91), .mv (.t 13), (some (89, true)), [11]⟩,
          ⟨(some 92), .bin .eql (.t 90) (.t 91), (some (89, true)), [12, 13, 11]⟩,
          ⟨(some 93), .pick (.t 89) (.t 92) (.k (.d (.bool false))), none, [11, 14]⟩,
          ⟨(some 94), .mv (.t 93), none, [15, 11]⟩,
          ⟨(some 95), .load (.t 14) 5 true, (some (94, true)), [16]⟩,
          ⟨(some 96), .load (.t 16) 5 true, (some (94, true)), [16]⟩,
          ⟨(some 97), .call (.k (.d (.fn (N 38)))) [(.t 95), (.t 96)], (some (94, true)), [17, 18, 16]⟩,
          ⟨(some 98), .pick (.t 94) (.t 97) (.k (.d (.bool false))), none, [16, 19]⟩,
          ⟨(some 99), .mv (.t 98), none, [20, 19]⟩,
          ⟨(some 100), .mv (.t 15), (some (99, true)), [21]⟩,
          ⟨(some 101), .mv (.t 17), (some (99, true)), [21]⟩,
          ⟨(some 102), .beq false (.t 100) (.t 101), (some (99, true)), [22, 23, 21]⟩,
          ⟨(some 103), .pick (.t 99) (.t 102) (.k (.d (.bool false))), none, [21, 24]⟩,
          ⟨(some 6), .mv (.t 103), none, [25, 21, 0, 1, 2, 3, 4, 5, 6, 7, 8, 9, 10, 11, 12, 13, 14, 15, 16, 17, 18, 19, 20, 22, 23, 24]⟩])
         .ret)))))))) }
def HC5 (P : Program) (N : Nat → Nat) : Prop := HasF P (N 5) (C5 N) ∧ HC33 P N ∧ HC34 P N ∧ HC35 P N ∧ HC36 P N ∧ HC37 P N ∧ HC38 P N
def f5_j77 (k : Nat) (a0 : (List TMessage)) (a1 : Int) (a2 : Int) : Option Bool := (f34 k a0 a1 a2).bind fun r83 => (f35 k a0 a1 a2).bind fun r97 => (f36 k a0 a1).bind fun r110 => (f37 k a0 a1).bind fun r122 => (f33 k).bind fun r132 => cond r132 (cond (decide (r83.1 = r97.1)) (cond (r83.2.1 == r97.2.1) (cond (decide (r83.2.2 = r97.2.2)) ((f38 k (TMessage.mk r110.2.1 r110.2.2.1 r110.2.2.2.1 r110.2.2.2.2.1 r110.2.2.2.2.2) (TMessage.mk r122.2.1 r122.2.2.1 r122.2.2.2.1 r122.2.2.2.2.1 r122.2.2.2.2.2)).bind fun r151 => cond r151 (some (r110.1 == r122.1)) (some false)) (some false)) (some false)) (some false)) (some false)
def f5_l25 (a0 : (List TMessage)) : Nat → Int → Option (LR2 Unit Unit Bool)
  | 0, _ => none
  | k + 1, y25_1 => cond (decide (y25_1 < ((a0.length : Nat) : Int))) (gd (0 ≤ y25_1 ∧ y25_1 < ((a0.length : Nat) : Int)) (gd (0 ≤ (IntKind.i64.wrap (y25_1 - (1 : Int))) ∧ (IntKind.i64.wrap (y25_1 - (1 : Int))) < ((a0.length : Nat) : Int)) (cond (decide ((rd a0 y25_1).fOffset ≤ (rd a0 (IntKind.i64.wrap (y25_1 - (1 : Int)))).fOffset)) ((f33 k).bind fun r68 => some (.r r68)) (gd (0 ≤ y25_1 ∧ y25_1 < ((a0.length : Nat) : Int)) (cond (decide (((((rd a0 y25_1).fData).length : Nat) : Int) > (500 : Int))) ((f33 k).bind fun r68 => some (.r r68)) (f5_l25 a0 k (IntKind.i64.wrap (y25_1 + (1 : Int))))))))) (some (.b0 ()))
def f5 (k : Nat) (a0 : (List TMessage)) (a1 : Int) (a2 : Int) : Option Bool := cond (decide (((a0.length : Nat) : Int) > (300 : Int))) ((f33 k).bind fun r16 => some r16) ((f5_l25 a0 k (1 : Int)).bind fun o25 => match o25 with | .b0 () => f5_j77 k a0 a1 a2 | .r x => some x | _ => none)
theorem F5 {P : Program} {N : Nat → Nat} (hmix : P.follows .mixedOrders = true) (hc : HC5 P N) {k : Nat} {a0 : (List TMessage)} {a1 : Int} {a2 : Int} {r : Bool} (h : f5 k a0 a1 a2 = some r) :
    ACalls P (N 5) [(.d (.sl (List.map TMessage.enc a0))), (.d (.int .u64 a1)), (.d (.int .u64 a2))] [] (.d (.bool r)) [] := by
  refine acalls_canon (F := C5 N) hc.1 0 0 rfl ?_
  unfold f5 at h
  dsimp only [C5, startL]
  refine AWc.seq ?_
  refine AWc.rg hmix rfl rfl ?_
  refine RegV.p0 rfl rfl rfl ?_
  refine RegV.nil0 ?_
  refine AWc.seq ?_
  refine AWc.seq ?_
  refine AWc.rg hmix rfl rfl ?_
  refine RegV.p0 rfl rfl rfl ?_
  refine RegV.len (xs := a0) (e := TMessage.enc) rfl rfl rfl rfl ?_
  refine RegV.p0 (v := (.d (.bool (decide (((a0.length : Nat) : Int) > (300 : Int)))))) rfl rfl rfl ?_
  refine RegV.nil0 ?_
  refine AWc.cond rfl (fun c12 => ?_) (fun c12 => ?_)
  · have h := cond_pos c12 h
    refine AWc.seq ?_
    refine AWc.rg hmix rfl rfl ?_
    obtain ⟨r16, e16, h⟩ := bind_some h
    refine RegV.call0 (F33 hmix hc.2.1 e16) rfl rfl rfl rfl .nil rfl ?_
    refine RegV.p0 rfl rfl rfl ?_
    refine RegV.nil0 ?_
    have hr := Option.some.inj h
    subst hr
    exact AWc.ret (canQ (N := 104) (k := 0) (l' := [(6, (.d (.bool r16)))]) (H' := []) rfl ⟨rfl, [], [], rfl, rfl, ⟨⟨_, rfl, (.refl _)⟩, rfl, trivial⟩,  trivial⟩ (doneA (.inr rfl) rfl ⟨trivial, trivial⟩ (.refl _) hasNil))
  · have h := cond_neg c12 h
    refine AWc.skip ?_
    refine AWc.seqS (N := 104) 0 (fun (z : Unit) => [(0, (.d (.sl (List.map TMessage.enc a0)))), (1, (.d (.int .u64 a1))), (2, (.d (.int .u64 a2)))]) (fun z => []) (fun z => f5_j77 k a0 a1 a2 = some r) rfl_le ?_ ?_
    · refine AWc.seq ?_
      refine AWc.rg hmix rfl rfl ?_
      refine RegV.p0 rfl rfl rfl ?_
      refine RegV.nil0 ?_
      obtain ⟨o25, h25, h⟩ := bind_some h
      refine AWc.block ?_
      refine AWc.loopK (N := 104) 0 (fun (x : Int) => [(0, (.d (.sl (List.map TMessage.enc a0)))), (1, (.d (.int .u64 a1))), (2, (.d (.int .u64 a2))), (7, (.d (.int .i64 x)))]) (fun x => []) (fun k x => f5_l25 a0 k x = some o25) k (1 : Int) rfl_le (fun x hx => by cases hx) h25 ⟨rfl, [], [], rfl, rfl, ⟨⟨_, rfl, (.refl _)⟩, rfl, ⟨⟨_, rfl, (.refl _)⟩, rfl, ⟨⟨_, rfl, (.refl _)⟩, rfl, ⟨⟨_, rfl, (.refl _)⟩, rfl, trivial⟩⟩⟩⟩,  trivial⟩ ?_
      clear h25
      intro k
      intro y25_1 h25
      rw [f5_l25] at h25
      refine AWc.seq ?_
      refine AWc.seq ?_
      refine AWc.rg hmix rfl rfl ?_
      refine RegV.p0 rfl rfl rfl ?_
      refine RegV.p0 rfl rfl rfl ?_
      refine RegV.len (xs := a0) (e := TMessage.enc) rfl rfl rfl rfl ?_
      refine RegV.p0 (v := (.d (.bool (decide (y25_1 < ((a0.length : Nat) : Int)))))) rfl rfl rfl ?_
      refine RegV.nil0 ?_
      refine AWc.cond rfl (fun c35 => ?_) (fun c35 => ?_)
      · have h25 := cond_pos c35 h25
        refine AWc.skip ?_
        refine AWc.seq ?_
        refine AWc.block ?_
        refine AWc.seq ?_
        refine AWc.rg hmix rfl rfl ?_
        refine RegV.p0 rfl rfl rfl ?_
        refine RegV.p0 rfl rfl rfl ?_
        obtain ⟨b45, h25⟩ := gd_some h25
        refine RegV.iad (xs := a0) (e := TMessage.enc) rfl rfl rfl rfl (fun _ => rfl) b45 rfl ?_
        refine RegV.p0 (v := (.cp (TMessage.enc (rd a0 y25_1)) 0)) rfl rfl rfl ?_
        refine RegV.p0 (v := (.d (.int .u64 (rd a0 y25_1).fOffset))) rfl rfl rfl ?_
        refine RegV.p0 rfl rfl rfl ?_
        refine RegV.p0 rfl rfl rfl ?_
        refine RegV.p0 (v := (.d (.int .i64 (IntKind.i64.wrap (y25_1 - (1 : Int)))))) rfl rfl rfl ?_
        obtain ⟨b51, h25⟩ := gd_some h25
        refine RegV.iad (xs := a0) (e := TMessage.enc) rfl rfl rfl rfl (fun _ => rfl) b51 rfl ?_
        refine RegV.p0 (v := (.cp (TMessage.enc (rd a0 (IntKind.i64.wrap (y25_1 - (1 : Int))))) 0)) rfl rfl rfl ?_
        refine RegV.p0 (v := (.d (.int .u64 (rd a0 (IntKind.i64.wrap (y25_1 - (1 : Int)))).fOffset))) rfl rfl rfl ?_
        refine RegV.p0 (v := (.d (.bool (decide ((rd a0 y25_1).fOffset ≤ (rd a0 (IntKind.i64.wrap (y25_1 - (1 : Int)))).fOffset))))) rfl rfl rfl ?_
        refine RegV.p0 rfl rfl rfl ?_
        refine RegV.split (fun c55 => ?_) (fun c55 => ?_)
        · have h25 := cond_pos c55 h25
          refine RegV.noS rfl rfl ?_
          refine RegV.noS rfl rfl ?_
          refine RegV.noS rfl rfl ?_
          refine RegV.noS rfl rfl ?_
          refine RegV.noS rfl rfl ?_
          refine RegV.noS rfl rfl ?_
          refine RegV.noS rfl rfl ?_
          refine RegV.p0 rfl rfl rfl ?_
          refine RegV.nil1 (by kernel_rfl) ?_
          refine AWc.cond rfl (fun _ => ?_) (fun hc => by cases hc)
          refine AWc.seq ?_
          refine AWc.rg hmix rfl rfl ?_
          obtain ⟨r68, e68, h25⟩ := bind_some h25
          refine RegV.call0 (F33 hmix hc.2.1 e68) rfl rfl rfl rfl .nil rfl ?_
          refine RegV.p0 rfl rfl rfl ?_
          refine RegV.nil0 ?_
          cases h25
          dsimp only at h
          have hr := Option.some.inj h
          subst hr
          exact AWc.ret (canQ (N := 104) (k := 0) (l' := [(6, (.d (.bool r68)))]) (H' := []) rfl ⟨rfl, [], [], rfl, rfl, ⟨⟨_, rfl, (.refl _)⟩, rfl, trivial⟩,  trivial⟩ (doneA (.inr rfl) rfl ⟨trivial, trivial⟩ (.refl _) hasNil))
        · have h25 := cond_neg c55 h25
          refine RegV.p0 rfl rfl rfl ?_
          refine RegV.p0 rfl rfl rfl ?_
          obtain ⟨b58, h25⟩ := gd_some h25
          refine RegV.iad (xs := a0) (e := TMessage.enc) rfl rfl rfl rfl (fun _ => rfl) b58 rfl ?_
          refine RegV.p0 (v := (.cp (TMessage.enc (rd a0 y25_1)) 4)) rfl rfl rfl ?_
          refine RegV.p0 (v := (.d (.sl (List.map byteD (rd a0 y25_1).fData)))) rfl rfl rfl ?_
          refine RegV.len (xs := (rd a0 y25_1).fData) (e := byteD) rfl rfl rfl rfl ?_
          refine RegV.p0 (v := (.d (.bool (decide (((((rd a0 y25_1).fData).length : Nat) : Int) > (500 : Int)))))) rfl rfl rfl ?_
          refine RegV.p0 rfl rfl rfl ?_
          refine RegV.nil1 (by kernel_rfl) ?_
          refine AWc.cond rfl (fun c64 => ?_) (fun c64 => ?_)
          · have h25 := cond_pos c64 h25
            refine AWc.seq ?_
            refine AWc.rg hmix rfl rfl ?_
            obtain ⟨r68, e68, h25⟩ := bind_some h25
            refine RegV.call0 (F33 hmix hc.2.1 e68) rfl rfl rfl rfl .nil rfl ?_
            refine RegV.p0 rfl rfl rfl ?_
            refine RegV.nil0 ?_
            cases h25
            dsimp only at h
            have hr := Option.some.inj h
            subst hr
            exact AWc.ret (canQ (N := 104) (k := 0) (l' := [(6, (.d (.bool r68)))]) (H' := []) rfl ⟨rfl, [], [], rfl, rfl, ⟨⟨_, rfl, (.refl _)⟩, rfl, trivial⟩,  trivial⟩ (doneA (.inr rfl) rfl ⟨trivial, trivial⟩ (.refl _) hasNil))
          · have h25 := cond_neg c64 h25
            refine AWc.skip ?_
            refine AWc.rg hmix rfl rfl ?_
            refine RegV.p0 rfl rfl rfl ?_
            refine RegV.p0 (v := (.d (.int .i64 (IntKind.i64.wrap (y25_1 + (1 : Int)))))) rfl rfl rfl ?_
            refine RegV.p0 rfl rfl rfl ?_
            refine RegV.nil0 ?_
            exact ⟨(IntKind.i64.wrap (y25_1 + (1 : Int))), h25, ⟨rfl, [], [], rfl, rfl, ⟨⟨_, rfl, (.refl _)⟩, rfl, ⟨⟨_, rfl, (.refl _)⟩, rfl, ⟨⟨_, rfl, (.refl _)⟩, rfl, ⟨⟨_, rfl, (.refl _)⟩, rfl, trivial⟩⟩⟩⟩,  trivial⟩⟩
      · have h25 := cond_neg c35 h25
        cases h25
        dsimp only at h
        refine AWc.exit ?_
        refine inBlk_eq ?_
        exact ⟨(), h, ⟨rfl, [], [], rfl, rfl, ⟨⟨_, rfl, (.refl _)⟩, rfl, ⟨⟨_, rfl, (.refl _)⟩, rfl, ⟨⟨_, rfl, (.refl _)⟩, rfl, trivial⟩⟩⟩,  trivial⟩⟩
    · rintro ⟨⟩ h
      unfold f5_j77 at h
      refine AWc.seq ?_
      refine AWc.rg hmix rfl rfl ?_
      refine RegV.p0 rfl rfl rfl ?_
      refine RegV.p0 rfl rfl rfl ?_
      refine RegV.p0 rfl rfl rfl ?_
      obtain ⟨r83, e83, h⟩ := bind_some h
      refine RegV.call0 (F34 hmix hc.2.2.1 e83) rfl rfl rfl rfl (.cons (.refl _) (.cons (.refl _) (.cons (.refl _) .nil))) rfl ?_
      refine RegV.p0 rfl rfl rfl ?_
      refine RegV.p0 rfl rfl rfl ?_
      refine RegV.p0 rfl rfl rfl ?_
      refine RegV.p0 rfl rfl rfl ?_
      refine RegV.p0 rfl rfl rfl ?_
      refine RegV.p0 rfl rfl rfl ?_
      refine RegV.p0 rfl rfl rfl ?_
      refine RegV.nil0 ?_
      refine AWc.seq ?_
      refine AWc.rg hmix rfl rfl ?_
      refine RegV.p0 rfl rfl rfl ?_
      refine RegV.p0 rfl rfl rfl ?_
      refine RegV.p0 rfl rfl rfl ?_
      obtain ⟨r97, e97, h⟩ := bind_some h
      refine RegV.call0 (F35 hmix hc.2.2.2.1 e97) rfl rfl rfl rfl (.cons (.refl _) (.cons (.refl _) (.cons (.refl _) .nil))) rfl ?_
      refine RegV.p0 rfl rfl rfl ?_
      refine RegV.p0 rfl rfl rfl ?_
      refine RegV.p0 rfl rfl rfl ?_
      refine RegV.p0 rfl rfl rfl ?_
      refine RegV.p0 rfl rfl rfl ?_
      refine RegV.p0 rfl rfl rfl ?_
      refine RegV.p0 rfl rfl rfl ?_
      refine RegV.nil0 ?_
      refine AWc.seq ?_
      refine AWc.rg hmix rfl rfl ?_
      refine RegV.p0 rfl rfl rfl ?_
      refine RegV.p0 rfl rfl rfl ?_
      obtain ⟨r110, e110, h⟩ := bind_some h
      refine RegV.call0 (F36 hmix hc.2.2.2.2.1 e110) rfl rfl rfl rfl (.cons (.refl _) (.cons (.refl _) .nil)) rfl ?_
      refine RegV.p0 rfl rfl rfl ?_
      refine RegV.p0 rfl rfl rfl ?_
      refine RegV.p0 rfl rfl rfl ?_
      refine RegV.evS (own := false) (v := (.ptr 0 0)) (H' := [(0, (.cells [(.d (.int .u64 (0 : Int))), (.d (.int .u64 (0 : Int))), (.d (.int .u64 (0 : Int))), (.d (.int .i64 (0 : Int))), .nils]))]) (c' := 1) rfl rfl trivial rfl rfl rfl rfl rfl rfl ?_
      refine RegV.evN (own := false) (H' := [(0, (.cells [(.d (.int .u64 r110.2.1)), (.d (.int .u64 r110.2.2.1)), (.d (.int .u64 r110.2.2.2.1)), (.d (.int .i64 r110.2.2.2.2.1)), (.d (.sl (List.map byteD r110.2.2.2.2.2)))]))]) (c' := 1) rfl rfl (by exact ⟨rfl, Nat.le_of_ble_eq_true rfl, rfl⟩) rfl rfl rfl rfl ?_
      refine RegV.p0 rfl rfl rfl ?_
      refine RegV.nil0 ?_
      refine AWc.seq ?_
      refine AWc.rg hmix rfl rfl ?_
      refine RegV.p0 rfl rfl rfl ?_
      refine RegV.p0 rfl rfl rfl ?_
      obtain ⟨r122, e122, h⟩ := bind_some h
      refine RegV.call0 (F37 hmix hc.2.2.2.2.2.1 e122) rfl rfl rfl rfl (.cons (.refl _) (.cons (.refl _) .nil)) rfl ?_
      refine RegV.p0 rfl rfl rfl ?_
      refine RegV.p0 rfl rfl rfl ?_
      refine RegV.p0 rfl rfl rfl ?_
      refine RegV.evS (own := false) (v := (.ptr 1 0)) (H' := [(1, (.cells [(.d (.int .u64 (0 : Int))), (.d (.int .u64 (0 : Int))), (.d (.int .u64 (0 : Int))), (.d (.int .i64 (0 : Int))), .nils])), (0, (.cells [(.d (.int .u64 r110.2.1)), (.d (.int .u64 r110.2.2.1)), (.d (.int .u64 r110.2.2.2.1)), (.d (.int .i64 r110.2.2.2.2.1)), (.d (.sl (List.map byteD r110.2.2.2.2.2)))]))]) (c' := 2) rfl rfl trivial rfl rfl rfl rfl rfl rfl ?_
      refine RegV.evN (own := false) (H' := [(1, (.cells [(.d (.int .u64 r122.2.1)), (.d (.int .u64 r122.2.2.1)), (.d (.int .u64 r122.2.2.2.1)), (.d (.int .i64 r122.2.2.2.2.1)), (.d (.sl (List.map byteD r122.2.2.2.2.2)))])), (0, (.cells [(.d (.int .u64 r110.2.1)), (.d (.int .u64 r110.2.2.1)), (.d (.int .u64 r110.2.2.2.1)), (.d (.int .i64 r110.2.2.2.2.1)), (.d (.sl (List.map byteD r110.2.2.2.2.2)))]))]) (c' := 2) rfl rfl (by exact ⟨rfl, Nat.le_of_ble_eq_true rfl, rfl⟩) rfl rfl rfl rfl ?_
      refine RegV.p0 rfl rfl rfl ?_
      refine RegV.nil0 ?_
      refine AWc.seq ?_
      refine AWc.rg hmix rfl rfl ?_
      obtain ⟨r132, e132, h⟩ := bind_some h
      refine RegV.call0 (F33 hmix hc.2.1 e132) rfl rfl rfl rfl .nil rfl ?_
      refine RegV.p0 rfl rfl rfl ?_
      refine RegV.split (fun c133 => ?_) (fun c133 => ?_)
      · have h := cond_pos c133 h
        refine RegV.p0 rfl rfl rfl ?_
        refine RegV.p0 rfl rfl rfl ?_
        refine RegV.p0 (v := (.d (.bool (decide (r83.1 = r97.1))))) rfl rfl rfl ?_
        refine RegV.p0 rfl rfl rfl ?_
        refine RegV.p0 rfl rfl rfl ?_
        refine RegV.split (fun c138 => ?_) (fun c138 => ?_)
        · have h := cond_pos c138 h
          refine RegV.p0 rfl rfl rfl ?_
          refine RegV.p0 rfl rfl rfl ?_
          refine RegV.p0 (v := (.d (.bool (r83.2.1 == r97.2.1)))) rfl rfl rfl ?_
          refine RegV.p0 rfl rfl rfl ?_
          refine RegV.p0 rfl rfl rfl ?_
          refine RegV.split (fun c143 => ?_) (fun c143 => ?_)
          · have h := cond_pos c143 h
            refine RegV.p0 rfl rfl rfl ?_
            refine RegV.p0 rfl rfl rfl ?_
            refine RegV.p0 (v := (.d (.bool (decide (r83.2.2 = r97.2.2))))) rfl rfl rfl ?_
            refine RegV.p0 rfl rfl rfl ?_
            refine RegV.p0 rfl rfl rfl ?_
            refine RegV.split (fun c148 => ?_) (fun c148 => ?_)
            · have h := cond_pos c148 h
              refine RegV.ld (v := (.d (.agg [(.int .u64 r110.2.1), (.int .u64 r110.2.2.1), (.int .u64 r110.2.2.2.1), (.int .i64 r110.2.2.2.2.1), (.sl (List.map byteD r110.2.2.2.2.2))]))) (H' := [(0, (.cells [(.d (.int .u64 r110.2.1)), (.d (.int .u64 r110.2.2.1)), (.d (.int .u64 r110.2.2.2.1)), (.d (.int .i64 r110.2.2.2.2.1)), (.d (.sl (List.map byteD r110.2.2.2.2.2)))])), (1, (.cells [(.d (.int .u64 r122.2.1)), (.d (.int .u64 r122.2.2.1)), (.d (.int .u64 r122.2.2.2.1)), (.d (.int .i64 r122.2.2.2.2.1)), (.d (.sl (List.map byteD r122.2.2.2.2.2)))]))]) rfl rfl (Nat.le_of_ble_eq_true rfl) rfl rfl rfl rfl rfl ?_
              refine RegV.ld (v := (.d (.agg [(.int .u64 r122.2.1), (.int .u64 r122.2.2.1), (.int .u64 r122.2.2.2.1), (.int .i64 r122.2.2.2.2.1), (.sl (List.map byteD r122.2.2.2.2.2))]))) (H' := [(1, (.cells [(.d (.int .u64 r122.2.1)), (.d (.int .u64 r122.2.2.1)), (.d (.int .u64 r122.2.2.2.1)), (.d (.int .i64 r122.2.2.2.2.1)), (.d (.sl (List.map byteD r122.2.2.2.2.2)))])), (0, (.cells [(.d (.int .u64 r110.2.1)), (.d (.int .u64 r110.2.2.1)), (.d (.int .u64 r110.2.2.2.1)), (.d (.int .i64 r110.2.2.2.2.1)), (.d (.sl (List.map byteD r110.2.2.2.2.2)))]))]) rfl rfl (Nat.le_of_ble_eq_true rfl) rfl rfl rfl rfl rfl ?_
              obtain ⟨r151, e151, h⟩ := bind_some h
              refine RegV.call0 (F38 hmix hc.2.2.2.2.2.2 e151) rfl rfl rfl rfl (.cons (.refl _) (.cons (.refl _) .nil)) rfl ?_
              refine RegV.p0 rfl rfl rfl ?_
              refine RegV.p0 rfl rfl rfl ?_
              refine RegV.split (fun c153 => ?_) (fun c153 => ?_)
              · have h := cond_pos c153 h
                refine RegV.p0 rfl rfl rfl ?_
                refine RegV.p0 rfl rfl rfl ?_
                refine RegV.p0 (v := (.d (.bool (r110.1 == r122.1)))) rfl rfl rfl ?_
                refine RegV.p0 rfl rfl rfl ?_
                refine RegV.p0 rfl rfl rfl ?_
                refine RegV.nil0 ?_
                have hr := Option.some.inj h
                subst hr
                exact AWc.ret (canQ (N := 104) (k := 0) (l' := [(6, (.d (.bool (r110.1 == r122.1))))]) (H' := []) rfl ⟨rfl, [], [], rfl, rfl, ⟨⟨_, rfl, (.refl _)⟩, rfl, trivial⟩,  trivial⟩ (doneA (.inr rfl) rfl ⟨trivial, trivial⟩ (.refl _) hasNil))
              · have h := cond_neg c153 h
                refine RegV.noS rfl rfl ?_
                refine RegV.noS rfl rfl ?_
                refine RegV.noS rfl rfl ?_
                refine RegV.p0 rfl rfl rfl ?_
                refine RegV.p0 rfl rfl rfl ?_
                refine RegV.nil0 ?_
                have hr := Option.some.inj h
                subst hr
                exact AWc.ret (canQ (N := 104) (k := 0) (l' := [(6, (.d (.bool false)))]) (H' := []) rfl ⟨rfl, [], [], rfl, rfl, ⟨⟨_, rfl, (.refl _)⟩, rfl, trivial⟩,  trivial⟩ (doneA (.inr rfl) rfl ⟨trivial, trivial⟩ (.refl _) hasNil))
            · have h := cond_neg c148 h
              refine RegV.noS rfl rfl ?_
              refine RegV.noS rfl rfl ?_
              refine RegV.noS rfl rfl ?_
              refine RegV.p0 rfl rfl rfl ?_
              refine RegV.p0 rfl rfl rfl ?_
              refine RegV.noS rfl rfl ?_
              refine RegV.noS rfl rfl ?_
              refine RegV.noS rfl rfl ?_
              refine RegV.p0 rfl rfl rfl ?_
              refine RegV.p0 rfl rfl rfl ?_
              refine RegV.nil0 ?_
              have hr := Option.some.inj h
              subst hr
              exact AWc.ret (canQ (N := 104) (k := 0) (l' := [(6, (.d (.bool false)))]) (H' := []) rfl ⟨rfl, [], [], rfl, rfl, ⟨⟨_, rfl, (.refl _)⟩, rfl, trivial⟩,  trivial⟩ (doneA (.inr rfl) rfl ⟨trivial, trivial⟩ (.refl _) hasNil))
          · have h := cond_neg c143 h
            refine RegV.noS rfl rfl ?_
            refine RegV.noS rfl rfl ?_
            refine RegV.noS rfl rfl ?_
            refine RegV.p0 rfl rfl rfl ?_
            refine RegV.p0 rfl rfl rfl ?_
            refine RegV.noS rfl rfl ?_
            refine RegV.noS rfl rfl ?_
            refine RegV.noS rfl rfl ?_
            refine RegV.p0 rfl rfl rfl ?_
            refine RegV.p0 rfl rfl rfl ?_
            refine RegV.noS rfl rfl ?_
            refine RegV.noS rfl rfl ?_
            refine RegV.noS rfl rfl ?_
            refine RegV.p0 rfl rfl rfl ?_
            refine RegV.p0 rfl rfl rfl ?_
            refine RegV.nil0 ?_
            have hr := Option.some.inj h
            subst hr
            exact AWc.ret (canQ (N := 104) (k := 0) (l' := [(6, (.d (.bool false)))]) (H' := []) rfl ⟨rfl, [], [], rfl, rfl, ⟨⟨_, rfl, (.refl _)⟩, rfl, trivial⟩,  trivial⟩ (doneA (.inr rfl) rfl ⟨trivial, trivial⟩ (.refl _) hasNil))
        · have h := cond_neg c138 h
          refine RegV.noS rfl rfl ?_
          refine RegV.noS rfl rfl ?_
          refine RegV.noS rfl rfl ?_
          refine RegV.p0 rfl rfl rfl ?_
          refine RegV.p0 rfl rfl rfl ?_
          refine RegV.noS rfl rfl ?_
          refine RegV.noS rfl rfl ?_
          refine RegV.noS rfl rfl ?_
          refine RegV.p0 rfl rfl rfl ?_
          refine RegV.p0 rfl rfl rfl ?_
          refine RegV.noS rfl rfl ?_
          refine RegV.noS rfl rfl ?_
          refine RegV.noS rfl rfl ?_
          refine RegV.p0 rfl rfl rfl ?_
          refine RegV.p0 rfl rfl rfl ?_
          refine RegV.noS rfl rfl ?_
          refine RegV.noS rfl rfl ?_
          refine RegV.noS rfl rfl ?_
          refine RegV.p0 rfl rfl rfl ?_
          refine RegV.p0 rfl rfl rfl ?_
          refine RegV.nil0 ?_
          have hr := Option.some.inj h
          subst hr
          exact AWc.ret (canQ (N := 104) (k := 0) (l' := [(6, (.d (.bool false)))]) (H' := []) rfl ⟨rfl, [], [], rfl, rfl, ⟨⟨_, rfl, (.refl _)⟩, rfl, trivial⟩,  trivial⟩ (doneA (.inr rfl) rfl ⟨trivial, trivial⟩ (.refl _) hasNil))
      · have h := cond_neg c133 h
        refine RegV.noS rfl rfl ?_
        refine RegV.noS rfl rfl ?_
        refine RegV.noS rfl rfl ?_
        refine RegV.p0 rfl rfl rfl ?_
        refine RegV.p0 rfl rfl rfl ?_
        refine RegV.noS rfl rfl ?_
        refine RegV.noS rfl rfl ?_
        refine RegV.noS rfl rfl ?_
        refine RegV.p0 rfl rfl rfl ?_
        refine RegV.p0 rfl rfl rfl ?_
        refine RegV.noS rfl rfl ?_
        refine RegV.noS rfl rfl ?_
        refine RegV.noS rfl rfl ?_
        refine RegV.p0 rfl rfl rfl ?_
        refine RegV.p0 rfl rfl rfl ?_
        refine RegV.noS rfl rfl ?_
        refine RegV.noS rfl rfl ?_
        refine RegV.noS rfl rfl ?_
        refine RegV.p0 rfl rfl rfl ?_
        refine RegV.p0 rfl rfl rfl ?_
        refine RegV.noS rfl rfl ?_
        refine RegV.noS rfl rfl ?_
        refine RegV.noS rfl rfl ?_
        refine RegV.p0 rfl rfl rfl ?_
        refine RegV.p0 rfl rfl rfl ?_
        refine RegV.nil0 ?_
        have hr := Option.some.inj h
        subst hr
        exact AWc.ret (canQ (N := 104) (k := 0) (l' := [(6, (.d (.bool false)))]) (H' := []) rfl ⟨rfl, [], [], rfl, rfl, ⟨⟨_, rfl, (.refl _)⟩, rfl, trivial⟩,  trivial⟩ (doneA (.inr rfl) rfl ⟨trivial, trivial⟩ (.refl _) hasNil))
/-- courant/courantlaw24.BatchOnce -/
def C6 (N : Nat → Nat) : AFunc := { n := 101, params := 3, res := [.tmp 6], body :=
 (.seq (.region false [⟨(some 6), .mv (.k (.d (.bool false))), none, []⟩])
  (.seq (.region false [⟨(some 17), .mv (.t 0), none, []⟩,
    ⟨(some 18), .bin .shr (.t 17) (.k (.d (.int .u64 1))), none, [0]⟩,
    ⟨(some 19), .bin .add (.k (.d (.int .u64 1))) (.t 18), none, [1]⟩,
    ⟨(some 20), .mv (.t 1), none, []⟩,
    ⟨(some 21), .bin .shr (.t 20) (.k (.d (.int .u64 2))), none, [3]⟩,
    ⟨(some 22), .bin .add (.k (.d (.int .u64 1))) (.t 21), none, [4]⟩,
    ⟨(some 0), .mv (.t 19), none, [2, 0, 1]⟩,
    ⟨(some 1), .mv (.t 22), none, [5, 6, 0, 1, 2, 3, 4]⟩])
   (.seq (.region false [⟨(some 7), .mv (.k .nils), none, []⟩])
    (.seq (.seq (.region false [⟨(some 23), .call (.k (.d (.fn (N 33)))) [], none, []⟩,
       ⟨(some 24), .un .not (.t 23), none, [0]⟩])
      (.cond (.t 24) (.seq (.region false [⟨(some 6), .mv (.k (.d (.bool false))), none, []⟩])
        .ret)
       (.skip)))
     (.seq (.seq (.region false [⟨(some 8), .mv (.k (.d (.int .i64 0))), none, []⟩])
       (.block 0 (.loop (.seq (.seq (.region false [⟨(some 25), .mv (.t 8), none, []⟩,
            ⟨(some 26), .mv (.t 2), none, []⟩,
            ⟨(some 27), .len (.t 26), none, [1]⟩,
            ⟨(some 28), .bin .lss (.t 25) (.t 27), none, [0, 2]⟩,
            ⟨(some 29), .mv (.t 28), none, [3]⟩,
            ⟨(some 30), .mv (.t 8), (some (29, true)), [4]⟩,
            ⟨(some 31), .bin .lss (.t 30) (.k (.d (.int .i64 60))), (some (29, true)), [5, 4]⟩,
            ⟨(some 32), .pick (.t 29) (.t 31) (.k (.d (.bool false))), none, [4, 6]⟩])
           (.cond (.t 32) (.skip)
            (.exit 0)))
          (.seq (.block 1 (.seq (.region false [⟨(some 35), .mv (.t 1), none, []⟩,
              ⟨(some 36), .mv (.t 7), none, []⟩,
              ⟨(some 37), .len (.t 36), none, [1]⟩,
              ⟨(some 38), .cvi .u64 (.t 37), none, [2]⟩,
              ⟨(some 39), .bin .add (.t 35) (.t 38), none, [0, 3]⟩,
              ⟨(some 9), .mv (.t 39), none, [4, 0, 1, 2, 3]⟩])
             (.seq (.seq (.region false [⟨(some 10), .mv (.k (.d (.int .i64 0))), none, []⟩])
               (.block 2 (.loop (.seq (.seq (.region false [⟨(some 40), .mv (.t 10), none, []⟩,
                    ⟨(some 41), .mv (.t 2), none, []⟩,
                    ⟨(some 42), .mv (.t 8), none, []⟩,
                    ⟨(some 43), .iaddr (.t 41) (.t 42) 1, none, [1, 2]⟩,
                    ⟨(some 44), .load (.t 43) 1 false, none, [3]⟩,
                    ⟨(some 45), .cvi .u64 (.t 44), none, [4]⟩,
                    ⟨(some 46), .bin .rem (.t 45) (.k (.d (.int .u64 3))), none, [5]⟩,
                    ⟨(some 47), .cvi .i64 (.t 46), none, [6]⟩,
                    ⟨(some 48), .bin .leq (.t 40) (.t 47), none, [0, 7]⟩])
                   (.cond (.t 48) (.skip)
                    (.exit 2)))
                  (.seq (.block 3 (.seq (.region false [⟨(some 52), .mv (.t 7), none, []⟩,
                      ⟨(some 53), .mv (.t 0), none, []⟩,
                      ⟨(some 54), .mv (.t 9), none, []⟩,
                      ⟨(some 55), .call (.k (.d (.fn (N 34)))) [(.t 52), (.t 53), (.t 54)], none, [0, 1, 2]⟩,
                      ⟨(some 51), .mv (.t 55), none, [3]⟩,
                      ⟨(some 56), .ext (.t 51) 0, none, [4]⟩,
                      ⟨(some 57), .ext (.t 51) 1, none, [4]⟩,
                      ⟨(some 58), .ext (.t 51) 2, none, [4]⟩,
                      ⟨(some 11), .mv (.t 56), none, [5, 3, 0, 1, 2, 4]⟩,
                      ⟨(some 12), .mv (.t 57), none, [6, 8, 0, 1, 2, 3, 4, 5]⟩,
                      ⟨(some 13), .mv (.t 58), none, [7, 9, 0, 1, 2, 3, 4, 5, 6, 8]⟩])
                     (.seq (.seq (.region false [⟨(some 59), .mv (.t 13), none, []⟩,
                        ⟨(some 60), .bin .neq (.t 59) (.k (.d (.int .i64 0))), none, [0]⟩,
                        ⟨(some 61), .mv (.t 60), none, [1]⟩,
                        ⟨(some 62), .mv (.t 12), (some (61, false)), [2]⟩,
                        ⟨(some 63), .mv (.t 10), (some (61, false)), [2]⟩,
                        ⟨(some 64), .bin .gtr (.t 63) (.k (.d (.int .i64 0))), (some (61, false)), [4, 2]⟩,
                        ⟨(some 65), .beq true (.t 62) (.t 64), (some (61, false)), [3, 5, 2]⟩,
                        ⟨(some 66), .pick (.t 61) (.k (.d (.bool true))) (.t 65), none, [2, 6]⟩,
                        ⟨(some 67), .mv (.t 66), none, [7, 2]⟩,
                        ⟨(some 68), .mv (.t 10), (some (67, false)), [8]⟩,
                        ⟨(some 69), .bin .gtr (.t 68) (.k (.d (.int .i64 0))), (some (67, false)), [9, 8]⟩,
                        ⟨(some 70), .mv (.t 69), (some (67, false)), [10, 8]⟩,
                        ⟨(some 71), .mv (.t 11), (some (70, true)), [11]⟩,
                        ⟨(some 72), .mv (.t 7), (some (70, true)), [11]⟩,
                        ⟨(some 73), .len (.t 72), (some (70, true)), [13, 11]⟩,
                        ⟨(some 74), .bin .sub (.t 73) (.k (.d (.int .i64 1))), (some (70, true)), [14, 11]⟩,
                        ⟨(some 75), .cvi .u64 (.t 74), (some (70, true)), [15, 11]⟩,
                        ⟨(some 76), .bin .neq (.t 71) (.t 75), (some (70, true)), [12, 16, 11]⟩,
                        ⟨(some 77), .pick (.t 70) (.t 76) (.k (.d (.bool false))), (some (67, false)), [11, 17, 8]⟩,
                        ⟨(some 78), .pick (.t 67) (.k (.d (.bool true))) (.t 77), none, [8, 18]⟩])
                       (.cond (.t 78) (.seq (.region false [⟨(some 6), .mv (.k (.d (.bool false))), none, []⟩])
                         .ret)
                        (.skip)))
                      (.seq (.region false [⟨(some 79), .mv (.t 12), none, []⟩,
                        ⟨(some 80), .un .not (.t 79), none, [0]⟩])
                       (.cond (.t 80) (.region false [⟨(some 81), .mv (.t 7), none, []⟩,
                         ⟨(some 82), .mv (.t 7), none, []⟩,
                         ⟨(some 83), .len (.t 82), none, [1]⟩,
                         ⟨(some 84), .cvi .u64 (.t 83), none, [2]⟩,
                         ⟨(some 85), .mv (.t 0), none, []⟩,
                         ⟨(some 86), .mv (.t 9), none, []⟩,
                         ⟨(some 87), .build [(.int .u64 0), (.int .u64 0), (.int .u64 0), (.int .i64 0), (.sl [])] [(0, 1, (.t 84)), (1, 1, (.t 85)), (2, 1, (.t 86))], none, [3, 4, 5]⟩,
                         ⟨(some 88), .bslice 1 5 [(.int .u64 0), (.int .u64 0), (.int .u64 0), (.int .i64 0), (.sl [])] [(0, (.t 87))], none, [6]⟩,
                         ⟨(some 89), .app (.t 81) (.t 88) 5 56 [(.int .u64 0), (.int .u64 0), (.int .u64 0), (.int .i64 0), (.sl [])], none, [0, 7]⟩,
                         ⟨(some 7), .mv (.t 89), none, [8, 0, 1, 2, 3, 4, 5, 6, 7]⟩])
                        (.skip))))))
                   (.region false [⟨(some 49), .mv (.t 10), none, []⟩,
                    ⟨(some 50), .bin .add (.t 49) (.k (.d (.int .i64 1))), none, [0]⟩,
                    ⟨(some 10), .mv (.t 50), none, [1, 0]⟩]))))))
              (.seq (.region false [⟨(some 91), .mv (.t 7), none, []⟩,
                ⟨(some 92), .mv (.t 0), none, []⟩,
                ⟨(some 93), .mv (.t 9), none, []⟩,
                ⟨(some 94), .bin .add (.t 93) (.k (.d (.int .u64 2))), none, [2]⟩,
                ⟨(some 95), .call (.k (.d (.fn (N 34)))) [(.t 91), (.t 92), (.t 94)], none, [0, 1, 3]⟩,
                ⟨(some 90), .mv (.t 95), none, [4]⟩,
                ⟨(some 96), .ext (.t 90) 0, none, [5]⟩,
                ⟨(some 97), .ext (.t 90) 1, none, [5]⟩,
                ⟨(some 98), .ext (.t 90) 2, none, [5]⟩,
                ⟨(some 14), .mv (.t 96), none, [6, 4, 0, 1, 2, 3, 5]⟩,
                ⟨(some 15), .mv (.t 97), none, [7, 9, 0, 1, 2, 3, 4, 5, 6]⟩,
                ⟨(some 16), .mv (.t 98), none, [8, 10, 0, 1, 2, 3, 4, 5, 6, 7, 9]⟩])
               (.seq (.region false [⟨(some 99), .mv (.t 16), none, []⟩,
                 ⟨(some 100), .bin .neq (.t 99) (.k (.d (.int .i64 15))), none, [0]⟩])
                (.cond (.t 100) (.seq (.region false [⟨(some 6), .mv (.k (.d (.bool false))), none, []⟩])
                  .ret)
                 (.skip)))))))
           (.region false [⟨(some 33), .mv (.t 8), none, []⟩,
            ⟨(some 34), .bin .add (.t 33) (.k (.d (.int .i64 1))), none, [0]⟩,
            ⟨(some 8), .mv (.t 34), none, [1, 0]⟩]))))))
      (.seq (.region false [⟨(some 6), .mv (.k (.d (.bool true))), none, []⟩])
       .ret)))))) }
def HC6 (P : Program) (N : Nat → Nat) : Prop := HasF P (N 6) (C6 N) ∧ HC33 P N ∧ HC34 P N
def f6_j160 (L : (List TMessage) → Int → Option (LR2 Unit Unit Bool)) (k : Nat) (a0 : Int) (a1 : Int) (y38_1 : (List TMessage)) (y38_2 : Int) (j160_1 : (List TMessage)) : Option (LR2 Unit Unit Bool) := (f34 k j160_1 (IntKind.u64.wrap ((1 : Int) + (Int.fdiv a0 (2 ^ (min ((1 : Int)).toNat IntKind.u64.bits))))) (IntKind.u64.wrap ((IntKind.u64.wrap ((IntKind.u64.wrap ((1 : Int) + (Int.fdiv a1 (2 ^ (min ((2 : Int)).toNat IntKind.u64.bits))))) + (IntKind.u64.wrap ((y38_1.length : Nat) : Int)))) + (2 : Int)))).bind fun r167 => cond (decide (r167.2.2 ≠ (15 : Int))) (some (.r false)) (L j160_1 (IntKind.i64.wrap (y38_2 + (1 : Int))))
def f6_j136 (L : (List TMessage) → Int → Option (LR2 (List TMessage) Unit Bool)) (k : Nat) (r97 : (Int × Bool × Int)) (y71_1 : (List TMessage)) (a0 : Int) (a1 : Int) (y38_1 : (List TMessage)) (y71_2 : Int) (j136_1 : Bool) (j136_2 : Bool) : Option (LR2 (List TMessage) Unit Bool) := cond (!r97.2.1) (gd ((y71_1.length + ([(TMessage.mk (IntKind.u64.wrap ((y71_1.length : Nat) : Int)) (IntKind.u64.wrap ((1 : Int) + (Int.fdiv a0 (2 ^ (min ((1 : Int)).toNat IntKind.u64.bits))))) (IntKind.u64.wrap ((IntKind.u64.wrap ((1 : Int) + (Int.fdiv a1 (2 ^ (min ((2 : Int)).toNat IntKind.u64.bits))))) + (IntKind.u64.wrap ((y38_1.length : Nat) : Int)))) (0 : Int) ([] : List UInt8))] : List TMessage).length) * 2 * 56 ≤ 281474976710656) (L (y71_1 ++ ([(TMessage.mk (IntKind.u64.wrap ((y71_1.length : Nat) : Int)) (IntKind.u64.wrap ((1 : Int) + (Int.fdiv a0 (2 ^ (min ((1 : Int)).toNat IntKind.u64.bits))))) (IntKind.u64.wrap ((IntKind.u64.wrap ((1 : Int) + (Int.fdiv a1 (2 ^ (min ((2 : Int)).toNat IntKind.u64.bits))))) + (IntKind.u64.wrap ((y38_1.length : Nat) : Int)))) (0 : Int) ([] : List UInt8))] : List TMessage)) (IntKind.i64.wrap (y71_2 + (1 : Int))))) (L y71_1 (IntKind.i64.wrap (y71_2 + (1 : Int))))
def f6_l71 (y38_2 : Int) (a2 : (List Int)) (a0 : Int) (a1 : Int) (y38_1 : (List TMessage)) : Nat → (List TMessage) → Int → Option (LR2 (List TMessage) Unit Bool)
  | 0, _, _ => none
  | k + 1, y71_1, y71_2 => gd (0 ≤ y38_2 ∧ y38_2 < ((a2.length : Nat) : Int)) (cond (decide (y71_2 ≤ (IntKind.i64.wrap (Int.tmod (IntKind.u64.wrap (rd a2 y38_2)) (3 : Int))))) ((f34 k y71_1 (IntKind.u64.wrap ((1 : Int) + (Int.fdiv a0 (2 ^ (min ((1 : Int)).toNat IntKind.u64.bits))))) (IntKind.u64.wrap ((IntKind.u64.wrap ((1 : Int) + (Int.fdiv a1 (2 ^ (min ((2 : Int)).toNat IntKind.u64.bits))))) + (IntKind.u64.wrap ((y38_1.length : Nat) : Int))))).bind fun r97 => cond (decide (r97.2.2 ≠ (0 : Int))) (some (.r false)) (cond (!(r97.2.1 == (decide (y71_2 > (0 : Int))))) (some (.r false)) (cond (decide (y71_2 > (0 : Int))) (cond (decide (r97.1 ≠ (IntKind.u64.wrap (IntKind.i64.wrap (((y71_1.length : Nat) : Int) - (1 : Int)))))) (some (.r false)) (f6_j136 (f6_l71 y38_2 a2 a0 a1 y38_1 k) k r97 y71_1 a0 a1 y38_1 y71_2 true (decide (r97.1 ≠ (IntKind.u64.wrap (IntKind.i64.wrap (((y71_1.length : Nat) : Int) - (1 : Int)))))))) (f6_j136 (f6_l71 y38_2 a2 a0 a1 y38_1 k) k r97 y71_1 a0 a1 y38_1 y71_2 false false)))) (some (.b0 y71_1)))
def f6_l38 (a2 : (List Int)) (a0 : Int) (a1 : Int) : Nat → (List TMessage) → Int → Option (LR2 Unit Unit Bool)
  | 0, _, _ => none
  | k + 1, y38_1, y38_2 => cond (decide (y38_2 < ((a2.length : Nat) : Int))) (cond (decide (y38_2 < (60 : Int))) ((f6_l71 y38_2 a2 a0 a1 y38_1 k y38_1 (0 : Int)).bind fun o71 => match o71 with | .b0 x71_1 => f6_j160 (f6_l38 a2 a0 a1 k) k a0 a1 y38_1 y38_2 x71_1 | .r x => some (.r x) | _ => none) (some (.b0 ()))) (some (.b0 ()))
def f6 (k : Nat) (a0 : Int) (a1 : Int) (a2 : (List Int)) : Option Bool := (f33 k).bind fun r24 => cond (!r24) (some false) ((f6_l38 a2 a0 a1 k ([] : List TMessage) (0 : Int)).bind fun o38 => match o38 with | .b0 () => some true | .r x => some x | _ => none)
theorem F6 {P : Program} {N : Nat → Nat} (hmix : P.follows .mixedOrders = true) (hc : HC6 P N) {k : Nat} {a0 : Int} {a1 : Int} {a2 : (List Int)} {r : Bool} (h : f6 k a0 a1 a2 = some r) :
    ACalls P (N 6) [(.d (.int .u64 a0)), (.d (.int .u64 a1)), (.d (.sl (List.map (D.int .i64) a2)))] [] (.d (.bool r)) [] := by
  refine acalls_canon (F := C6 N) hc.1 0 0 rfl ?_
  unfold f6 at h
  dsimp only [C6, startL]
  refine AWc.seq ?_
  refine AWc.rg hmix rfl rfl ?_
  refine RegV.p0 rfl rfl rfl ?_
  refine RegV.nil0 ?_
  refine AWc.seq ?_
  refine AWc.rg hmix rfl rfl ?_
  refine RegV.p0 rfl rfl rfl ?_
  refine RegV.p1 (v := (.d (.int .u64 (Int.fdiv a0 (2 ^ (min ((1 : Int)).toNat IntKind.u64.bits)))))) rfl rfl (by decide) rfl rfl ?_
  refine RegV.p0 (v := (.d (.int .u64 (IntKind.u64.wrap ((1 : Int) + (Int.fdiv a0 (2 ^ (min ((1 : Int)).toNat IntKind.u64.bits)))))))) rfl rfl rfl ?_
  refine RegV.p0 rfl rfl rfl ?_
  refine RegV.p1 (v := (.d (.int .u64 (Int.fdiv a1 (2 ^ (min ((2 : Int)).toNat IntKind.u64.bits)))))) rfl rfl (by decide) rfl rfl ?_
  refine RegV.p0 (v := (.d (.int .u64 (IntKind.u64.wrap ((1 : Int) + (Int.fdiv a1 (2 ^ (min ((2 : Int)).toNat IntKind.u64.bits)))))))) rfl rfl rfl ?_
  refine RegV.p0 rfl rfl rfl ?_
  refine RegV.p0 rfl rfl rfl ?_
  refine RegV.nil0 ?_
  refine AWc.seq ?_
  refine AWc.rg hmix rfl rfl ?_
  refine RegV.p0 rfl rfl rfl ?_
  refine RegV.nil0 ?_
  refine AWc.seq ?_
  refine AWc.seq ?_
  refine AWc.rg hmix rfl rfl ?_
  obtain ⟨r24, e24, h⟩ := bind_some h
  refine RegV.call0 (F33 hmix hc.2.1 e24) rfl rfl rfl rfl .nil rfl ?_
  refine RegV.p0 (v := (.d (.bool (!r24)))) rfl rfl rfl ?_
  refine RegV.nil0 ?_
  refine AWc.cond rfl (fun c26 => ?_) (fun c26 => ?_)
  · have h := cond_pos c26 h
    refine AWc.seq ?_
    refine AWc.rg hmix rfl rfl ?_
    refine RegV.p0 rfl rfl rfl ?_
    refine RegV.nil0 ?_
    have hr := Option.some.inj h
    subst hr
    exact AWc.ret (canQ (N := 101) (k := 0) (l' := [(6, (.d (.bool false)))]) (H' := []) rfl ⟨rfl, [], [], rfl, rfl, ⟨⟨_, rfl, (.refl _)⟩, rfl, trivial⟩,  trivial⟩ (doneA (.inr rfl) rfl ⟨trivial, trivial⟩ (.refl _) hasNil))
  · have h := cond_neg c26 h
    refine AWc.skip ?_
    refine AWc.seq ?_
    refine AWc.seq ?_
    refine AWc.rg hmix rfl rfl ?_
    refine RegV.p0 rfl rfl rfl ?_
    refine RegV.nil0 ?_
    obtain ⟨o38, h38, h⟩ := bind_some h
    refine AWc.block ?_
    refine AWc.loopK (N := 101) 1 (fun (x : ((List TMessage) × Int)) => [(0, (.d (.int .u64 (IntKind.u64.wrap ((1 : Int) + (Int.fdiv a0 (2 ^ (min ((1 : Int)).toNat IntKind.u64.bits)))))))), (1, (.d (.int .u64 (IntKind.u64.wrap ((1 : Int) + (Int.fdiv a1 (2 ^ (min ((2 : Int)).toNat IntKind.u64.bits)))))))), (2, (.d (.sl (List.map (D.int .i64) a2)))), (7, (.ap 0 5 (List.map TMessage.enc x.1))), (8, (.d (.int .i64 x.2)))]) (fun x => [(0, (.tok ((List.map TMessage.enc x.1).length * 5)))]) (fun k x => f6_l38 a2 a0 a1 k x.1 x.2 = some o38) k (([] : List TMessage), (0 : Int)) rfl_le (fun x hx => by cases hx) h38 ⟨rfl, [.tok 0], [(0, 0)], rfl, rfl, ⟨⟨_, rfl, (.refl _)⟩, rfl, ⟨⟨_, rfl, (.refl _)⟩, rfl, ⟨⟨_, rfl, (.refl _)⟩, rfl, ⟨⟨_, rfl, .nil⟩, rfl, ⟨⟨_, rfl, (.refl _)⟩, rfl, trivial⟩⟩⟩⟩⟩, ⟨⟨_, rfl, (.refl _)⟩, rfl, rfl, trivial⟩⟩ ?_
    clear h38
    intro k
    rintro ⟨y38_1, y38_2⟩ h38
    dsimp only at h38 ⊢
    rw [f6_l38] at h38
    refine AWc.seq ?_
    refine AWc.seq ?_
    refine AWc.rg hmix rfl rfl ?_
    refine RegV.p0 rfl rfl rfl ?_
    refine RegV.p0 rfl rfl rfl ?_
    refine RegV.len (xs := a2) (e := (D.int .i64)) rfl rfl rfl rfl ?_
    refine RegV.p0 (v := (.d (.bool (decide (y38_2 < ((a2.length : Nat) : Int)))))) rfl rfl rfl ?_
    refine RegV.p0 rfl rfl rfl ?_
    refine RegV.split (fun c48 => ?_) (fun c48 => ?_)
    · have h38 := cond_pos c48 h38
      refine RegV.p0 rfl rfl rfl ?_
      refine RegV.p0 (v := (.d (.bool (decide (y38_2 < (60 : Int)))))) rfl rfl rfl ?_
      refine RegV.p0 rfl rfl rfl ?_
      refine RegV.nil0 ?_
      refine AWc.cond rfl (fun c52 => ?_) (fun c52 => ?_)
      · have h38 := cond_pos c52 h38
        refine AWc.skip ?_
        refine AWc.seq ?_
        refine AWc.block ?_
        refine AWc.seq ?_
        refine AWc.rg hmix rfl rfl ?_
        refine RegV.p0 rfl rfl rfl ?_
        refine RegV.p0 rfl rfl rfl ?_
        refine RegV.len (xs := y38_1) (e := TMessage.enc) rfl rfl rfl rfl ?_
        refine RegV.p0 (v := (.d (.int .u64 (IntKind.u64.wrap ((y38_1.length : Nat) : Int))))) rfl rfl rfl ?_
        refine RegV.p0 (v := (.d (.int .u64 (IntKind.u64.wrap ((IntKind.u64.wrap ((1 : Int) + (Int.fdiv a1 (2 ^ (min ((2 : Int)).toNat IntKind.u64.bits))))) + (IntKind.u64.wrap ((y38_1.length : Nat) : Int))))))) rfl rfl rfl ?_
        refine RegV.p0 rfl rfl rfl ?_
        refine RegV.nil0 ?_
        refine AWc.seqS (N := 101) 1 (fun (z : (List TMessage)) => [(0, (.d (.int .u64 (IntKind.u64.wrap ((1 : Int) + (Int.fdiv a0 (2 ^ (min ((1 : Int)).toNat IntKind.u64.bits)))))))), (1, (.d (.int .u64 (IntKind.u64.wrap ((1 : Int) + (Int.fdiv a1 (2 ^ (min ((2 : Int)).toNat IntKind.u64.bits)))))))), (2, (.d (.sl (List.map (D.int .i64) a2)))), (7, (.ap 0 5 (List.map TMessage.enc z))), (8, (.d (.int .i64 y38_2))), (9, (.d (.int .u64 (IntKind.u64.wrap ((IntKind.u64.wrap ((1 : Int) + (Int.fdiv a1 (2 ^ (min ((2 : Int)).toNat IntKind.u64.bits))))) + (IntKind.u64.wrap ((y38_1.length : Nat) : Int))))))), (30, (.d (.int .i64 y38_2))), (31, (.d (.bool (decide (y38_2 < (60 : Int))))))]) (fun z => [(0, (.tok ((List.map TMessage.enc z).length * 5)))]) (fun z => f6_j160 (f6_l38 a2 a0 a1 k) k a0 a1 y38_1 y38_2 z = some o38) rfl_le ?_ ?_
        · refine AWc.seq ?_
          refine AWc.rg hmix rfl rfl ?_
          refine RegV.p0 rfl rfl rfl ?_
          refine RegV.nil0 ?_
          obtain ⟨o71, h71, h38⟩ := bind_some h38
          refine AWc.block ?_
          refine AWc.loopK (N := 101) 1 (fun (x : ((List TMessage) × Int)) => [(0, (.d (.int .u64 (IntKind.u64.wrap ((1 : Int) + (Int.fdiv a0 (2 ^ (min ((1 : Int)).toNat IntKind.u64.bits)))))))), (1, (.d (.int .u64 (IntKind.u64.wrap ((1 : Int) + (Int.fdiv a1 (2 ^ (min ((2 : Int)).toNat IntKind.u64.bits)))))))), (2, (.d (.sl (List.map (D.int .i64) a2)))), (7, (.ap 0 5 (List.map TMessage.enc x.1))), (8, (.d (.int .i64 y38_2))), (9, (.d (.int .u64 (IntKind.u64.wrap ((IntKind.u64.wrap ((1 : Int) + (Int.fdiv a1 (2 ^ (min ((2 : Int)).toNat IntKind.u64.bits))))) + (IntKind.u64.wrap ((y38_1.length : Nat) : Int))))))), (10, (.d (.int .i64 x.2))), (30, (.d (.int .i64 y38_2))), (31, (.d (.bool (decide (y38_2 < (60 : Int))))))]) (fun x => [(0, (.tok ((List.map TMessage.enc x.1).length * 5)))]) (fun k x => f6_l71 y38_2 a2 a0 a1 y38_1 k x.1 x.2 = some o71) k (y38_1, (0 : Int)) rfl_le (fun x hx => by cases hx) h71 ⟨rfl, [], [], rfl, rfl, ⟨⟨_, rfl, (.refl _)⟩, rfl, ⟨⟨_, rfl, (.refl _)⟩, rfl, ⟨⟨_, rfl, (.refl _)⟩, rfl, ⟨⟨_, rfl, (.refl _)⟩, rfl, ⟨⟨_, rfl, (.refl _)⟩, rfl, ⟨⟨_, rfl, (.refl _)⟩, rfl, ⟨⟨_, rfl, (.refl _)⟩, rfl, ⟨⟨_, rfl, (.refl _)⟩, rfl, ⟨⟨_, rfl, (.refl _)⟩, rfl, trivial⟩⟩⟩⟩⟩⟩⟩⟩⟩, ⟨⟨_, rfl, (.refl _)⟩, rfl, rfl, trivial⟩⟩ ?_
          clear h71
          intro k
          rintro ⟨y71_1, y71_2⟩ h71
          dsimp only at h71 ⊢
          rw [f6_l71] at h71
          refine AWc.seq ?_
          refine AWc.seq ?_
          refine AWc.rg hmix rfl rfl ?_
          refine RegV.p0 rfl rfl rfl ?_
          refine RegV.p0 rfl rfl rfl ?_
          refine RegV.p0 rfl rfl rfl ?_
          obtain ⟨b80, h71⟩ := gd_some h71
          refine RegV.iad (xs := a2) (e := (D.int .i64)) rfl rfl rfl rfl (fun _ => rfl) b80 rfl ?_
          refine RegV.p0 (v := (.d (.int .i64 (rd a2 y38_2)))) rfl rfl rfl ?_
          refine RegV.p0 (v := (.d (.int .u64 (IntKind.u64.wrap (rd a2 y38_2))))) rfl rfl rfl ?_
          refine RegV.p1 (v := (.d (.int .u64 (Int.tmod (IntKind.u64.wrap (rd a2 y38_2)) (3 : Int))))) rfl rfl (by decide) rfl rfl ?_
          refine RegV.p0 (v := (.d (.int .i64 (IntKind.i64.wrap (Int.tmod (IntKind.u64.wrap (rd a2 y38_2)) (3 : Int)))))) rfl rfl rfl ?_
          refine RegV.p0 (v := (.d (.bool (decide (y71_2 ≤ (IntKind.i64.wrap (Int.tmod (IntKind.u64.wrap (rd a2 y38_2)) (3 : Int)))))))) rfl rfl rfl ?_
          refine RegV.nil0 ?_
          refine AWc.cond rfl (fun c86 => ?_) (fun c86 => ?_)
          · have h71 := cond_pos c86 h71
            refine AWc.skip ?_
            refine AWc.seq ?_
            refine AWc.block ?_
            refine AWc.seq ?_
            refine AWc.rg hmix rfl rfl ?_
            refine RegV.p0 rfl rfl rfl ?_
            refine RegV.p0 rfl rfl rfl ?_
            refine RegV.p0 rfl rfl rfl ?_
            obtain ⟨r97, e97, h71⟩ := bind_some h71
            refine RegV.call0 (F34 hmix hc.2.2 e97) rfl rfl rfl rfl (.cons (.sl rfl) (.cons (.refl _) (.cons (.refl _) .nil))) rfl ?_
            refine RegV.p0 rfl rfl rfl ?_
            refine RegV.p0 rfl rfl rfl ?_
            refine RegV.p0 rfl rfl rfl ?_
            refine RegV.p0 rfl rfl rfl ?_
            refine RegV.p0 rfl rfl rfl ?_
            refine RegV.p0 rfl rfl rfl ?_
            refine RegV.p0 rfl rfl rfl ?_
            refine RegV.nil0 ?_
            refine AWc.seqS (N := 101) 1 (fun (z : (Bool × Bool)) => [(0, (.d (.int .u64 (IntKind.u64.wrap ((1 : Int) + (Int.fdiv a0 (2 ^ (min ((1 : Int)).toNat IntKind.u64.bits)))))))), (1, (.d (.int .u64 (IntKind.u64.wrap ((1 : Int) + (Int.fdiv a1 (2 ^ (min ((2 : Int)).toNat IntKind.u64.bits)))))))), (2, (.d (.sl (List.map (D.int .i64) a2)))), (7, (.ap 0 5 (List.map TMessage.enc y71_1))), (8, (.d (.int .i64 y38_2))), (9, (.d (.int .u64 (IntKind.u64.wrap ((IntKind.u64.wrap ((1 : Int) + (Int.fdiv a1 (2 ^ (min ((2 : Int)).toNat IntKind.u64.bits))))) + (IntKind.u64.wrap ((y38_1.length : Nat) : Int))))))), (10, (.d (.int .i64 y71_2))), (12, (.d (.bool r97.2.1))), (30, (.d (.int .i64 y38_2))), (31, (.d (.bool (decide (y38_2 < (60 : Int)))))), (62, (.d (.bool r97.2.1))), (63, (.d (.int .i64 y71_2))), (64, (.d (.bool (decide (y71_2 > (0 : Int)))))), (65, (.d (.bool (!(r97.2.1 == (decide (y71_2 > (0 : Int)))))))), (68, (.d (.int .i64 y71_2))), (69, (.d (.bool (decide (y71_2 > (0 : Int)))))), (70, (.d (.bool z.1))), (71, .any), (72, .any), (73, .any), (74, .any), (75, .any), (76, .any), (77, (.d (.bool z.2)))]) (fun z => [(0, (.tok ((List.map TMessage.enc y71_1).length * 5)))]) (fun z => f6_j136 (f6_l71 y38_2 a2 a0 a1 y38_1 k) k r97 y71_1 a0 a1 y38_1 y71_2 z.1 z.2 = some o71) rfl_le ?_ ?_
            · refine AWc.seq ?_
              refine AWc.rg hmix rfl rfl ?_
              refine RegV.p0 rfl rfl rfl ?_
              refine RegV.p0 (v := (.d (.bool (decide (r97.2.2 ≠ (0 : Int)))))) rfl rfl rfl ?_
              refine RegV.p0 rfl rfl rfl ?_
              refine RegV.split (fun c111 => ?_) (fun c111 => ?_)
              · have h71 := cond_pos c111 h71
                refine RegV.noS rfl rfl ?_
                refine RegV.noS rfl rfl ?_
                refine RegV.noS rfl rfl ?_
                refine RegV.noS rfl rfl ?_
                refine RegV.p0 rfl rfl rfl ?_
                refine RegV.p0 rfl rfl rfl ?_
                refine RegV.noS rfl rfl ?_
                refine RegV.noS rfl rfl ?_
                refine RegV.noS rfl rfl ?_
                refine RegV.noS rfl rfl ?_
                refine RegV.noS rfl rfl ?_
                refine RegV.noS rfl rfl ?_
                refine RegV.noS rfl rfl ?_
                refine RegV.noS rfl rfl ?_
                refine RegV.noS rfl rfl ?_
                refine RegV.noS rfl rfl ?_
                refine RegV.p0 rfl rfl rfl ?_
                refine RegV.nil0 ?_
                refine AWc.cond rfl (fun _ => ?_) (fun hc => by cases hc)
                refine AWc.seq ?_
                refine AWc.rg hmix rfl rfl ?_
                refine RegV.p0 rfl rfl rfl ?_
                refine RegV.nil0 ?_
                cases h71
                dsimp only at h38
                cases h38
                dsimp only at h
                have hr := Option.some.inj h
                subst hr
                exact AWc.ret (canQ (N := 101) (k := 0) (l' := [(6, (.d (.bool false)))]) (H' := []) rfl ⟨rfl, [], [], rfl, rfl, ⟨⟨_, rfl, (.refl _)⟩, rfl, trivial⟩,  trivial⟩ (doneA (.inr rfl) rfl ⟨trivial, trivial⟩ (.refl _) hasNil))
              · have h71 := cond_neg c111 h71
                refine RegV.p0 rfl rfl rfl ?_
                refine RegV.p0 rfl rfl rfl ?_
                refine RegV.p0 (v := (.d (.bool (decide (y71_2 > (0 : Int)))))) rfl rfl rfl ?_
                refine RegV.p0 (v := (.d (.bool (!(r97.2.1 == (decide (y71_2 > (0 : Int)))))))) rfl rfl rfl ?_
                refine RegV.p0 rfl rfl rfl ?_
                refine RegV.p0 rfl rfl rfl ?_
                refine RegV.split (fun c117 => ?_) (fun c117 => ?_)
                · have h71 := cond_pos c117 h71
                  refine RegV.noS rfl rfl ?_
                  refine RegV.noS rfl rfl ?_
                  refine RegV.noS rfl rfl ?_
                  refine RegV.noS rfl rfl ?_
                  refine RegV.noS rfl rfl ?_
                  refine RegV.noS rfl rfl ?_
                  refine RegV.noS rfl rfl ?_
                  refine RegV.noS rfl rfl ?_
                  refine RegV.noS rfl rfl ?_
                  refine RegV.noS rfl rfl ?_
                  refine RegV.p0 rfl rfl rfl ?_
                  refine RegV.nil0 ?_
                  refine AWc.cond rfl (fun _ => ?_) (fun hc => by cases hc)
                  refine AWc.seq ?_
                  refine AWc.rg hmix rfl rfl ?_
                  refine RegV.p0 rfl rfl rfl ?_
                  refine RegV.nil0 ?_
                  cases h71
                  dsimp only at h38
                  cases h38
                  dsimp only at h
                  have hr := Option.some.inj h
                  subst hr
                  exact AWc.ret (canQ (N := 101) (k := 0) (l' := [(6, (.d (.bool false)))]) (H' := []) rfl ⟨rfl, [], [], rfl, rfl, ⟨⟨_, rfl, (.refl _)⟩, rfl, trivial⟩,  trivial⟩ (doneA (.inr rfl) rfl ⟨trivial, trivial⟩ (.refl _) hasNil))
                · have h71 := cond_neg c117 h71
                  refine RegV.p0 rfl rfl rfl ?_
                  refine RegV.p0 (v := (.d (.bool (decide (y71_2 > (0 : Int)))))) rfl rfl rfl ?_
                  refine RegV.p0 rfl rfl rfl ?_
                  refine RegV.split (fun c120 => ?_) (fun c120 => ?_)
                  · have h71 := cond_pos c120 h71
                    refine RegV.p0 rfl rfl rfl ?_
                    refine RegV.p0 rfl rfl rfl ?_
                    refine RegV.len (xs := y71_1) (e := TMessage.enc) rfl rfl rfl rfl ?_
                    refine RegV.p0 (v := (.d (.int .i64 (IntKind.i64.wrap (((y71_1.length : Nat) : Int) - (1 : Int)))))) rfl rfl rfl ?_
                    refine RegV.p0 (v := (.d (.int .u64 (IntKind.u64.wrap (IntKind.i64.wrap (((y71_1.length : Nat) : Int) - (1 : Int))))))) rfl rfl rfl ?_
                    refine RegV.p0 (v := (.d (.bool (decide (r97.1 ≠ (IntKind.u64.wrap (IntKind.i64.wrap (((y71_1.length : Nat) : Int) - (1 : Int))))))))) rfl rfl rfl ?_
                    refine RegV.p0 rfl rfl rfl ?_
                    refine RegV.p0 rfl rfl rfl ?_
                    refine RegV.nil0 ?_
                    refine AWc.cond rfl (fun c129 => ?_) (fun c129 => ?_)
                    · have h71 := cond_pos c129 h71
                      refine AWc.seq ?_
                      refine AWc.rg hmix rfl rfl ?_
                      refine RegV.p0 rfl rfl rfl ?_
                      refine RegV.nil0 ?_
                      cases h71
                      dsimp only at h38
                      cases h38
                      dsimp only at h
                      have hr := Option.some.inj h
                      subst hr
                      exact AWc.ret (canQ (N := 101) (k := 0) (l' := [(6, (.d (.bool false)))]) (H' := []) rfl ⟨rfl, [], [], rfl, rfl, ⟨⟨_, rfl, (.refl _)⟩, rfl, trivial⟩,  trivial⟩ (doneA (.inr rfl) rfl ⟨trivial, trivial⟩ (.refl _) hasNil))
                    · have h71 := cond_neg c129 h71
                      refine AWc.skip ?_
                      exact ⟨(true, (decide (r97.1 ≠ (IntKind.u64.wrap (IntKind.i64.wrap (((y71_1.length : Nat) : Int) - (1 : Int))))))), h71, ⟨rfl, [], [], rfl, rfl, ⟨⟨_, rfl, (.refl _)⟩, rfl, ⟨⟨_, rfl, (.refl _)⟩, rfl, ⟨⟨_, rfl, (.refl _)⟩, rfl, ⟨⟨_, rfl, (.refl _)⟩, rfl, ⟨⟨_, rfl, (.refl _)⟩, rfl, ⟨⟨_, rfl, (.refl _)⟩, rfl, ⟨⟨_, rfl, (.refl _)⟩, rfl, ⟨⟨_, rfl, (.refl _)⟩, rfl, ⟨⟨_, rfl, (.refl _)⟩, rfl, ⟨⟨_, rfl, (.refl _)⟩, rfl, ⟨⟨_, rfl, (.refl _)⟩, rfl, ⟨⟨_, rfl, (.refl _)⟩, rfl, ⟨⟨_, rfl, (.refl _)⟩, rfl, ⟨⟨_, rfl, (.refl _)⟩, rfl, ⟨⟨_, rfl, (.refl _)⟩, rfl, ⟨⟨_, rfl, (.refl _)⟩, rfl, ⟨⟨_, rfl, (.refl _)⟩, rfl, ⟨⟨_, rfl, (.any _)⟩, rfl, ⟨⟨_, rfl, (.any _)⟩, rfl, ⟨⟨_, rfl, (.any _)⟩, rfl, ⟨⟨_, rfl, (.any _)⟩, rfl, ⟨⟨_, rfl, (.any _)⟩, rfl, ⟨⟨_, rfl, (.any _)⟩, rfl, ⟨⟨_, rfl, (.refl _)⟩, rfl, trivial⟩⟩⟩⟩⟩⟩⟩⟩⟩⟩⟩⟩⟩⟩⟩⟩⟩⟩⟩⟩⟩⟩⟩⟩, ⟨⟨_, rfl, (.refl _)⟩, rfl, rfl, trivial⟩⟩⟩
                  · have h71 := cond_neg c120 h71
                    refine RegV.noS rfl rfl ?_
                    refine RegV.noS rfl rfl ?_
                    refine RegV.noS rfl rfl ?_
                    refine RegV.noS rfl rfl ?_
                    refine RegV.noS rfl rfl ?_
                    refine RegV.noS rfl rfl ?_
                    refine RegV.p0 rfl rfl rfl ?_
                    refine RegV.p0 rfl rfl rfl ?_
                    refine RegV.nil0 ?_
                    refine AWc.cond rfl (fun hc => by cases hc) (fun _ => ?_)
                    refine AWc.skip ?_
                    exact ⟨(false, false), h71, ⟨rfl, [], [], rfl, rfl, ⟨⟨_, rfl, (.refl _)⟩, rfl, ⟨⟨_, rfl, (.refl _)⟩, rfl, ⟨⟨_, rfl, (.refl _)⟩, rfl, ⟨⟨_, rfl, (.refl _)⟩, rfl, ⟨⟨_, rfl, (.refl _)⟩, rfl, ⟨⟨_, rfl, (.refl _)⟩, rfl, ⟨⟨_, rfl, (.refl _)⟩, rfl, ⟨⟨_, rfl, (.refl _)⟩, rfl, ⟨⟨_, rfl, (.refl _)⟩, rfl, ⟨⟨_, rfl, (.refl _)⟩, rfl, ⟨⟨_, rfl, (.refl _)⟩, rfl, ⟨⟨_, rfl, (.refl _)⟩, rfl, ⟨⟨_, rfl, (.refl _)⟩, rfl, ⟨⟨_, rfl, (.refl _)⟩, rfl, ⟨⟨_, rfl, (.refl _)⟩, rfl, ⟨⟨_, rfl, (.refl _)⟩, rfl, ⟨⟨_, rfl, (.refl _)⟩, rfl, ⟨⟨_, rfl, (.any _)⟩, rfl, ⟨⟨_, rfl, (.any _)⟩, rfl, ⟨⟨_, rfl, (.any _)⟩, rfl, ⟨⟨_, rfl, (.any _)⟩, rfl, ⟨⟨_, rfl, (.any _)⟩, rfl, ⟨⟨_, rfl, (.any _)⟩, rfl, ⟨⟨_, rfl, (.refl _)⟩, rfl, trivial⟩⟩⟩⟩⟩⟩⟩⟩⟩⟩⟩⟩⟩⟩⟩⟩⟩⟩⟩⟩⟩⟩⟩⟩, ⟨⟨_, rfl, (.refl _)⟩, rfl, rfl, trivial⟩⟩⟩
            · rintro ⟨j136_1, j136_2⟩ h71
              dsimp only at h71 ⊢
              unfold f6_j136 at h71
              refine AWc.seq ?_
              refine AWc.rg hmix rfl rfl ?_
              refine RegV.p0 rfl rfl rfl ?_
              refine RegV.p0 (v := (.d (.bool (!r97.2.1)))) rfl rfl rfl ?_
              refine RegV.nil0 ?_
              refine AWc.cond rfl (fun c141 => ?_) (fun c141 => ?_)
              · have h71 := cond_pos c141 h71
                refine AWc.rg hmix rfl rfl ?_
                refine RegV.p0 rfl rfl rfl ?_
                refine RegV.p0 rfl rfl rfl ?_
                refine RegV.len (xs := y71_1) (e := TMessage.enc) rfl rfl rfl rfl ?_
                refine RegV.p0 (v := (.d (.int .u64 (IntKind.u64.wrap ((y71_1.length : Nat) : Int))))) rfl rfl rfl ?_
                refine RegV.p0 rfl rfl rfl ?_
                refine RegV.p0 rfl rfl rfl ?_
                refine RegV.p1 (v := (.d (.agg [(.int .u64 (IntKind.u64.wrap ((y71_1.length : Nat) : Int))), (.int .u64 (IntKind.u64.wrap ((1 : Int) + (Int.fdiv a0 (2 ^ (min ((1 : Int)).toNat IntKind.u64.bits)))))), (.int .u64 (IntKind.u64.wrap ((IntKind.u64.wrap ((1 : Int) + (Int.fdiv a1 (2 ^ (min ((2 : Int)).toNat IntKind.u64.bits))))) + (IntKind.u64.wrap ((y38_1.length : Nat) : Int))))), (.int .i64 (0 : Int)), (.sl (List.map byteD ([] : List UInt8)))]))) rfl rfl (by exact ⟨⟨rfl, Nat.le_of_ble_eq_true rfl⟩, ⟨⟨rfl, Nat.le_of_ble_eq_true rfl⟩, ⟨⟨rfl, Nat.le_of_ble_eq_true rfl⟩, trivial⟩⟩⟩) rfl rfl ?_
                refine RegV.p1 (v := (.d (.sl (List.map TMessage.enc ([(TMessage.mk (IntKind.u64.wrap ((y71_1.length : Nat) : Int)) (IntKind.u64.wrap ((1 : Int) + (Int.fdiv a0 (2 ^ (min ((1 : Int)).toNat IntKind.u64.bits))))) (IntKind.u64.wrap ((IntKind.u64.wrap ((1 : Int) + (Int.fdiv a1 (2 ^ (min ((2 : Int)).toNat IntKind.u64.bits))))) + (IntKind.u64.wrap ((y38_1.length : Nat) : Int)))) (0 : Int) ([] : List UInt8))] : List TMessage))))) rfl rfl (by exact ⟨rfl, Nat.le_of_ble_eq_true rfl, mapLen (e := TMessage.enc) (xs := ([(TMessage.mk (IntKind.u64.wrap ((y71_1.length : Nat) : Int)) (IntKind.u64.wrap ((1 : Int) + (Int.fdiv a0 (2 ^ (min ((1 : Int)).toNat IntKind.u64.bits))))) (IntKind.u64.wrap ((IntKind.u64.wrap ((1 : Int) + (Int.fdiv a1 (2 ^ (min ((2 : Int)).toNat IntKind.u64.bits))))) + (IntKind.u64.wrap ((y38_1.length : Nat) : Int)))) (0 : Int) ([] : List UInt8))] : List TMessage)) (z := 5) (fun _ => rfl)⟩) rfl rfl ?_
                obtain ⟨b152, h71⟩ := gd_some h71
                refine RegV.appA (xs := y71_1) (ys := ([(TMessage.mk (IntKind.u64.wrap ((y71_1.length : Nat) : Int)) (IntKind.u64.wrap ((1 : Int) + (Int.fdiv a0 (2 ^ (min ((1 : Int)).toNat IntKind.u64.bits))))) (IntKind.u64.wrap ((IntKind.u64.wrap ((1 : Int) + (Int.fdiv a1 (2 ^ (min ((2 : Int)).toNat IntKind.u64.bits))))) + (IntKind.u64.wrap ((y38_1.length : Nat) : Int)))) (0 : Int) ([] : List UInt8))] : List TMessage)) (e := TMessage.enc) (H1 := []) rfl rfl rfl rfl (fun _ => rfl) rfl rfl b152 rfl rfl rfl ?_
                refine RegV.p0 rfl rfl rfl ?_
                refine RegV.nil0 ?_
                refine AWc.rg hmix rfl rfl ?_
                refine RegV.p0 rfl rfl rfl ?_
                refine RegV.p0 (v := (.d (.int .i64 (IntKind.i64.wrap (y71_2 + (1 : Int)))))) rfl rfl rfl ?_
                refine RegV.p0 rfl rfl rfl ?_
                refine RegV.nil0 ?_
                exact ⟨((y71_1 ++ ([(TMessage.mk (IntKind.u64.wrap ((y71_1.length : Nat) : Int)) (IntKind.u64.wrap ((1 : Int) + (Int.fdiv a0 (2 ^ (min ((1 : Int)).toNat IntKind.u64.bits))))) (IntKind.u64.wrap ((IntKind.u64.wrap ((1 : Int) + (Int.fdiv a1 (2 ^ (min ((2 : Int)).toNat IntKind.u64.bits))))) + (IntKind.u64.wrap ((y38_1.length : Nat) : Int)))) (0 : Int) ([] : List UInt8))] : List TMessage)), (IntKind.i64.wrap (y71_2 + (1 : Int)))), h71, ⟨rfl, [], [(0, 1)], rfl, rfl, ⟨⟨_, rfl, (.refl _)⟩, rfl, ⟨⟨_, rfl, (.refl _)⟩, rfl, ⟨⟨_, rfl, (.refl _)⟩, rfl, ⟨⟨_, rfl, (.refl _)⟩, rfl, ⟨⟨_, rfl, (.refl _)⟩, rfl, ⟨⟨_, rfl, (.refl _)⟩, rfl, ⟨⟨_, rfl, (.refl _)⟩, rfl, ⟨⟨_, rfl, (.refl _)⟩, rfl, ⟨⟨_, rfl, (.refl _)⟩, rfl, trivial⟩⟩⟩⟩⟩⟩⟩⟩⟩, ⟨⟨_, rfl, (.refl _)⟩, rfl, rfl, trivial⟩⟩⟩
              · have h71 := cond_neg c141 h71
                refine AWc.skip ?_
                refine AWc.rg hmix rfl rfl ?_
                refine RegV.p0 rfl rfl rfl ?_
                refine RegV.p0 (v := (.d (.int .i64 (IntKind.i64.wrap (y71_2 + (1 : Int)))))) rfl rfl rfl ?_
                refine RegV.p0 rfl rfl rfl ?_
                refine RegV.nil0 ?_
                exact ⟨(y71_1, (IntKind.i64.wrap (y71_2 + (1 : Int)))), h71, ⟨rfl, [], [], rfl, rfl, ⟨⟨_, rfl, (.refl _)⟩, rfl, ⟨⟨_, rfl, (.refl _)⟩, rfl, ⟨⟨_, rfl, (.refl _)⟩, rfl, ⟨⟨_, rfl, (.refl _)⟩, rfl, ⟨⟨_, rfl, (.refl _)⟩, rfl, ⟨⟨_, rfl, (.refl _)⟩, rfl, ⟨⟨_, rfl, (.refl _)⟩, rfl, ⟨⟨_, rfl, (.refl _)⟩, rfl, ⟨⟨_, rfl, (.refl _)⟩, rfl, trivial⟩⟩⟩⟩⟩⟩⟩⟩⟩, ⟨⟨_, rfl, (.refl _)⟩, rfl, rfl, trivial⟩⟩⟩
          · have h71 := cond_neg c86 h71
            cases h71
            dsimp only at h38
            refine AWc.exit ?_
            refine inBlk_eq ?_
            exact ⟨y71_1, h38, ⟨rfl, [], [], rfl, rfl, ⟨⟨_, rfl, (.refl _)⟩, rfl, ⟨⟨_, rfl, (.refl _)⟩, rfl, ⟨⟨_, rfl, (.refl _)⟩, rfl, ⟨⟨_, rfl, (.refl _)⟩, rfl, ⟨⟨_, rfl, (.refl _)⟩, rfl, ⟨⟨_, rfl, (.refl _)⟩, rfl, ⟨⟨_, rfl, (.refl _)⟩, rfl, ⟨⟨_, rfl, (.refl _)⟩, rfl, trivial⟩⟩⟩⟩⟩⟩⟩⟩, ⟨⟨_, rfl, (.refl _)⟩, rfl, rfl, trivial⟩⟩⟩
        · intro j160_1 h38
          unfold f6_j160 at h38
          refine AWc.seq ?_
          refine AWc.rg hmix rfl rfl ?_
          refine RegV.p0 rfl rfl rfl ?_
          refine RegV.p0 rfl rfl rfl ?_
          refine RegV.p0 rfl rfl rfl ?_
          refine RegV.p0 (v := (.d (.int .u64 (IntKind.u64.wrap ((IntKind.u64.wrap ((IntKind.u64.wrap ((1 : Int) + (Int.fdiv a1 (2 ^ (min ((2 : Int)).toNat IntKind.u64.bits))))) + (IntKind.u64.wrap ((y38_1.length : Nat) : Int)))) + (2 : Int)))))) rfl rfl rfl ?_
          obtain ⟨r167, e167, h38⟩ := bind_some h38
          refine RegV.call0 (F34 hmix hc.2.2 e167) rfl rfl rfl rfl (.cons (.sl rfl) (.cons (.refl _) (.cons (.refl _) .nil))) rfl ?_
          refine RegV.p0 rfl rfl rfl ?_
          refine RegV.p0 rfl rfl rfl ?_
          refine RegV.p0 rfl rfl rfl ?_
          refine RegV.p0 rfl rfl rfl ?_
          refine RegV.p0 rfl rfl rfl ?_
          refine RegV.p0 rfl rfl rfl ?_
          refine RegV.p0 rfl rfl rfl ?_
          refine RegV.nil0 ?_
          refine AWc.seq ?_
          refine AWc.rg hmix rfl rfl ?_
          refine RegV.p0 rfl rfl rfl ?_
          refine RegV.p0 (v := (.d (.bool (decide (r167.2.2 ≠ (15 : Int)))))) rfl rfl rfl ?_
          refine RegV.nil0 ?_
          refine AWc.cond rfl (fun c180 => ?_) (fun c180 => ?_)
          · have h38 := cond_pos c180 h38
            refine AWc.seq ?_
            refine AWc.rg hmix rfl rfl ?_
            refine RegV.p0 rfl rfl rfl ?_
            refine RegV.nil0 ?_
            cases h38
            dsimp only at h
            have hr := Option.some.inj h
            subst hr
            exact AWc.ret (canQ (N := 101) (k := 0) (l' := [(6, (.d (.bool false)))]) (H' := []) rfl ⟨rfl, [], [], rfl, rfl, ⟨⟨_, rfl, (.refl _)⟩, rfl, trivial⟩,  trivial⟩ (doneA (.inr rfl) rfl ⟨trivial, trivial⟩ (.refl _) hasNil))
          · have h38 := cond_neg c180 h38
            refine AWc.skip ?_
            refine AWc.rg hmix rfl rfl ?_
            refine RegV.p0 rfl rfl rfl ?_
            refine RegV.p0 (v := (.d (.int .i64 (IntKind.i64.wrap (y38_2 + (1 : Int)))))) rfl rfl rfl ?_
            refine RegV.p0 rfl rfl rfl ?_
            refine RegV.nil0 ?_
            exact ⟨(j160_1, (IntKind.i64.wrap (y38_2 + (1 : Int)))), h38, ⟨rfl, [], [], rfl, rfl, ⟨⟨_, rfl, (.refl _)⟩, rfl, ⟨⟨_, rfl, (.refl _)⟩, rfl, ⟨⟨_, rfl, (.refl _)⟩, rfl, ⟨⟨_, rfl, (.refl _)⟩, rfl, ⟨⟨_, rfl, (.refl _)⟩, rfl, trivial⟩⟩⟩⟩⟩, ⟨⟨_, rfl, (.refl _)⟩, rfl, rfl, trivial⟩⟩⟩
      · have h38 := cond_neg c52 h38
        cases h38
        dsimp only at h
        refine AWc.exit ?_
        refine inBlk_eq ?_
        refine AWc.seq ?_
        refine AWc.rg hmix rfl rfl ?_
        refine RegV.p0 rfl rfl rfl ?_
        refine RegV.nil0 ?_
        have hr := Option.some.inj h
        subst hr
        exact AWc.ret (canQ (N := 101) (k := 0) (l' := [(6, (.d (.bool true)))]) (H' := []) rfl ⟨rfl, [], [], rfl, rfl, ⟨⟨_, rfl, (.refl _)⟩, rfl, trivial⟩,  trivial⟩ (doneA (.inr rfl) rfl ⟨trivial, trivial⟩ (.refl _) hasNil))
    · have h38 := cond_neg c48 h38
      refine RegV.noS rfl rfl ?_
      refine RegV.noS rfl rfl ?_
      refine RegV.p0 rfl rfl rfl ?_
      refine RegV.nil0 ?_
      refine AWc.cond rfl (fun hc => by cases hc) (fun _ => ?_)
      cases h38
      dsimp only at h
      refine AWc.exit ?_
      refine inBlk_eq ?_
      refine AWc.seq ?_
      refine AWc.rg hmix rfl rfl ?_
      refine RegV.p0 rfl rfl rfl ?_
      refine RegV.nil0 ?_
      have hr := Option.some.inj h
      subst hr
      exact AWc.ret (canQ (N := 101) (k := 0) (l' := [(6, (.d (.bool true)))]) (H' := []) rfl ⟨rfl, [], [], rfl, rfl, ⟨⟨_, rfl, (.refl _)⟩, rfl, trivial⟩,  trivial⟩ (doneA (.inr rfl) rfl ⟨trivial, trivial⟩ (.refl _) hasNil))
end Go.Proofs.Abs
